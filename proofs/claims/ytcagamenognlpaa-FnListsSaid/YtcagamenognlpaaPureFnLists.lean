/- The law FnLists answers true for every byte slice. No condition. -/
import Derived.Test.YtcagamenognlpaaPFnListsx11
import Derived.Sort.Walk0
namespace Go.Proofs.Ytcagamenognlpaa.Pure
open Go.RowKit Go.Proofs.Ytcagamenognlpaa.PFnLists Go.Proofs.YtcagamenognlpaaW.PrintWords Go.Proofs.YtcagamenognlpaaW.PrintLast Go.Proofs.YtcagamenognlpaaW.PrintMore
set_option linter.unusedVariables false
set_option linter.unusedSimpArgs false
theorem wrap_nat {m n : Nat} (h : m < n) (hn : n ≤ 140737488351232) : wrap64 ((m : Int) + 1) = ((m + 1 : Nat) : Int) := by
  unfold wrap64
  omega
theorem getD_set_self {α : Type} (l : List α) (i j : Nat) (v d : α) : (l.set i v).getD j d = if i = j ∧ i < l.length then v else l.getD j d := by
  simp only [List.getD_eq_getElem?_getD, List.getElem?_set]
  by_cases h : i = j
  · subst h
    by_cases h2 : i < l.length
    · simp [h2]
    · simp [h2]
  · simp [h]
theorem ext_getD {α : Type} (a b : List α) (d : α) (hl : a.length = b.length) (h : ∀ j, j < b.length → a.getD j d = b.getD j d) : a = b := by
  refine List.ext_getElem hl fun j h1 h2 => ?_
  have := h j h2
  simpa [List.getD_eq_getElem?_getD, List.getElem?_eq_getElem h1, List.getElem?_eq_getElem h2] using this
theorem copy_loop {α : Type} (F : Nat → Nat → List α → Option (List α)) (x0 : List α) (dv : α)
    (hend : ∀ k s, s.length = x0.length → F (k + 1) x0.length s = some s)
    (hstep : ∀ k i s, i < x0.length → s.length = x0.length → F (k + 1) i s = F k (i + 1) (s.set i (x0.getD i dv))) :
    ∀ (d k i : Nat) (s : List α), i + d = x0.length → d < k → s.length = x0.length → (∀ j, j < i → s.getD j dv = x0.getD j dv) → F k i s = some x0 := by
  intro d
  induction d with
  | zero =>
    intro k i s hi hk hs hj
    obtain ⟨k, rfl⟩ : ∃ m, k = m + 1 := ⟨k - 1, by omega⟩
    obtain rfl : i = x0.length := by omega
    rw [hend k s hs, ext_getD s x0 dv hs hj]
  | succ d ih =>
    intro k i s hi hk hs hj
    obtain ⟨k, rfl⟩ : ∃ m, k = m + 1 := ⟨k - 1, by omega⟩
    rw [hstep k i s (by omega) hs]
    refine ih k (i + 1) _ (by omega) (by omega) (by simpa using hs) fun j h => ?_
    rw [getD_set_self]
    by_cases e : i = j
    · subst e
      rw [if_pos ⟨rfl, by omega⟩]
    · rw [if_neg (fun h => e h.1)]
      exact hj j (by omega)
theorem eq_loop {α : Type} [DecidableEq α] (F : Nat → Nat → Option Bool) (x0 x1 : List α) (dv : α) (hl : x0.length = x1.length)
    (hend : ∀ k, F (k + 1) x0.length = some true)
    (hstep : ∀ k i, i < x0.length → F (k + 1) i = if x0.getD i dv = x1.getD i dv then F k (i + 1) else some false) :
    ∀ (d k i : Nat), i + d = x0.length → d < k → F k i = some (decide (x0.drop i = x1.drop i)) := by
  intro d
  induction d with
  | zero =>
    intro k i hi hk
    obtain ⟨k, rfl⟩ : ∃ m, k = m + 1 := ⟨k - 1, by omega⟩
    obtain rfl : i = x0.length := by omega
    rw [hend]
    simp [hl]
  | succ d ih =>
    intro k i hi hk
    obtain ⟨k, rfl⟩ : ∃ m, k = m + 1 := ⟨k - 1, by omega⟩
    have h0 : i < x0.length := by omega
    have h1 : i < x1.length := by omega
    rw [hstep k i h0, ih k (i + 1) (by omega) (by omega), List.drop_eq_getElem_cons h0, List.drop_eq_getElem_cons h1]
    simp only [List.getD_eq_getElem?_getD, List.getElem?_eq_getElem h0, List.getElem?_eq_getElem h1, Option.getD_some, List.cons.injEq]
    by_cases e : x0[i] = x1[i] <;> simp [e]
theorem mark_loop {α : Type} (F : Nat → Nat → List α → Option (Int × List α)) (n : Nat) (val : Nat → α)
    (hend : ∀ k s, s.length = n → F (k + 1) n s = some (1 + (n : Int), s))
    (hstep : ∀ k i s, i < n → s.length = n → F (k + 1) i s = F k (i + 1) (s.set i (val i))) (dv : α) :
    ∀ (d k i : Nat) (s : List α), i + d = n → d < k → s.length = n → (∀ j, j < i → s.getD j dv = val j) → F k i s = some (1 + (n : Int), (List.range n).map val) := by
  intro d
  induction d with
  | zero =>
    intro k i s hi hk hs hj
    obtain ⟨k, rfl⟩ : ∃ m, k = m + 1 := ⟨k - 1, by omega⟩
    obtain rfl : i = n := by omega
    rw [hend k s hs]
    have e : s = (List.range i).map val := ext_getD s _ dv (by simpa using hs) fun j h => by
      have h' : j < i := by simpa using h
      rw [hj j h']
      simp [List.getD_eq_getElem?_getD, h']
    rw [← e]
  | succ d ih =>
    intro k i s hi hk hs hj
    obtain ⟨k, rfl⟩ : ∃ m, k = m + 1 := ⟨k - 1, by omega⟩
    rw [hstep k i s (by omega) hs]
    refine ih k (i + 1) _ (by omega) (by omega) (by simpa using hs) fun j h => ?_
    rw [getD_set_self]
    by_cases e : i = j
    · subst e
      rw [if_pos ⟨rfl, by omega⟩]
    · rw [if_neg (fun h => e h.1)]
      exact hj j (by omega)
theorem held_loop (F : Nat → Nat → Option Int) (n : Nat)
    (hend : ∀ k, F (k + 1) n = some (1 + (n : Int)))
    (hstep : ∀ k i, i < n → F (k + 1) i = F k (i + 1)) :
    ∀ (d k i : Nat), i + d = n → d < k → F k i = some (1 + (n : Int)) := by
  intro d
  induction d with
  | zero =>
    intro k i hi hk
    obtain ⟨k, rfl⟩ : ∃ m, k = m + 1 := ⟨k - 1, by omega⟩
    obtain rfl : i = n := by omega
    exact hend k
  | succ d ih =>
    intro k i hi hk
    obtain ⟨k, rfl⟩ : ∃ m, k = m + 1 := ⟨k - 1, by omega⟩
    rw [hstep k i (by omega)]
    exact ih k (i + 1) (by omega) (by omega)
/-- A loop that counts up, told by its step. -/
def runL {σ ρ : Type} (step : Nat → σ → ρ ⊕ σ) (fin : σ → ρ) : Nat → Nat → σ → ρ
  | 0, _, s => fin s
  | d + 1, i, s => match step i s with
    | .inl r => r
    | .inr s' => runL step fin d (i + 1) s'
theorem loop_run {σ ρ : Type} (F : Nat → Nat → σ → Option ρ) (n : Nat) (step : Nat → σ → ρ ⊕ σ) (fin : σ → ρ) (Inv : Nat → σ → Prop)
    (hend : ∀ k s, Inv n s → F (k + 1) n s = some (fin s))
    (hstep : ∀ k i s, i < n → Inv i s → F (k + 1) i s = match step i s with
      | .inl r => some r
      | .inr s' => F k (i + 1) s')
    (hinv : ∀ i s s', i < n → Inv i s → step i s = .inr s' → Inv (i + 1) s') :
    ∀ (d k i : Nat) (s : σ), i + d = n → d < k → Inv i s → F k i s = some (runL step fin d i s) := by
  intro d
  induction d with
  | zero =>
    intro k i s hi hk hs
    obtain ⟨k, rfl⟩ : ∃ m, k = m + 1 := ⟨k - 1, by omega⟩
    obtain rfl : i = n := by omega
    exact hend k s hs
  | succ d ih =>
    intro k i s hi hk hs
    obtain ⟨k, rfl⟩ : ∃ m, k = m + 1 := ⟨k - 1, by omega⟩
    rw [hstep k i s (by omega) hs]
    unfold runL
    cases e : step i s with
    | inl r => rfl
    | inr s' => exact ih k (i + 1) s' (by omega) (by omega) (hinv i s s' (by omega) hs e)
theorem one_neg (n : Nat) : (1 + (n : Int) < 0) = False := by
  simp
  omega
theorem u8_bds {n : Int} (h : (Lit.int .u8 n).wf = true) : 0 ≤ n ∧ n ≤ 255 := by
  simp [Lit.wf, IntKind.min, IntKind.max, IntKind.signed, IntKind.bits] at h
  omega
theorem i64_bds {n : Int} (h : (Lit.int .i64 n).wf = true) : -9223372036854775808 ≤ n ∧ n ≤ 9223372036854775807 := by
  simp [Lit.wf, IntKind.min, IntKind.max, IntKind.signed, IntKind.bits] at h
  omega
theorem tmod_bd (a : Int) {b : Int} (hb : 0 < b) : -b < Int.tmod a b ∧ Int.tmod a b < b := by
  by_cases h : 0 ≤ a
  · rw [Int.tmod_eq_emod_of_nonneg h]
    have := Int.emod_nonneg a (show b ≠ 0 by omega)
    have := Int.emod_lt_of_pos a hb
    omega
  · have e : Int.tmod a b = -(Int.tmod (-a) b) := by rw [Int.neg_tmod]; omega
    rw [e, Int.tmod_eq_emod_of_nonneg (by omega)]
    have := Int.emod_nonneg (-a) (show b ≠ 0 by omega)
    have := Int.emod_lt_of_pos (-a) hb
    omega
theorem rd45 (l : List S45) (i : Nat) : rd_T45 l (i : Int) = l.getD i z45 := by simp [rd_T45]
theorem getD_mem {α : Type} (l : List α) (i : Nat) (d : α) (h : i < l.length) : l.getD i d ∈ l := by
  simp [List.getD_eq_getElem?_getD, List.getElem?_eq_getElem h]
theorem ba_ext {a b : ByteArray} : a.toList = b.toList ↔ a = b := by
  constructor
  · intro h
    rw [ByteArray.toList_eq, ByteArray.toList_eq] at h
    cases a
    cases b
    congr 1
    exact Array.ext' h
  · rintro rfl
    rfl
def idxV (l : List S45) (s : ByteArray) : Int := impl_listedAt.g l s l.length 0
theorem g_rng (l : List S45) (s : ByteArray) : ∀ (d i : Nat), i + d = l.length → impl_listedAt.g l s d (i : Int) = -1 ∨ ((i : Int) ≤ impl_listedAt.g l s d (i : Int) ∧ impl_listedAt.g l s d (i : Int) < (l.length : Int)) := by
  intro d
  induction d with
  | zero => intro i _; exact Or.inl rfl
  | succ d ih =>
    intro i hi
    unfold impl_listedAt.g
    split
    · exact Or.inr ⟨by omega, by omega⟩
    · have := ih (i + 1) (by omega)
      have e : ((i + 1 : Nat) : Int) = (i : Int) + 1 := rfl
      rw [e] at this
      omega
theorem idx_rng (l : List S45) (s : ByteArray) : idxV l s = -1 ∨ (0 ≤ idxV l s ∧ idxV l s < (l.length : Int)) := g_rng l s l.length 0 (by omega)
theorem specFind_l0 (l : List S45) (s : ByteArray) (hl : l.length ≤ 1048577) : ∀ (d k i : Nat), i + d = l.length → d < k → spec_l5Find.l0 k l s (i : Int) = some (impl_listedAt.g l s d (i : Int)) := by
  intro d
  induction d with
  | zero =>
    intro k i hi hk
    obtain ⟨k, rfl⟩ : ∃ m, k = m + 1 := ⟨k - 1, by omega⟩
    simp only [spec_l5Find.l0]
    rw [if_neg (by omega)]
    rfl
  | succ d ih =>
    intro k i hi hk
    obtain ⟨k, rfl⟩ : ∃ m, k = m + 1 := ⟨k - 1, by omega⟩
    have IH := ih k (i + 1) (by omega) (by omega)
    simp only [spec_l5Find.l0]
    rw [if_pos (by omega), if_pos (by omega), wrap_nat (by omega : i < l.length) (by omega), IH]
    rw [show impl_listedAt.g l s (d + 1) (i : Int) = if ((rd_T45 l (i : Int)).f0.toList == s.toList) = true then (i : Int) else impl_listedAt.g l s d (((i + 1 : Nat) : Int)) from rfl]
    by_cases h : (rd_T45 l (i : Int)).f0.toList = s.toList
    · rw [if_pos h, if_pos (by simpa using h)]
    · rw [if_neg h, if_neg (by simpa using h)]
theorem specFind (k : Nat) (l : List S45) (s : ByteArray) (hl : l.length ≤ 1048577) (hk : l.length < k) : spec_l5Find.f k l s = some (idxV l s) := specFind_l0 l s hl l.length k 0 (by omega) hk
theorem implFind (l : List S45) (s : ByteArray) (hl : l.length ≤ 1048577) : impl_listedAt.f l s = some (idxV l s) := by
  unfold impl_listedAt.f
  rw [if_pos (by omega)]
  rfl
theorem l1in (a b c : Int) : spec_l1In.f a b c = some (decide (b ≤ a ∧ a ≤ c)) := by
  unfold spec_l1In.f
  by_cases h : b ≤ a <;> simp [h]
theorem inr (a b c : Int) : impl_InRange.f a b c = some (decide (b ≤ a ∧ a ≤ c)) := by
  unfold impl_InRange.f
  by_cases h : b ≤ a <;> simp [h]
def allF (f : Int → Bool) : Nat → Int → Bool
  | 0, _ => true
  | d + 1, i => f i && allF f d (i + 1)
theorem wrap_up {i n : Int} (h0 : 0 ≤ i) (h : i < n) (hn : n ≤ 140737488351232) : wrap64 (i + 1) = i + 1 := by
  unfold wrap64
  omega
def letB (c : Int) : Bool := decide (97 ≤ c ∧ c ≤ 122)
def isWordB (s : ByteArray) : Bool := decide (1 ≤ s.size ∧ s.size ≤ 8) && allF (fun i => letB (bt s i)) s.size 0
theorem specIsWord_l0 (s : ByteArray) (hn : (s.size : Int) ≤ 140737488351232) : ∀ (d k : Nat) (i : Int), 0 ≤ i → (s.size : Int) - i = d → d < k →
    spec_IsWord.l0 k s i = some (allF (fun i => letB (bt s i)) d i) := by
  intro d
  induction d with
  | zero =>
    intro k i h0 hd hk
    obtain ⟨k, rfl⟩ : ∃ m, k = m + 1 := ⟨k - 1, by omega⟩
    simp only [spec_IsWord.l0]
    rw [if_neg (by omega)]
    rfl
  | succ d ih =>
    intro k i h0 hd hk
    obtain ⟨k, rfl⟩ : ∃ m, k = m + 1 := ⟨k - 1, by omega⟩
    have hlt : i < (s.size : Int) := by omega
    simp only [spec_IsWord.l0]
    rw [if_pos hlt, if_pos h0, wrap_up h0 hlt hn, ih k (i + 1) (by omega) (by omega) (by omega)]
    simp only [allF, letB]
    by_cases h1 : bt s i < 97
    · simp [h1, show ¬ 97 ≤ bt s i by omega]
    · by_cases h2 : bt s i > 122
      · simp [h1, h2, show ¬ bt s i ≤ 122 by omega]
      · simp [h1, h2, show 97 ≤ bt s i by omega, show bt s i ≤ 122 by omega]
theorem specIsWord_eq (s : ByteArray) (hn : s.size ≤ 140737488351232) (k : Nat) (hk : s.size < k) : spec_IsWord.f k s = some (isWordB s) := by
  unfold spec_IsWord.f isWordB
  rw [l1in, specIsWord_l0 s (by omega) s.size k 0 (by omega) (by omega) hk]
  simp only [Option.bind_some]
  by_cases h : 1 ≤ s.size ∧ s.size ≤ 8
  · rw [if_pos (by simp; omega)]
    simp [h]
  · rw [if_neg (by simp; omega)]
    simp [h]
theorem isLetter_eq (c : Int) : impl_isLetter.f c = some (letB c) := by
  unfold impl_isLetter.f letB
  by_cases h : c ≥ 97 <;> simp [h]
theorem implIsWord_l0 (s : ByteArray) (hn : (s.size : Int) ≤ 140737488351232) : ∀ (d k : Nat) (i : Int), 0 ≤ i → (s.size : Int) - i = d → d < k →
    impl_IsWord.l0 k s (s.size : Int) i = some (allF (fun i => letB (bt s i)) d i) := by
  intro d
  induction d with
  | zero =>
    intro k i h0 hd hk
    obtain ⟨k, rfl⟩ : ∃ m, k = m + 1 := ⟨k - 1, by omega⟩
    simp only [impl_IsWord.l0]
    rw [if_neg (by omega)]
    rfl
  | succ d ih =>
    intro k i h0 hd hk
    obtain ⟨k, rfl⟩ : ∃ m, k = m + 1 := ⟨k - 1, by omega⟩
    have hlt : i < (s.size : Int) := by omega
    simp only [impl_IsWord.l0]
    rw [if_pos hlt, if_pos h0, if_pos hlt, wrap_up h0 hlt hn, ih k (i + 1) (by omega) (by omega) (by omega), isLetter_eq]
    simp only [allF, Option.bind_some]
    cases letB (bt s i) <;> simp
theorem implIsWord_eq (s : ByteArray) (hn : s.size ≤ 140737488351232) (k : Nat) (hk : s.size < k) : impl_IsWord.f k s = some (isWordB s) := by
  unfold impl_IsWord.f isWordB
  rw [inr, implIsWord_l0 s (by omega) s.size k 0 (by omega) (by omega) hk]
  simp only [Option.bind_some]
  by_cases h : 1 ≤ s.size ∧ s.size ≤ 8
  · rw [if_pos (by simp; omega)]
    simp [h]
  · rw [if_neg (by simp; omega)]
    simp [h]
def allN (f : Nat → Bool) : Nat → Nat → Bool
  | 0, _ => true
  | d + 1, i => f i && allN f d (i + 1)
def befB (a b : ByteArray) : Bool := if (a.size : Int) = (b.size : Int) then Op.bytesLess a.toList b.toList else decide ((a.size : Int) < (b.size : Int))
def okL (x : S45) : Bool := isWordB x.f0 && decide (0 ≤ x.f1 ∧ x.f1 ≤ x.f2) && decide (x.f2 ≤ 1000) && decide (0 ≤ x.f3 ∧ x.f3 ≤ 99)
def rowOk (l : List S45) (i : Nat) : Bool := okL (l.getD i z45) && (decide (i = 0) || befB (l.getD (i - 1) z45).f0 (l.getD i z45).f0)
def isListB (l : List S45) : Bool := allN (rowOk l) l.length 0 && decide (l.length ≤ 40)
theorem befS (a b : ByteArray) : spec_BeforeWord.f a b = some (befB a b) := by
  unfold spec_BeforeWord.f befB
  split <;> rfl
theorem befI (a b : ByteArray) : impl_BeforeWord.f a b = some (befB a b) := by
  unfold impl_BeforeWord.f befB
  split <;> rfl
theorem wrap_dn {i : Nat} (h : 0 < i) (hn : i ≤ 140737488351232) : wrap64 ((i : Int) - 1) = ((i - 1 : Nat) : Int) := by
  unfold wrap64
  omega
theorem specIsList_l0 (l : List S45) (hl : l.length ≤ 1048577) (hw : ∀ x ∈ l, x.f0.size ≤ 1048576) : ∀ (d k i : Nat), i + d = l.length → d + 1048578 < k → spec_IsList.l0 k l (i : Int) = some (allN (rowOk l) d i && decide (l.length ≤ 40)) := by
  intro d
  induction d with
  | zero =>
    intro k i hi hk
    obtain ⟨k, rfl⟩ : ∃ m, k = m + 1 := ⟨k - 1, by omega⟩
    simp only [spec_IsList.l0]
    rw [if_neg (by omega)]
    simp only [allN, Bool.true_and, Option.some.injEq]
    by_cases h : l.length ≤ 40
    · simp [h]; omega
    · simp [h]; omega
  | succ d ih =>
    intro k i hi hk
    obtain ⟨k, rfl⟩ : ∃ m, k = m + 1 := ⟨k - 1, by omega⟩
    have hlt : i < l.length := by omega
    have IH := ih k (i + 1) (by omega) (by omega)
    have hx := hw _ (getD_mem l i z45 hlt)
    simp only [spec_IsList.l0, befS, l1in]
    rw [if_pos (by omega), if_pos (by omega), rd45, specIsWord_eq _ (by omega) k (by omega), wrap_nat hlt (by omega), IH]
    simp only [Option.bind_some, allN, rowOk, okL]
    generalize hxx : l.getD i z45 = x
    generalize allN (rowOk l) d (i + 1) = t
    cases isWordB x.f0
    · simp
    by_cases h1 : x.f1 < 0
    · simp [h1, show ¬ 0 ≤ x.f1 by omega]
    by_cases h2 : x.f1 > x.f2
    · simp [h1, h2, show ¬ x.f1 ≤ x.f2 by omega]
    by_cases h3 : x.f2 > 1000
    · simp [h1, h2, h3, show ¬ x.f2 ≤ 1000 by omega]
    by_cases h4 : 0 ≤ x.f3 ∧ x.f3 ≤ 99
    · by_cases hi0 : i = 0
      · subst hi0
        simp [h1, h2, h3, h4, show x.f2 ≤ 1000 by omega, show 0 ≤ x.f1 by omega, show x.f1 ≤ x.f2 by omega]
      · have hp : 0 < i := by omega
        rw [wrap_dn hp (by omega), rd45]
        generalize befB (l.getD (i - 1) z45).f0 x.f0 = b
        have e1 : ((i - 1 : Nat) : Int) < (l.length : Int) := by omega
        have e2 : (0 : Int) ≤ ((i - 1 : Nat) : Int) := by omega
        have e3 : (i : Int) > 0 := by omega
        rw [if_pos rfl, if_neg h1, if_neg h2, if_neg h3]
        simp only [h4, and_self, decide_true, if_true, e1, e2, e3]
        cases b <;> simp [hi0, show x.f2 ≤ 1000 by omega, show 0 ≤ x.f1 by omega, show x.f1 ≤ x.f2 by omega]
    · simp [h1, h2, h3, h4]
theorem specIsList (k : Nat) (l : List S45) (hl : l.length ≤ 1048577) (hw : ∀ x ∈ l, x.f0.size ≤ 1048576) (hk : l.length + 1048578 < k) : spec_IsList.f k l = some (isListB l) := by
  unfold spec_IsList.f isListB
  exact specIsList_l0 l hl hw l.length k 0 (by omega) hk
theorem implIsList_l0 (l : List S45) (hl : l.length ≤ 1048577) (hw : ∀ x ∈ l, x.f0.size ≤ 1048576) : ∀ (d k i : Nat), i + d = l.length → d + 1048578 < k → impl_IsList.l0 k l l (l.length : Int) (i : Int) = some (allN (rowOk l) d i) := by
  intro d
  induction d with
  | zero =>
    intro k i hi hk
    obtain ⟨k, rfl⟩ : ∃ m, k = m + 1 := ⟨k - 1, by omega⟩
    simp only [impl_IsList.l0]
    rw [if_neg (by omega)]
    rfl
  | succ d ih =>
    intro k i hi hk
    obtain ⟨k, rfl⟩ : ∃ m, k = m + 1 := ⟨k - 1, by omega⟩
    have hlt : i < l.length := by omega
    have IH := ih k (i + 1) (by omega) (by omega)
    have hx := hw _ (getD_mem l i z45 hlt)
    simp only [impl_IsList.l0, befI, inr]
    rw [if_pos (by omega), if_pos (by omega), if_pos (by omega), rd45, implIsWord_eq _ (by omega) k (by omega), wrap_nat hlt (by omega), IH]
    simp only [Option.bind_some, allN, rowOk, okL]
    generalize hxx : l.getD i z45 = x
    generalize allN (rowOk l) d (i + 1) = t
    by_cases hi0 : i = 0
    · subst hi0
      rw [if_neg (by omega)]
      cases isWordB x.f0
      · simp
      by_cases h1 : 0 ≤ x.f1 ∧ x.f1 ≤ x.f2
      · by_cases h3 : x.f2 > 1000
        · simp [h1, h3, show ¬ x.f2 ≤ 1000 by omega]
        · by_cases h4 : 0 ≤ x.f3 ∧ x.f3 ≤ 99
          · simp [h1, h3, h4, show x.f2 ≤ 1000 by omega]
          · simp [h1, h3, h4]
      · simp [h1]
    · have hp : 0 < i := by omega
      rw [if_pos (by omega), wrap_dn hp (by omega), rd45, if_pos (by omega), if_pos (by omega)]
      generalize befB (l.getD (i - 1) z45).f0 x.f0 = b
      cases b
      · simp [hi0]
      cases isWordB x.f0
      · simp
      by_cases h1 : 0 ≤ x.f1 ∧ x.f1 ≤ x.f2
      · by_cases h3 : x.f2 > 1000
        · simp [h1, h3, show ¬ x.f2 ≤ 1000 by omega]
        · by_cases h4 : 0 ≤ x.f3 ∧ x.f3 ≤ 99
          · simp [h1, h3, h4, show x.f2 ≤ 1000 by omega]
          · simp [h1, h3, h4]
      · simp [h1]
theorem implIsList (k : Nat) (l : List S45) (hl : l.length ≤ 1048577) (hw : ∀ x ∈ l, x.f0.size ≤ 1048576) (hk : l.length + 1048578 < k) : impl_IsList.f k l = some (isListB l) := by
  unfold impl_IsList.f isListB
  by_cases h : (l.length : Int) > 40
  · rw [if_pos h]
    simp [show ¬ l.length ≤ 40 by omega]
  · have e : impl_IsList.l0 k l l (l.length : Int) 0 = some (allN (rowOk l) l.length 0) := implIsList_l0 l hl hw l.length k 0 (by omega) hk
    rw [if_neg h, e]
    simp [show l.length ≤ 40 by omega]
def posV (l : List S45) (s : ByteArray) : Nat → Nat → Nat
  | 0, i => i
  | d + 1, i => if befB (l.getD i z45).f0 s = true then posV l s d (i + 1) else i
theorem posV_rng (l : List S45) (s : ByteArray) : ∀ (d i : Nat), i ≤ posV l s d i ∧ posV l s d i ≤ i + d := by
  intro d
  induction d with
  | zero => intro i; exact ⟨Nat.le_refl _, Nat.le_refl _⟩
  | succ d ih =>
    intro i
    unfold posV
    have := ih (i + 1)
    split <;> omega
def insV (l : List S45) (n : Nat) (x : S45) : List S45 := l.take n ++ [x] ++ l.drop n
theorem insV_len (l : List S45) (n : Nat) (x : S45) (h : n ≤ l.length) : (insV l n x).length = l.length + 1 := by
  simp only [insV, List.length_append, List.length_take, List.length_drop, List.length_cons, List.length_nil]
  omega
theorem insV_small (l : List S45) (n : Nat) (x : S45) (B : Nat) (h : ∀ y ∈ l, y.f0.size ≤ B) (hx : x.f0.size ≤ B) : ∀ y ∈ insV l n x, y.f0.size ≤ B := by
  intro y hy
  simp only [insV, List.mem_append, List.mem_cons, List.not_mem_nil, or_false] at hy
  rcases hy with (hy | rfl) | hy
  · exact h y (List.mem_of_mem_take hy)
  · exact hx
  · exact h y (List.mem_of_mem_drop hy)
def addR (l : List S45) (x : S45) (n : Nat) : List S45 × Bool := if idxV l x.f0 ≥ 0 then (l, false) else if isListB (insV l n x) = true then (insV l n x, true) else (l, false)
def addV (l : List S45) (x : S45) : List S45 × Bool := addR l x (posV l x.f0 l.length 0)
theorem addV_len (l : List S45) (x : S45) : (addV l x).1.length ≤ l.length + 1 := by
  have h := posV_rng l x.f0 l.length 0
  unfold addV addR
  split
  · show l.length ≤ _
    omega
  · split
    · show (insV l _ x).length ≤ _
      rw [insV_len l _ x (by omega)]
      omega
    · show l.length ≤ _
      omega
theorem specAdd_j1 (l : List S45) (hl : l.length ≤ 1048576) (hw : ∀ x ∈ l, x.f0.size ≤ 1048576) (x : S45) (hx : x.f0.size ≤ 1048576) (n : Nat) (hn : n ≤ l.length) (k : Nat) (hk : l.length + 1048600 < k) :
    spec_AddWord.j1 (k + 1) l (n : Int) x.f0 x.f1 x.f2 x.f3 = some (addR l x n) := by
  simp only [spec_AddWord.j1, Option.bind_some, List.nil_append, List.length_nil, Int.toNat_natCast]
  have h1 : (l.take n).length ≤ l.length := by rw [List.length_take]; omega
  have h2 : (l.drop n).length ≤ l.length := by rw [List.length_drop]; omega
  have h3 : (l.take n ++ [(⟨x.f0, x.f1, x.f2, x.f3⟩ : S45)]).length ≤ l.length + 1 := by rw [List.length_append]; simp only [List.length_cons, List.length_nil]; omega
  have e : spec_IsList.f k (l.take n ++ [(⟨x.f0, x.f1, x.f2, x.f3⟩ : S45)] ++ l.drop n) = some (isListB (insV l n x)) := specIsList k (insV l n x) (by rw [insV_len l n x hn]; omega) (insV_small l n x 1048576 hw hx) (by rw [insV_len l n x hn]; omega)
  rw [if_pos (by omega), if_pos (by omega), if_pos (by omega), if_pos (by simp only [List.length_cons, List.length_nil]; omega), if_pos (by omega), specFind k l x.f0 (by omega) (by omega), e]
  simp only [Option.bind_some]
  unfold addR
  by_cases h : idxV l x.f0 ≥ 0
  · rw [if_pos h, if_pos h, if_pos (by omega)]
  · rw [if_neg h, if_neg h]
    by_cases hB : isListB (insV l n x) = true
    · rw [if_pos hB, if_pos hB]
      rfl
    · rw [if_neg hB, if_neg hB, if_pos (by omega)]
theorem specAdd_l0 (l : List S45) (hl : l.length ≤ 1048576) (hw : ∀ x ∈ l, x.f0.size ≤ 1048576) (x : S45) (hx : x.f0.size ≤ 1048576) : ∀ (d k i : Nat), i + d = l.length → d + l.length + 1048610 < k →
    spec_AddWord.l0 k l (i : Int) x.f0 x.f1 x.f2 x.f3 = some (addR l x (posV l x.f0 d i)) := by
  intro d
  induction d with
  | zero =>
    intro k i hi hk
    obtain ⟨k, rfl⟩ : ∃ m, k = m + 1 + 1 := ⟨k - 2, by omega⟩
    have J := specAdd_j1 l hl hw x hx i (by omega) k (by omega)
    obtain ⟨K, hK⟩ : ∃ K, K = k + 1 := ⟨_, rfl⟩
    rw [← hK] at J ⊢
    rw [spec_AddWord.l0]
    rw [if_neg (by omega), J]
    rfl
  | succ d ih =>
    intro k i hi hk
    obtain ⟨k, rfl⟩ : ∃ m, k = m + 1 + 1 := ⟨k - 2, by omega⟩
    have J := specAdd_j1 l hl hw x hx i (by omega) k (by omega)
    have IH := ih (k + 1) (i + 1) (by omega) (by omega)
    obtain ⟨K, hK⟩ : ∃ K, K = k + 1 := ⟨_, rfl⟩
    rw [← hK] at J IH ⊢
    rw [spec_AddWord.l0]
    rw [if_pos (by omega), if_pos (by omega), rd45, befS, wrap_nat (by omega : i < l.length) (by omega), IH, J]
    simp only [Option.bind_some, posV]
    by_cases h : befB (l.getD i z45).f0 x.f0 = true
    · rw [if_pos h, if_pos h]
    · rw [if_neg h, if_neg h]
theorem specAdd (k : Nat) (l : List S45) (hl : l.length ≤ 1048576) (hw : ∀ x ∈ l, x.f0.size ≤ 1048576) (x : S45) (hx : x.f0.size ≤ 1048576) (hk : 2 * l.length + 1048620 < k) : spec_AddWord.f k l x.f0 x.f1 x.f2 x.f3 = some (addV l x) := specAdd_l0 l hl hw x hx l.length k 0 (by omega) (by omega)
theorem implAdd_j1 (l : List S45) (hl : l.length ≤ 1048576) (hw : ∀ x ∈ l, x.f0.size ≤ 1048576) (x : S45) (hx : x.f0.size ≤ 1048576) (hf : ¬ idxV l x.f0 ≥ 0) (n : Nat) (hn : n ≤ l.length) (k : Nat) (hk : l.length + 1048600 < k) :
    impl_AddWord.j1 (k + 1) l (n : Int) x.f0 x.f1 x.f2 x.f3 = some (addR l x n) := by
  have hc : impl_Listed.f l = some l := by
    unfold impl_Listed.f
    rw [if_pos (by omega)]
  have e0 : impl_AddWord.insL l (n : Int) ⟨x.f0, x.f1, x.f2, x.f3⟩ = insV l n x := by
    unfold impl_AddWord.insL insV
    rw [Int.toNat_natCast]
  have e : impl_IsList.f k (insV l n x) = some (isListB (insV l n x)) := implIsList k (insV l n x) (by rw [insV_len l n x hn]; omega) (insV_small l n x 1048576 hw hx) (by rw [insV_len l n x hn]; omega)
  simp only [impl_AddWord.j1, hc, Option.bind_some, e0, Int.toNat_natCast]
  rw [if_pos (by omega), if_pos ⟨hn, by omega⟩, e]
  simp only [Option.bind_some]
  unfold addR
  rw [if_neg hf]
  by_cases hB : isListB (insV l n x) = true
  · rw [if_pos hB, if_pos hB]
  · rw [if_neg hB, if_neg hB]
theorem implAdd_l0 (l : List S45) (hl : l.length ≤ 1048576) (hw : ∀ x ∈ l, x.f0.size ≤ 1048576) (x : S45) (hx : x.f0.size ≤ 1048576) (hf : ¬ idxV l x.f0 ≥ 0) : ∀ (d k i : Nat), i + d = l.length → d + l.length + 1048610 < k →
    impl_AddWord.l0 k l (i : Int) x.f0 x.f1 x.f2 x.f3 = some (addR l x (posV l x.f0 d i)) := by
  intro d
  induction d with
  | zero =>
    intro k i hi hk
    obtain ⟨k, rfl⟩ : ∃ m, k = m + 1 + 1 := ⟨k - 2, by omega⟩
    have J := implAdd_j1 l hl hw x hx hf i (by omega) k (by omega)
    obtain ⟨K, hK⟩ : ∃ K, K = k + 1 := ⟨_, rfl⟩
    rw [← hK] at J ⊢
    rw [impl_AddWord.l0]
    rw [if_neg (by omega), J]
    rfl
  | succ d ih =>
    intro k i hi hk
    obtain ⟨k, rfl⟩ : ∃ m, k = m + 1 + 1 := ⟨k - 2, by omega⟩
    have J := implAdd_j1 l hl hw x hx hf i (by omega) k (by omega)
    have IH := ih (k + 1) (i + 1) (by omega) (by omega)
    obtain ⟨K, hK⟩ : ∃ K, K = k + 1 := ⟨_, rfl⟩
    rw [← hK] at J IH ⊢
    rw [impl_AddWord.l0]
    rw [if_pos (by omega), if_pos (by omega), rd45, befI, wrap_nat (by omega : i < l.length) (by omega), IH, J]
    simp only [Option.bind_some, posV]
    by_cases h : befB (l.getD i z45).f0 x.f0 = true
    · rw [if_pos h, if_pos h]
    · rw [if_neg h, if_neg h]
theorem implAdd (k : Nat) (l : List S45) (hl : l.length ≤ 1048576) (hw : ∀ x ∈ l, x.f0.size ≤ 1048576) (x : S45) (hx : x.f0.size ≤ 1048576) (hk : 2 * l.length + 1048620 < k) : impl_AddWord.f k l x.f0 x.f1 x.f2 x.f3 = some (addV l x) := by
  have hc : impl_Listed.f l = some l := by
    unfold impl_Listed.f
    rw [if_pos (by omega)]
  unfold impl_AddWord.f
  rw [implFind l x.f0 (by omega), hc]
  simp only [Option.bind_some]
  by_cases h : idxV l x.f0 ≥ 0
  · rw [if_pos h]
    unfold addV addR
    rw [if_pos h]
  · rw [if_neg h]
    exact implAdd_l0 l hl hw x hx h l.length k 0 (by omega) (by omega)
def setUntil (x : S45) (t : Int) : S45 := ⟨x.f0, x.f1, t, x.f3⟩
def endV (l : List S45) (s : ByteArray) (t : Int) : List S45 × Bool :=
  if idxV l s < 0 then (l, false) else if (rd_T45 l (idxV l s)).f2 < t then (l, false) else if isListB (l.set (idxV l s).toNat (setUntil (rd_T45 l (idxV l s)) t)) = true then (l.set (idxV l s).toNat (setUntil (rd_T45 l (idxV l s)) t), true) else (l, false)
theorem endV_len (l : List S45) (s : ByteArray) (t : Int) : (endV l s t).1.length = l.length := by
  unfold endV
  repeat' split
  all_goals simp
theorem set_small (l : List S45) (i : Nat) (x : S45) (B : Nat) (h : ∀ y ∈ l, y.f0.size ≤ B) (hx : x.f0.size ≤ B) : ∀ y ∈ l.set i x, y.f0.size ≤ B := by
  intro y hy
  rcases List.mem_or_eq_of_mem_set hy with h1 | h1
  · exact h y h1
  · rw [h1]; exact hx
theorem rd_small (l : List S45) (i : Int) (h0 : 0 ≤ i) (hi : i < (l.length : Int)) (B : Nat) (h : ∀ y ∈ l, y.f0.size ≤ B) : (rd_T45 l i).f0.size ≤ B := by
  unfold rd_T45
  exact h _ (getD_mem l i.toNat z45 (by omega))
theorem implEnd (k : Nat) (l : List S45) (s : ByteArray) (t : Int) (hl : l.length ≤ 1048577) (hw : ∀ x ∈ l, x.f0.size ≤ 1048576) (hk : l.length + 1048600 < k) : impl_EndWord.f k l s t = some (endV l s t) := by
  obtain ⟨K, rfl⟩ : ∃ m, k = m + 1 := ⟨k - 1, by omega⟩
  have hc : impl_Listed.f l = some l := by
    unfold impl_Listed.f
    rw [if_pos (by omega)]
  unfold impl_EndWord.f endV
  have hr := idx_rng l s
  rw [hc, implFind l s hl]
  simp only [Option.bind_some]
  by_cases h : idxV l s < 0
  · rw [if_pos h, if_pos h]
    simp only [impl_EndWord.j0]
    rfl
  · have h2 : 0 ≤ idxV l s ∧ idxV l s < (l.length : Int) := by omega
    rw [if_neg h, if_neg h, if_pos h2.1, if_pos h2.2]
    by_cases ht : (rd_T45 l (idxV l s)).f2 < t
    · rw [if_pos ht, decide_eq_true ht]
      simp only [impl_EndWord.j0]
      rfl
    · rw [if_neg ht, decide_eq_false ht]
      simp only [impl_EndWord.j0, Bool.false_eq_true, if_false, Option.bind_some, hc]
      have e : impl_IsList.f K (l.set (idxV l s).toNat ⟨(rd_T45 l (idxV l s)).f0, (rd_T45 l (idxV l s)).f1, t, (rd_T45 l (idxV l s)).f3⟩) = some (isListB (l.set (idxV l s).toNat (setUntil (rd_T45 l (idxV l s)) t))) := implIsList K (l.set (idxV l s).toNat (setUntil (rd_T45 l (idxV l s)) t)) (by simp; omega) (set_small l _ (setUntil (rd_T45 l (idxV l s)) t) 1048576 hw (rd_small l (idxV l s) h2.1 h2.2 _ hw)) (by simp; omega)
      rw [if_pos h2.1, if_pos h2.2, e]
      simp only [Option.bind_some]
      by_cases hB : isListB (l.set (idxV l s).toNat (setUntil (rd_T45 l (idxV l s)) t)) = true
      · rw [if_pos hB, if_pos hB]
        rfl
      · rw [if_neg hB, if_neg hB]
def scV (l : List S45) (ws : List ByteArray) : Nat → Nat → Int → Int
  | 0, _, acc => acc
  | d + 1, j, acc => scV l ws d (j + 1) (if idxV l (ws.getD j ByteArray.empty) ≥ 0 then wrap64 (acc + (rd_T45 l (idxV l (ws.getD j ByteArray.empty))).f3) else acc)
def scoreV (l : List S45) (ws : List ByteArray) : Int := if isListB l = true then scV l ws ws.length 0 0 else 0
theorem implScore_l0 (l : List S45) (ws : List ByteArray) (hl : l.length ≤ 1048577) (hws : ws.length ≤ 1048577) : ∀ (d k i : Nat) (acc : Int), i + d = ws.length → d < k →
    impl_ScoreOf.l0 k l acc ws (ws.length : Int) (i : Int) = some (scV l ws d i acc) := by
  intro d
  induction d with
  | zero =>
    intro k i acc hi hk
    obtain ⟨k, rfl⟩ : ∃ m, k = m + 1 := ⟨k - 1, by omega⟩
    simp only [impl_ScoreOf.l0]
    rw [if_neg (by omega)]
    rfl
  | succ d ih =>
    intro k i acc hi hk
    obtain ⟨k, rfl⟩ : ∃ m, k = m + 1 := ⟨k - 1, by omega⟩
    have hlt : i < ws.length := by omega
    have er : rdOf ByteArray.empty ws (i : Int) = ws.getD i ByteArray.empty := by simp [rdOf]
    simp only [impl_ScoreOf.l0]
    rw [if_pos (by omega), if_pos (by omega), if_pos (by omega), er, implFind l _ hl, wrap_nat hlt (by omega)]
    simp only [Option.bind_some, scV]
    have hr := idx_rng l (ws.getD i ByteArray.empty)
    by_cases h : idxV l (ws.getD i ByteArray.empty) ≥ 0
    · rw [if_pos h, if_pos h, if_pos (by omega), ih k (i + 1) _ (by omega) (by omega), if_pos h]
    · rw [if_neg h, ih k (i + 1) _ (by omega) (by omega), if_neg h]
theorem implScore (k : Nat) (l : List S45) (ws : List ByteArray) (hl : l.length ≤ 1048577) (hws : ws.length ≤ 1048577) (hw : ∀ x ∈ l, x.f0.size ≤ 1048576) (hk : 2 * ws.length + l.length + 1048600 < k) : impl_ScoreOf.f k l ws = some (scoreV l ws) := by
  unfold impl_ScoreOf.f scoreV
  rw [implIsList k l hl hw (by omega)]
  simp only [Option.bind_some]
  by_cases hB : isListB l = true
  · rw [if_pos hB, if_pos hB]
    exact implScore_l0 l ws hl hws ws.length k 0 0 (by omega) (by omega)
  · rw [if_neg hB, if_neg hB]
def inT (t : Int) (x : S45) : Bool := decide (x.f1 ≤ t ∧ t ≤ x.f2)
def sel (t : Int) (l : List S45) : List ByteArray := (l.filter (inT t)).map (·.f0)
def wordsV (l : List S45) (t : Int) : List ByteArray := if isListB l = true then sel t l else []
theorem sel_len (t : Int) (l : List S45) : (sel t l).length ≤ l.length := by
  unfold sel
  rw [List.length_map]
  exact List.length_filter_le _ _
theorem sel_drop (t : Int) (l : List S45) (i : Nat) (h : i < l.length) : sel t (l.drop i) = (if inT t (l.getD i z45) = true then [(l.getD i z45).f0] else []) ++ sel t (l.drop (i + 1)) := by
  have e : l.getD i z45 = l[i] := by simp [List.getD_eq_getElem?_getD, List.getElem?_eq_getElem h]
  rw [e, List.drop_eq_getElem_cons h]
  unfold sel
  rw [List.filter_cons]
  by_cases hp : inT t l[i] = true
  · rw [if_pos hp, if_pos hp, List.map_cons]
    rfl
  · rw [if_neg hp, if_neg hp]
    rfl
theorem implWordsAt_l0 (l : List S45) (t : Int) (hl : l.length ≤ 1048577) : ∀ (d k i : Nat) (acc : List ByteArray), i + d = l.length → acc.length ≤ i → d < k →
    impl_WordsAt.l0 k t acc l (l.length : Int) (i : Int) = some (acc ++ sel t (l.drop i)) := by
  intro d
  induction d with
  | zero =>
    intro k i acc hi ha hk
    obtain ⟨k, rfl⟩ : ∃ m, k = m + 1 := ⟨k - 1, by omega⟩
    simp only [impl_WordsAt.l0]
    rw [if_neg (by omega), List.drop_of_length_le (by omega)]
    simp [sel]
  | succ d ih =>
    intro k i acc hi ha hk
    obtain ⟨k, rfl⟩ : ∃ m, k = m + 1 := ⟨k - 1, by omega⟩
    have hlt : i < l.length := by omega
    simp only [impl_WordsAt.l0, inr, Option.bind_some, rd45]
    rw [if_pos (by omega), if_pos (by omega), if_pos (by omega), wrap_nat hlt (by omega), sel_drop t l i hlt]
    by_cases h : inT t (l.getD i z45) = true
    · have h' : decide ((l.getD i z45).f1 ≤ t ∧ t ≤ (l.getD i z45).f2) = true := h
      rw [h', if_pos rfl, if_pos (by omega), ih k (i + 1) _ (by omega) (by simp; omega) (by omega), if_pos h, List.append_assoc]
    · have h' : ¬ decide ((l.getD i z45).f1 ≤ t ∧ t ≤ (l.getD i z45).f2) = true := h
      rw [if_neg h', ih k (i + 1) _ (by omega) (by omega) (by omega), if_neg h, List.nil_append]
theorem implWordsAt (k : Nat) (l : List S45) (t : Int) (hl : l.length ≤ 1048577) (hw : ∀ x ∈ l, x.f0.size ≤ 1048576) (hk : 3 * l.length + 1048600 < k) : impl_WordsAt.f k l t = some (wordsV l t) := by
  unfold impl_WordsAt.f wordsV
  rw [implIsList k l hl hw (by omega)]
  simp only [Option.bind_some]
  by_cases hB : isListB l = true
  · rw [if_pos hB, if_pos hB]
    have h := implWordsAt_l0 l t hl l.length k 0 [] (by omega) (by simp) (by omega)
    simpa using h
  · rw [if_neg hB, if_neg hB]
theorem wordsV_len (l : List S45) (t : Int) : (wordsV l t).length ≤ l.length := by
  unfold wordsV
  split
  · exact sel_len t l
  · simp
def hasB (l : List ByteArray) (s : ByteArray) : Bool := l.any fun t => decide (t = s)
theorem has_drop (l : List ByteArray) (s : ByteArray) (i : Nat) (h : i < l.length) : hasB (l.drop i) s = (decide (l[i] = s) || hasB (l.drop (i + 1)) s) := by
  rw [List.drop_eq_getElem_cons h]
  rfl
theorem has_mem (l : List ByteArray) (s : ByteArray) : hasB l s = true ↔ s ∈ l := by
  unfold hasB
  rw [List.any_eq_true]
  constructor
  · rintro ⟨t, ht, e⟩
    have := of_decide_eq_true e
    rwa [← this]
  · intro h
    exact ⟨s, h, by simp⟩
theorem implHas_l0 (l : List ByteArray) (s : ByteArray) (hl : l.length ≤ 1000000000000) : ∀ (d k i : Nat), i + d = l.length → d < k → ∃ r : Int, slices_Index_string_string.l0 k l s (l.length : Int) (i : Int) = some r ∧ (r ≥ 0 ↔ hasB (l.drop i) s = true) := by
  intro d
  induction d with
  | zero =>
    intro k i hi hk
    obtain ⟨k, rfl⟩ : ∃ m, k = m + 1 := ⟨k - 1, by omega⟩
    simp only [slices_Index_string_string.l0]
    rw [if_neg (by omega)]
    refine ⟨-1, rfl, ?_⟩
    rw [List.drop_eq_nil_of_le (by omega)]
    simp [hasB]
  | succ d ih =>
    intro k i hi hk
    obtain ⟨k, rfl⟩ : ∃ m, k = m + 1 := ⟨k - 1, by omega⟩
    simp only [slices_Index_string_string.l0]
    have hlt : i < l.length := by omega
    have e : rdOf ByteArray.empty l (i : Int) = l[i] := by simp [rdOf, List.getD_eq_getElem?_getD, List.getElem?_eq_getElem hlt]
    rw [if_pos (by omega), if_pos (by omega), if_pos (by omega), e]
    simp only [ba_ext]
    rw [has_drop l s i hlt]
    by_cases h : s = l[i]
    · rw [if_pos h]
      exact ⟨i, rfl, by simp [h]⟩
    · rw [if_neg h, wrap_nat hlt (by omega)]
      obtain ⟨r, er, hr⟩ := ih k (i + 1) (by omega) (by omega)
      have h' : ¬ l[i] = s := fun e => h e.symm
      exact ⟨r, er, by rw [hr]; simp [h']⟩
theorem implHas (k : Nat) (l : List ByteArray) (s : ByteArray) (hl : l.length ≤ 1000000000000) (hk : l.length < k) : impl_HasWord.f k l s = some (hasB l s) := by
  unfold impl_HasWord.f slices_Contains_string_string.f slices_Index_string_string.f
  obtain ⟨r, er, hr⟩ := implHas_l0 l s hl l.length k 0 (by omega) hk
  have er' : slices_Index_string_string.l0 k l s (l.length : Int) 0 = some r := er
  rw [er']
  simp only [Option.bind_some]
  congr 1
  have hr' : r ≥ 0 ↔ hasB l s = true := hr
  rw [Bool.eq_iff_iff, decide_eq_true_iff]
  exact hr'
theorem wraps62 (n : Int) (h0 : 0 ≤ n) (h1 : n < 2 ^ 62) : IntKind.i64.wrap n = n := by
  rw [IntKind.wrap_i64]
  omega
theorem and127 (c : Int) (h0 : 0 ≤ c) (h1 : c < 2 ^ 62) : Go.bits .and .i64 c 127 = c % 128 := bits_mask .i64 62 (by decide) wraps62 7 (by decide) c h0 h1
theorem or_low (n s : Int) (j : Nat) (hj : j ≤ 62) (h0 : 0 ≤ n) (h1 : n < 2 ^ j) (hs0 : 0 ≤ s) (hs : s % 2 ^ j = 0) (hs1 : s < 2 ^ 62) : Go.bits .or .i64 n s = n + s := by
  have hn : n < 2 ^ 62 := Int.lt_of_lt_of_le h1 (by have h := Nat.pow_le_pow_right (show 0 < 2 by decide) hj; exact_mod_cast h)
  have e := bits_join .i64 62 (by decide) wraps62 j s n hs0 hs hs1 h0 h1 hn
  obtain ⟨a, rfl⟩ := Int.eq_ofNat_of_zero_le h0
  obtain ⟨b, rfl⟩ := Int.eq_ofNat_of_zero_le hs0
  have ha : a < 2 ^ 62 := by exact_mod_cast hn
  have hb : b < 2 ^ 62 := by exact_mod_cast hs1
  rw [(bits_nat .i64 62 (by decide) wraps62 a b ha hb).2]
  rw [(bits_nat .i64 62 (by decide) wraps62 b a hb ha).2] at e
  rw [Nat.or_comm, e]
  omega
/-- What a byte adds to a varint's number. -/
theorem comb_eq (n c : Int) (i : Nat) (hi : i < 6) (h0 : 0 ≤ n) (h1 : n < 2 ^ (7 * i)) (hc : 0 ≤ c ∧ c ≤ 255) :
    Go.bits .or .i64 n (shl .i64 (Go.bits .and .i64 c 127) (7 * (i : Int))) = n + c % 128 * 2 ^ (7 * i) := by
  rw [and127 c hc.1 (by omega)]
  have hm : 0 ≤ c % 128 ∧ c % 128 < 128 := ⟨by omega, by omega⟩
  generalize c % 128 = m at hm
  have e : shl .i64 m (7 * (i : Int)) = m * 2 ^ (7 * i) := by
    unfold shl
    have : min (7 * (i : Int)).toNat IntKind.i64.bits = 7 * i := by
      show min (7 * (i : Int)).toNat 64 = 7 * i
      omega
    rw [this]
    have hi' : i = 0 ∨ i = 1 ∨ i = 2 ∨ i = 3 ∨ i = 4 ∨ i = 5 := by omega
    rcases hi' with rfl | rfl | rfl | rfl | rfl | rfl <;> exact wraps62 _ (by simp; omega) (by simp; omega)
  rw [e]
  have hi' : i = 0 ∨ i = 1 ∨ i = 2 ∨ i = 3 ∨ i = 4 ∨ i = 5 := by omega
  refine or_low n _ (7 * i) (by omega) h0 h1 (by rcases hi' with rfl | rfl | rfl | rfl | rfl | rfl <;> simp <;> omega) (Int.mul_emod_left _ _) ?_
  rcases hi' with rfl | rfl | rfl | rfl | rfl | rfl <;> simp <;> omega
theorem and_mask (x : Int) (m : Nat) (hm : m < 2 ^ 31) : 0 ≤ Go.bits .and .i64 x m ∧ Go.bits .and .i64 x m ≤ m := by
  have h : (BitVec.ofInt 64 x &&& BitVec.ofInt 64 (m : Int)).toNat ≤ m := by
    rw [BitVec.toNat_and]
    refine Nat.le_trans Nat.and_le_right ?_
    rw [BitVec.ofInt_natCast, BitVec.toNat_ofNat]
    exact Nat.mod_le _ _
  have e : Go.bits .and .i64 x m = (((BitVec.ofInt 64 x &&& BitVec.ofInt 64 (m : Int)).toNat : Nat) : Int) := by
    simp only [Go.bits]
    show IntKind.i64.wrap (((BitVec.ofInt 64 x &&& BitVec.ofInt 64 (m : Int)).toNat : Nat) : Int) = _
    exact wraps62 _ (by omega) (by omega)
  rw [e]
  omega
def rdStep (l : List Int) (a : Int) (i : Nat) (n : Int) : (Int × Int × Bool) ⊕ Int :=
  if a + i ≥ l.length then .inl (0, 0, false)
  else if rd l (a + i) < 128 then
    if (0 < i ∧ rd l (a + i) = 0) ∨ Go.bits .or .i64 n (shl .i64 (Go.bits .and .i64 (rd l (a + i)) 127) (7 * i)) > 1000000000000 then .inl (0, 0, false)
    else .inl (Go.bits .or .i64 n (shl .i64 (Go.bits .and .i64 (rd l (a + i)) 127) (7 * i)), a + i + 1, true)
  else .inr (Go.bits .or .i64 n (shl .i64 (Go.bits .and .i64 (rd l (a + i)) 127) (7 * i)))
/-- What both ReadUvarint come to. -/
def readU (l : List Int) (a : Int) : Int × Int × Bool :=
  if 0 ≤ a ∧ a < l.length then runL (rdStep l a) (fun _ => (0, 0, false)) 6 0 0 else (0, 0, false)
theorem u8_bd {l : List Int} (h : ∀ x ∈ l, (Lit.int .u8 x).wf = true) (j : Int) : 0 ≤ rd l j ∧ rd l j ≤ 255 := by
  unfold rd
  rw [List.getD_eq_getElem?_getD]
  by_cases hj : j.toNat < l.length
  · rw [List.getElem?_eq_getElem hj]
    exact u8_bds (h _ (List.getElem_mem _))
  · rw [List.getElem?_eq_none (by omega)]
    exact ⟨Int.le_refl 0, by decide⟩
/-- The cursor: what it reads, where it stands. -/
theorem byte_ok (b : List Int) (hb : b.length ≤ 140737488351232) (i h : Int) (hi : 0 ≤ i) : ∃ v i' h', spec_l1Byte.f b i h = some (v, i', h') ∧ 0 ≤ v ∧ v ≤ 255 ∧ 0 ≤ i' := by
  unfold spec_l1Byte.f
  by_cases h1 : i < b.length
  · rw [if_pos h1, if_pos hi]
    refine ⟨_, _, _, rfl, (and_mask _ 255 (by decide)).1, (and_mask _ 255 (by decide)).2, ?_⟩
    unfold wrap64
    omega
  · rw [if_neg h1]
    exact ⟨_, _, _, rfl, (and_mask _ 255 (by decide)).1, (and_mask _ 255 (by decide)).2, hi⟩
theorem below_ok (b : List Int) (hb : b.length ≤ 140737488351232) (i h n : Int) (hi : 0 ≤ i) : ∃ v i' h', spec_l1Below.f b i h n = some (v, i', h') ∧ 0 ≤ v ∧ (0 < n → v < n) ∧ (n ≤ 0 → v = 0) ∧ 0 ≤ i' := by
  unfold spec_l1Below.f
  by_cases h1 : n ≤ 0
  · rw [if_pos h1]
    exact ⟨_, _, _, rfl, Int.le_refl _, fun h => by omega, fun _ => rfl, hi⟩
  · rw [if_neg h1]
    by_cases h2 : n ≤ 256
    · rw [if_pos h2]
      obtain ⟨v, i', h', e, v0, v1, i0⟩ := byte_ok b hb i h hi
      rw [e]
      simp only [Option.bind_some]
      rw [if_neg (by omega)]
      have t := tmod_bd v (b := n) (by omega)
      exact ⟨_, _, _, rfl, by rw [Int.tmod_eq_emod_of_nonneg v0]; exact Int.emod_nonneg _ (by omega), fun _ => t.2, fun h => by omega, i0⟩
    · rw [if_neg h2]
      obtain ⟨x, i1, h1', e1, x0, x1, j1⟩ := byte_ok b hb i h hi
      rw [e1]
      simp only [Option.bind_some]
      obtain ⟨y, i2, h2', e2, y0, y1, j2⟩ := byte_ok b hb i1 h1' j1
      rw [e2]
      simp only [Option.bind_some]
      obtain ⟨z, i3, h3', e3, z0, z1, j3⟩ := byte_ok b hb i2 h2' j2
      rw [e3]
      simp only [Option.bind_some]
      rw [if_neg (by omega)]
      have q : wrap64 (wrap64 (wrap64 (x * 65536) + wrap64 (y * 256)) + z) = x * 65536 + y * 256 + z := by
        have q1 : wrap64 (x * 65536) = x * 65536 := by unfold wrap64; omega
        have q2 : wrap64 (y * 256) = y * 256 := by unfold wrap64; omega
        rw [q1, q2]
        have q3 : wrap64 (x * 65536 + y * 256) = x * 65536 + y * 256 := by unfold wrap64; omega
        rw [q3]
        unfold wrap64
        omega
      rw [q]
      have t := tmod_bd (x * 65536 + y * 256 + z) (b := n) (by omega)
      exact ⟨_, _, _, rfl, by rw [Int.tmod_eq_emod_of_nonneg (by omega)]; exact Int.emod_nonneg _ (by omega), fun _ => t.2, fun h => by omega, j3⟩
theorem new_loop (b : List Int) (hb : b.length ≤ 140737488351232) : ∀ (d k : Nat) (i : Nat) (h : Int), (b.length - i : Nat) = d → i ≤ b.length → d < k → ∃ h', spec_l1New.l0 k b h (i : Int) = some (b, 0, h') := by
  intro d
  induction d with
  | zero =>
    intro k i h hd hi hk
    obtain ⟨k, rfl⟩ : ∃ m, k = m + 1 := ⟨k - 1, by omega⟩
    simp only [spec_l1New.l0]
    rw [if_neg (by omega)]
    exact ⟨_, rfl⟩
  | succ d ih =>
    intro k i h hd hi hk
    obtain ⟨k, rfl⟩ : ∃ m, k = m + 1 := ⟨k - 1, by omega⟩
    simp only [spec_l1New.l0]
    rw [if_pos (by omega)]
    by_cases h4 : (i : Int) < 4000
    · rw [if_pos h4, if_pos (by omega), wrap_nat (n := b.length) (by omega) hb]
      exact ih k (i + 1) _ (by omega) (by omega) (by omega)
    · rw [if_neg h4]
      exact ⟨_, rfl⟩
theorem new_ok (k : Nat) (b : List Int) (hb : b.length ≤ 140737488351232) (hk : b.length < k) : ∃ h, spec_l1New.f k b = some (b, 0, h) := by
  unfold spec_l1New.f
  exact new_loop b hb b.length k 0 _ (by omega) (by omega) hk
theorem str_ok (b : List Int) (hb : b.length ≤ 140737488351232) (i h : Int) (l : List ByteArray) (hl : 0 < l.length) (hi : 0 ≤ i) : ∃ v i' h', spec_l1Str.f b i h l = some (v, i', h') ∧ v ∈ l ∧ 0 ≤ i' := by
  unfold spec_l1Str.f
  obtain ⟨v, i', h', e, v0, v1, _, i0⟩ := below_ok b hb i h (l.length : Int) hi
  rw [e]
  simp only [Option.bind_some]
  have := v1 (by omega)
  rw [if_pos v0, if_pos this]
  refine ⟨_, _, _, rfl, ?_, i0⟩
  unfold rdOf
  rw [List.getD_eq_getElem?_getD, List.getElem?_eq_getElem (by omega)]
  exact List.getElem_mem _
theorem once_ok (b : List Int) (hb : b.length ≤ 140737488351232) (i h n : Int) (hi : 0 ≤ i) : ∃ v i' h', spec_l1Once.f b i h n = some (v, i', h') ∧ 0 ≤ i' := by
  unfold spec_l1Once.f
  obtain ⟨v, i', h', e, _, _, _, i0⟩ := below_ok b hb i h n hi
  rw [e]
  exact ⟨_, _, _, rfl, i0⟩
theorem word4_ok (b : List Int) (hb : b.length ≤ 140737488351232) (i h : Int) (hi : 0 ≤ i) : ∃ v i' h', spec_l4Word.f b i h = some (v, i', h') ∧ v.size ≤ 5 ∧ 0 ≤ i' := by
  unfold spec_l4Word.f
  obtain ⟨l, el, hl, hs⟩ : ∃ l, spec_l4Words.f = some l ∧ 0 < l.length ∧ ∀ v ∈ l, v.size ≤ 5 := by
    refine ⟨_, rfl, by decide, ?_⟩
    simp only [List.mem_cons, List.not_mem_nil, or_false]
    intro v hv
    repeat' (rcases hv with rfl | hv)
    all_goals first | decide | (subst hv; decide)
  rw [el]
  simp only [Option.bind_some]
  obtain ⟨v, i1, h1, e, hm, j1⟩ := str_ok b hb i h l hl hi
  rw [e]
  simp only [Option.bind_some]
  exact ⟨_, _, _, rfl, hs v hm, j1⟩
theorem any4_ok (b : List Int) (hb : b.length ≤ 140737488351232) (i h : Int) (hi : 0 ≤ i) : ∃ v i' h', spec_l4Any.f b i h = some (v, i', h') ∧ v.size ≤ 10 ∧ 0 ≤ i' := by
  unfold spec_l4Any.f
  obtain ⟨v, i1, h1, e, hm, j1⟩ := word4_ok b hb i h hi
  rw [e]
  simp only [Option.bind_some]
  rw [if_pos (by omega)]
  obtain ⟨u, i2, h2, e2, hm2, j2⟩ := str_ok b hb i1 h1 [v, v, v, v, v, (⟨#[]⟩ : ByteArray), (⟨#[65]⟩ : ByteArray), (⟨#[97, 32, 98]⟩ : ByteArray), (⟨#[116, 111, 111, 108, 111, 110, 103, 101, 114]⟩ : ByteArray), (⟨#[116, 111, 111, 108, 111, 110, 103]⟩ : ByteArray), v ++ (⟨#[63]⟩ : ByteArray), (⟨#[122]⟩ : ByteArray)] (by simp) j1
  rw [e2]
  simp only [Option.bind_some]
  refine ⟨_, _, _, rfl, ?_, j2⟩
  have hz : (v ++ (⟨#[63]⟩ : ByteArray)).size = v.size + 1 := by
    rw [ByteArray.size_append]
    rfl
  simp only [List.mem_cons, List.not_mem_nil, or_false] at hm2
  rcases hm2 with rfl | rfl | rfl | rfl | rfl | rfl | rfl | rfl | rfl | rfl | rfl | rfl
  all_goals first | omega | decide
theorem int_ok (b : List Int) (hb : b.length ≤ 140737488351232) (i h : Int) (l : List Int) (hl : 0 < l.length) (hi : 0 ≤ i) : ∃ v i' h', spec_l1Int.f b i h l = some (v, i', h') ∧ v ∈ l ∧ 0 ≤ i' := by
  unfold spec_l1Int.f
  obtain ⟨v, i', h', e, v0, v1, _, i0⟩ := below_ok b hb i h (l.length : Int) hi
  rw [e]
  simp only [Option.bind_some]
  have := v1 (by omega)
  rw [if_pos v0, if_pos this]
  refine ⟨_, _, _, rfl, ?_, i0⟩
  unfold rd
  rw [List.getD_eq_getElem?_getD, List.getElem?_eq_getElem (by omega)]
  exact List.getElem_mem _
theorem bef_irr (a : ByteArray) : befB a a = false := by
  unfold befB
  rw [if_pos rfl, Go.Proofs.bytesLess_eq, decide_eq_false_iff_not]
  exact List.lt_irrefl _
theorem bef_trans (a b c : ByteArray) (h1 : befB a b = true) (h2 : befB b c = true) : befB a c = true := by
  unfold befB at *
  by_cases e1 : (a.size : Int) = (b.size : Int)
  · rw [if_pos e1, Go.Proofs.bytesLess_eq, decide_eq_true_eq] at h1
    by_cases e2 : (b.size : Int) = (c.size : Int)
    · rw [if_pos e2, Go.Proofs.bytesLess_eq, decide_eq_true_eq] at h2
      rw [if_pos (e1.trans e2), Go.Proofs.bytesLess_eq, decide_eq_true_eq]
      exact List.lt_trans h1 h2
    · rw [if_neg e2, decide_eq_true_eq] at h2
      rw [if_neg (by omega), decide_eq_true_eq]
      omega
  · rw [if_neg e1, decide_eq_true_eq] at h1
    by_cases e2 : (b.size : Int) = (c.size : Int)
    · rw [if_neg (by omega), decide_eq_true_eq]
      omega
    · rw [if_neg e2, decide_eq_true_eq] at h2
      rw [if_neg (by omega), decide_eq_true_eq]
      omega
theorem allN_at (f : Nat → Bool) : ∀ (d i : Nat), allN f d i = true → ∀ j, i ≤ j → j < i + d → f j = true := by
  intro d
  induction d with
  | zero => intro i _ j h1 h2; omega
  | succ d ih =>
    intro i h j h1 h2
    simp only [allN, Bool.and_eq_true] at h
    by_cases e : j = i
    · rw [e]; exact h.1
    · exact ih (i + 1) h.2 j (by omega) (by omega)
theorem list_row (l : List S45) (h : isListB l = true) (i : Nat) (hi : i < l.length) : rowOk l i = true := by
  unfold isListB at h
  rw [Bool.and_eq_true] at h
  exact allN_at _ _ _ h.1 i (by omega) (by omega)
theorem list_ok (l : List S45) (h : isListB l = true) (x : S45) (hx : x ∈ l) : okL x = true := by
  obtain ⟨i, hi, rfl⟩ := List.getElem_of_mem hx
  have := list_row l h i hi
  unfold rowOk at this
  rw [Bool.and_eq_true] at this
  have e : l.getD i z45 = l[i] := by simp [List.getD_eq_getElem?_getD, List.getElem?_eq_getElem hi]
  rw [e] at this
  exact this.1
theorem ok_parts (x : S45) (h : okL x = true) : (0 ≤ x.f1 ∧ x.f1 ≤ x.f2) ∧ x.f2 ≤ 1000 ∧ 0 ≤ x.f3 ∧ x.f3 ≤ 99 := by
  unfold okL at h
  simp only [Bool.and_eq_true, decide_eq_true_eq] at h
  exact ⟨h.1.1.2, h.1.2, h.2⟩
theorem list_bef (l : List S45) (h : isListB l = true) : ∀ (d i : Nat), i + d + 1 < l.length → befB (l.getD i z45).f0 (l.getD (i + d + 1) z45).f0 = true := by
  intro d
  induction d with
  | zero =>
    intro i hi
    have := list_row l h (i + 1) (by omega)
    unfold rowOk at this
    rw [Bool.and_eq_true, Bool.or_eq_true, decide_eq_true_eq, Nat.add_sub_cancel] at this
    rcases this.2 with e | e
    · omega
    · exact e
  | succ d ih =>
    intro i hi
    have h1 := ih i (by omega)
    have := list_row l h (i + (d + 1) + 1) (by omega)
    unfold rowOk at this
    rw [Bool.and_eq_true, Bool.or_eq_true, decide_eq_true_eq, Nat.add_sub_cancel] at this
    rcases this.2 with e | e
    · omega
    · exact bef_trans _ _ _ h1 e
theorem list_inj (l : List S45) (h : isListB l = true) (i j : Nat) (hi : i < l.length) (hj : j < l.length) (e : (l.getD i z45).f0 = (l.getD j z45).f0) : i = j := by
  rcases Nat.lt_trichotomy i j with h1 | h1 | h1
  · have := list_bef l h (j - i - 1) i (by omega)
    rw [show i + (j - i - 1) + 1 = j by omega, e, bef_irr] at this
    cases this
  · exact h1
  · have := list_bef l h (i - j - 1) j (by omega)
    rw [show j + (i - j - 1) + 1 = i by omega, e, bef_irr] at this
    cases this
theorem list_inj' (l : List S45) (h : isListB l = true) (x y : S45) (hx : x ∈ l) (hy : y ∈ l) (e : x.f0 = y.f0) : x = y := by
  obtain ⟨i, hi, ei⟩ := List.getElem_of_mem hx
  obtain ⟨j, hj, ej⟩ := List.getElem_of_mem hy
  have e1 : l.getD i z45 = x := by rw [← ei]; simp [List.getD_eq_getElem?_getD, List.getElem?_eq_getElem hi]
  have e2 : l.getD j z45 = y := by rw [← ej]; simp [List.getD_eq_getElem?_getD, List.getElem?_eq_getElem hj]
  have := list_inj l h i j hi hj (by rw [e1, e2]; exact e)
  subst this
  rw [← e1, ← e2]
theorem sel_mem (t : Int) (l : List S45) (s : ByteArray) : s ∈ sel t l ↔ ∃ x ∈ l, inT t x = true ∧ x.f0 = s := by
  unfold sel
  rw [List.mem_map]
  constructor
  · rintro ⟨x, hx, e⟩
    rw [List.mem_filter] at hx
    exact ⟨x, hx.1, hx.2, e⟩
  · rintro ⟨x, hx, h, e⟩
    exact ⟨x, List.mem_filter.2 ⟨hx, h⟩, e⟩
-- a word of a list counts just from its first to its last tick
theorem words_has (l : List S45) (h : isListB l = true) (t : Int) (x : S45) (hx : x ∈ l) : hasB (wordsV l t) x.f0 = inT t x := by
  unfold wordsV
  rw [if_pos h, Bool.eq_iff_iff, has_mem, sel_mem]
  constructor
  · rintro ⟨y, hy, hT, e⟩
    have := list_inj' l h y x hy hx e
    subst this
    exact hT
  · intro hT
    exact ⟨x, hx, hT, rfl⟩
-- what is added
theorem add_true (l : List S45) (x : S45) (h : (addV l x).2 = true) : isListB (addV l x).1 = true ∧ (addV l x).1.length = l.length + 1 ∧ x ∈ (addV l x).1 := by
  have hp := posV_rng l x.f0 l.length 0
  unfold addV addR at h ⊢
  by_cases h1 : idxV l x.f0 ≥ 0
  · rw [if_pos h1] at h
    cases h
  · rw [if_neg h1] at h ⊢
    by_cases h2 : isListB (insV l (posV l x.f0 l.length 0) x) = true
    · rw [if_pos h2]
      refine ⟨h2, insV_len l _ x (by omega), ?_⟩
      simp [insV]
    · rw [if_neg h2] at h
      cases h
theorem add_false (l : List S45) (x : S45) (h : (addV l x).2 = false) : (addV l x).1 = l := by
  unfold addV addR at h ⊢
  by_cases h1 : idxV l x.f0 ≥ 0
  · rw [if_pos h1]
  · rw [if_neg h1] at h ⊢
    by_cases h2 : isListB (insV l (posV l x.f0 l.length 0) x) = true
    · rw [if_pos h2] at h
      cases h
    · rw [if_neg h2]
theorem add_small (l : List S45) (x : S45) (B : Nat) (h : ∀ y ∈ l, y.f0.size ≤ B) (hx : x.f0.size ≤ B) : ∀ y ∈ (addV l x).1, y.f0.size ≤ B := by
  unfold addV addR
  split
  · exact h
  · split
    · exact insV_small l _ x B h hx
    · exact h
theorem add_ge (l : List S45) (x : S45) : l.length ≤ (addV l x).1.length := by
  cases h : (addV l x).2
  · rw [add_false l x h]
    exact Nat.le_refl _
  · have := (add_true l x h).2.1
    omega
theorem add_nil (x : S45) (h : okL x = true) : (addV [] x).1.length = 1 := by
  have e1 : insV [] (posV [] x.f0 0 0) x = [x] := rfl
  have e2 : isListB [x] = true := by
    unfold isListB rowOk
    simp [allN, h]
  unfold addV addR
  have e3 : ¬ idxV [] x.f0 ≥ 0 := by
    show ¬ (-1 : Int) ≥ 0
    decide
  rw [if_neg e3]
  have e4 : isListB (insV [] (posV [] x.f0 ([] : List S45).length 0) x) = true := e2
  rw [if_pos e4]
  rfl
-- what is ended
theorem g_at (l : List S45) (s : ByteArray) : ∀ (d i : Nat), i + d = l.length → 0 ≤ impl_listedAt.g l s d (i : Int) → (rd_T45 l (impl_listedAt.g l s d (i : Int))).f0 = s := by
  intro d
  induction d with
  | zero =>
    intro i _ h
    have : impl_listedAt.g l s 0 (i : Int) = -1 := rfl
    omega
  | succ d ih =>
    intro i hi
    have e : impl_listedAt.g l s (d + 1) (i : Int) = if ((rd_T45 l (i : Int)).f0.toList == s.toList) = true then (i : Int) else impl_listedAt.g l s d (((i + 1 : Nat) : Int)) := rfl
    rw [e]
    by_cases h : ((rd_T45 l (i : Int)).f0.toList == s.toList) = true
    · rw [if_pos h]
      intro _
      exact ba_ext.1 (by simpa using h)
    · rw [if_neg h]
      exact ih (i + 1) (by omega)
theorem idx_at (l : List S45) (s : ByteArray) (h : 0 ≤ idxV l s) : (rd_T45 l (idxV l s)).f0 = s := g_at l s l.length 0 (by omega) h
theorem end_true (l : List S45) (s : ByteArray) (t : Int) (h : (endV l s t).2 = true) : isListB (endV l s t).1 = true ∧ hasB (wordsV (endV l s t).1 (t + 1)) s = false := by
  unfold endV at h ⊢
  by_cases h1 : idxV l s < 0
  · rw [if_pos h1] at h
    cases h
  rw [if_neg h1] at h ⊢
  by_cases h2 : (rd_T45 l (idxV l s)).f2 < t
  · rw [if_pos h2] at h
    cases h
  rw [if_neg h2] at h ⊢
  by_cases h3 : isListB (l.set (idxV l s).toNat (setUntil (rd_T45 l (idxV l s)) t)) = true
  · rw [if_pos h3]
    refine ⟨h3, ?_⟩
    have hr := idx_rng l s
    have hlt : (idxV l s).toNat < l.length := by omega
    have hm : setUntil (rd_T45 l (idxV l s)) t ∈ l.set (idxV l s).toNat (setUntil (rd_T45 l (idxV l s)) t) := List.mem_set hlt _
    have hw := words_has _ h3 (t + 1) _ hm
    have e0 : (setUntil (rd_T45 l (idxV l s)) t).f0 = s := idx_at l s (by omega)
    rw [e0] at hw
    show hasB (wordsV (l.set (idxV l s).toNat (setUntil (rd_T45 l (idxV l s)) t)) (t + 1)) s = false
    rw [hw]
    unfold inT
    rw [decide_eq_false_iff_not]
    show ¬ (_ ∧ t + 1 ≤ t)
    omega
  · rw [if_neg h3] at h
    cases h
theorem endV_small (l : List S45) (s : ByteArray) (t : Int) (B : Nat) (h : ∀ y ∈ l, y.f0.size ≤ B) : ∀ y ∈ (endV l s t).1, y.f0.size ≤ B := by
  unfold endV
  by_cases h1 : idxV l s < 0
  · rw [if_pos h1]
    exact h
  rw [if_neg h1]
  have hr := idx_rng l s
  split
  · exact h
  · split
    · exact set_small l _ _ B h (rd_small l (idxV l s) (by omega) (by omega) B h)
    · exact h
-- scores
theorem sc_rng (l : List S45) (h : isListB l = true) (ws : List ByteArray) : ∀ (d j : Nat) (acc : Int), 0 ≤ acc → acc + 99 * d ≤ 1000000 → 0 ≤ scV l ws d j acc := by
  intro d
  induction d with
  | zero =>
    intro j acc h0 _
    exact h0
  | succ d ih =>
    intro j acc h0 h1
    have hr := idx_rng l (ws.getD j ByteArray.empty)
    unfold scV
    by_cases hi : idxV l (ws.getD j ByteArray.empty) ≥ 0
    · rw [if_pos hi]
      have hm : rd_T45 l (idxV l (ws.getD j ByteArray.empty)) ∈ l := by
        unfold rd_T45
        exact getD_mem l _ z45 (by omega)
      have ok := ok_parts _ (list_ok l h _ hm)
      generalize (rd_T45 l (idxV l (ws.getD j ByteArray.empty))).f3 = v at ok ⊢
      have e : wrap64 (acc + v) = acc + v := by unfold wrap64; omega
      rw [e]
      exact ih (j + 1) (acc + v) (by omega) (by omega)
    · rw [if_neg hi]
      exact ih (j + 1) acc h0 (by omega)
theorem score_nonneg (l : List S45) (ws : List ByteArray) (h : ws.length ≤ 1000) : 0 ≤ scoreV l ws := by
  unfold scoreV
  by_cases hB : isListB l = true
  · rw [if_pos hB]
    exact sc_rng l hB ws ws.length 0 0 (by omega) (by omega)
  · rw [if_neg hB]
    exact Int.le_refl _
theorem score_nil (l : List S45) : scoreV l [] = 0 := by
  unfold scoreV
  split <;> rfl
-- draws
theorem word5_ok (b : List Int) (hb : b.length ≤ 140737488351232) (i h : Int) (hi : 0 ≤ i) : ∃ v i' h', spec_l4Word.f b i h = some (v, i', h') ∧ (v.size ≤ 10 ∧ isWordB v = true) ∧ 0 ≤ i' := by
  unfold spec_l4Word.f
  obtain ⟨l, el, hl, hs⟩ : ∃ l, spec_l4Words.f = some l ∧ 0 < l.length ∧ ∀ v ∈ l, v.size ≤ 10 ∧ isWordB v = true := by
    refine ⟨_, rfl, by decide, ?_⟩
    simp only [List.mem_cons, List.not_mem_nil, or_false]
    intro v hv
    repeat' (rcases hv with rfl | hv)
    all_goals first | decide +kernel | (subst hv; decide +kernel)
  rw [el]
  simp only [Option.bind_some]
  obtain ⟨v, i1, h1, e, hm, j1⟩ := str_ok b hb i h l hl hi
  rw [e]
  simp only [Option.bind_some]
  exact ⟨_, _, _, rfl, hs v hm, j1⟩
theorem draw5_l0 (b : List Int) (hb : b.length ≤ 140737488351232) : ∀ (d k : Nat) (acc : List S45) (ci ch : Int), acc.length + d ≤ 40 → (∀ y ∈ acc, y.f0.size ≤ 10) → (1 ≤ acc.length ∨ 1 ≤ d ∧ acc = []) → d + 1048800 < k → 0 ≤ ci →
    ∃ l i' h', spec_l5Draw.l0 k acc (d : Int) b ci ch = some (l, i', h') ∧ (1 ≤ l.length ∧ l.length ≤ 40 ∧ ∀ y ∈ l, y.f0.size ≤ 10) ∧ 0 ≤ i' := by
  intro d
  induction d with
  | zero =>
    intro k acc ci ch ha hs h1 hk hc
    obtain ⟨k, rfl⟩ : ∃ m, k = m + 1 := ⟨k - 1, by omega⟩
    rw [spec_l5Draw.l0]
    rw [if_neg (by omega)]
    exact ⟨_, _, _, rfl, ⟨by omega, by omega, hs⟩, hc⟩
  | succ d ih =>
    intro k acc ci ch ha hs h1 hk hc
    obtain ⟨k, rfl⟩ : ∃ m, k = m + 1 := ⟨k - 1, by omega⟩
    have hwr : wrap64 (((d + 1 : Nat) : Int) - 1) = (d : Int) := by unfold wrap64; omega
    rw [spec_l5Draw.l0]
    rw [if_pos (by omega), hwr]
    obtain ⟨f, i1, g1, e1, f0, f1, _, j1⟩ := below_ok b hb ci ch 5 hc
    have f1 := f1 (by omega)
    rw [e1]
    simp only [Option.bind_some]
    obtain ⟨w, i2, g2, e2, sw, j2⟩ := word5_ok b hb i1 g1 j1
    rw [e2]
    simp only [Option.bind_some]
    obtain ⟨u, i3, g3, e3, u0, u1, _, j3⟩ := below_ok b hb i2 g2 20 j2
    have u1 := u1 (by omega)
    rw [e3]
    simp only [Option.bind_some]
    obtain ⟨sc, i4, g4, e4, s0, s1, _, j4⟩ := below_ok b hb i3 g3 50 j3
    have s1 := s1 (by omega)
    rw [e4]
    simp only [Option.bind_some]
    have ew : wrap64 (f + u) = f + u := by unfold wrap64; omega
    rw [ew]
    obtain ⟨x, hx⟩ : ∃ x : S45, x = ⟨w, f, f + u, sc⟩ := ⟨_, rfl⟩
    have xs : x.f0.size ≤ 10 := by rw [hx]; exact sw.1
    have xo : okL x = true := by
      rw [hx]
      unfold okL
      simp only [sw.2, Bool.true_and, Bool.and_eq_true, decide_eq_true_eq]
      omega
    have ea : spec_AddWord.f k acc w f (f + u) sc = some (addV acc x) := by
      have := specAdd k acc (by omega) (fun y hy => by have := hs y hy; omega) x (by omega) (by omega)
      rw [hx] at this ⊢
      exact this
    rw [ea]
    simp only [Option.bind_some]
    have hge := add_ge acc x
    have hle := addV_len acc x
    refine ih k (addV acc x).1 i4 g4 (by omega) (add_small acc x 10 hs xs) ?_ (by omega) j4
    left
    rcases h1 with h1 | ⟨_, h1⟩
    · omega
    · rw [h1, add_nil x xo]
      exact Nat.le_refl _
theorem draw5_ok (b : List Int) (hb : b.length ≤ 140737488351232) (k : Nat) (hk : 1049000 < k) (i h : Int) (hi : 0 ≤ i) : ∃ l i' h', spec_l5Draw.f k b i h = some (l, i', h') ∧ (1 ≤ l.length ∧ l.length ≤ 40 ∧ ∀ y ∈ l, y.f0.size ≤ 10) ∧ 0 ≤ i' := by
  unfold spec_l5Draw.f
  obtain ⟨n, i1, h1, e1, n0, n1, _, j1⟩ := below_ok b hb i h 20 hi
  have n1 := n1 (by omega)
  rw [e1]
  simp only [Option.bind_some]
  have ew : wrap64 (2 + n) = ((n.toNat + 2 : Nat) : Int) := by unfold wrap64; omega
  rw [ew]
  exact draw5_l0 b hb (n.toNat + 2) k [] i1 h1 (by simp; omega) (by simp) (Or.inr ⟨by omega, rfl⟩) (by omega) j1
theorem raw5_ok (b : List Int) (hb : b.length ≤ 140737488351232) (i h : Int) (hi : 0 ≤ i) : ∃ v i' h', spec_l5Raw.f b i h = some (v, i', h') ∧ 0 ≤ i' := by
  unfold spec_l5Raw.f
  obtain ⟨a, i2, h2, e2, m2, j2⟩ := int_ok b hb i h [(-1), 0, 99, 100, 1000, 1001, 9223372036854775807, (-9223372036854775808)] (by decide) hi
  rw [e2]
  exact ⟨_, _, _, rfl, j2⟩
theorem set_ok (l : List S45) (n : Nat) (x : S45) (h : 1 ≤ l.length ∧ l.length ≤ 40 ∧ ∀ y ∈ l, y.f0.size ≤ 10) (hx : x.f0.size ≤ 10) : 1 ≤ (l.set n x).length ∧ (l.set n x).length ≤ 40 ∧ ∀ y ∈ l.set n x, y.f0.size ≤ 10 := by
  rw [List.length_set]
  exact ⟨h.1, h.2.1, set_small l n x 10 h.2.2 hx⟩
theorem any5_ok (b : List Int) (hb : b.length ≤ 140737488351232) (k : Nat) (hk : 1049000 < k) (i h : Int) (hi : 0 ≤ i) : ∃ l i' h', spec_l5Any.f k b i h = some (l, i', h') ∧ (1 ≤ l.length ∧ l.length ≤ 40 ∧ ∀ y ∈ l, y.f0.size ≤ 10) ∧ 0 ≤ i' := by
  unfold spec_l5Any.f
  obtain ⟨l, i1, h1, e1, s1, j1⟩ := draw5_ok b hb k hk i h hi
  rw [e1]
  simp only [Option.bind_some]
  obtain ⟨n, i2, h2, e2, n0, n1, _, j2⟩ := below_ok b hb i1 h1 (l.length : Int) j1
  have n1 := n1 (by have := s1.1; omega)
  rw [e2]
  simp only [Option.bind_some]
  obtain ⟨m, i3, h3, e3, m0, m1, _, j3⟩ := below_ok b hb i2 h2 12 j2
  rw [e3]
  simp only [Option.bind_some]
  have hrd : (rd_T45 l n).f0.size ≤ 10 := rd_small l n n0 n1 10 s1.2.2
  by_cases c0 : m = 0
  · rw [if_pos c0]
    obtain ⟨v, i4, h4, e4, sv, j4⟩ := any4_ok b hb i3 h3 j3
    rw [e4]
    simp only [Option.bind_some]
    rw [if_pos n0, if_pos n1]
    exact ⟨_, _, _, rfl, set_ok l _ _ s1 sv, j4⟩
  rw [if_neg c0]
  by_cases c1 : m = 1
  · rw [if_pos c1]
    obtain ⟨v, i4, h4, e4, j4⟩ := raw5_ok b hb i3 h3 j3
    rw [e4]
    simp only [Option.bind_some]
    rw [if_pos n0, if_pos n1]
    exact ⟨_, _, _, rfl, set_ok l _ _ s1 hrd, j4⟩
  rw [if_neg c1]
  by_cases c2 : m = 2
  · rw [if_pos c2]
    obtain ⟨v, i4, h4, e4, j4⟩ := raw5_ok b hb i3 h3 j3
    rw [e4]
    simp only [Option.bind_some]
    rw [if_pos n0, if_pos n1]
    exact ⟨_, _, _, rfl, set_ok l _ _ s1 hrd, j4⟩
  rw [if_neg c2]
  by_cases c3 : m = 3
  · rw [if_pos c3]
    obtain ⟨v, i4, h4, e4, j4⟩ := raw5_ok b hb i3 h3 j3
    rw [e4]
    simp only [Option.bind_some]
    rw [if_pos n0, if_pos n1]
    exact ⟨_, _, _, rfl, set_ok l _ _ s1 hrd, j4⟩
  rw [if_neg c3]
  exact ⟨_, _, _, rfl, s1, j3⟩
theorem some5_l0 (b : List Int) (hb : b.length ≤ 140737488351232) : ∀ (d k : Nat) (acc : List ByteArray) (ci ch : Int), acc.length + d ≤ 6 → d < k → 0 ≤ ci →
    ∃ l i' h', spec_l5Some.l0 k acc (d : Int) b ci ch = some (l, i', h') ∧ l.length ≤ 6 ∧ 0 ≤ i' := by
  intro d
  induction d with
  | zero =>
    intro k acc ci ch ha hk hc
    obtain ⟨k, rfl⟩ : ∃ m, k = m + 1 := ⟨k - 1, by omega⟩
    simp only [spec_l5Some.l0]
    rw [if_neg (by omega)]
    exact ⟨_, _, _, rfl, by omega, hc⟩
  | succ d ih =>
    intro k acc ci ch ha hk hc
    obtain ⟨k, rfl⟩ : ∃ m, k = m + 1 := ⟨k - 1, by omega⟩
    have hwr : wrap64 (((d + 1 : Nat) : Int) - 1) = (d : Int) := by unfold wrap64; omega
    simp only [spec_l5Some.l0]
    rw [if_pos (by omega), hwr]
    obtain ⟨v, i1, h1, e1, sv, j1⟩ := any4_ok b hb ci ch hc
    rw [e1]
    simp only [Option.bind_some]
    rw [if_pos (by omega)]
    exact ih k _ i1 h1 (by simp; omega) (by omega) j1
theorem some5_ok (b : List Int) (hb : b.length ≤ 140737488351232) (k : Nat) (hk : 10 < k) (i h : Int) (hi : 0 ≤ i) : ∃ l i' h', spec_l5Some.f k b i h = some (l, i', h') ∧ l.length ≤ 6 ∧ 0 ≤ i' := by
  unfold spec_l5Some.f
  obtain ⟨n, i1, h1, e1, n0, n1, _, j1⟩ := below_ok b hb i h 6 hi
  have n6 := n1 (by omega)
  rw [e1]
  simp only [Option.bind_some]
  obtain ⟨m, rfl⟩ : ∃ m : Nat, n = m := ⟨n.toNat, by omega⟩
  exact some5_l0 b hb m k [] i1 h1 (by simp; omega) (by omega) j1
theorem drawWA (k : Nat) (b : List Int) (hb : b.length ≤ 140737488351232) (hk : b.length + 1049000 < k) : ∃ l t, spec_DrawWordsAt.f k b = some (l, t) ∧ (1 ≤ l.length ∧ l.length ≤ 40 ∧ ∀ y ∈ l, y.f0.size ≤ 10) := by
  unfold spec_DrawWordsAt.f
  obtain ⟨h0, e0⟩ := new_ok k b hb (by omega)
  rw [e0]
  simp only [Option.bind_some]
  obtain ⟨l, i1, h1, e1, s1, j1⟩ := any5_ok b hb k (by omega) 0 h0 (by omega)
  rw [e1]
  simp only [Option.bind_some]
  obtain ⟨a, i2, h2, e2, m2, j2⟩ := int_ok b hb i1 h1 [0, 2, 5, 10, 20, 30, (-1)] (by decide) j1
  rw [e2]
  exact ⟨l, a, rfl, s1⟩
theorem drawAW (k : Nat) (b : List Int) (hb : b.length ≤ 140737488351232) (hk : b.length + 1049000 < k) : ∃ (l : List S45) (x : S45), spec_DrawAddWord.f k b = some (l, x.f0, x.f1, x.f2, x.f3) ∧ (1 ≤ l.length ∧ l.length ≤ 40 ∧ ∀ y ∈ l, y.f0.size ≤ 10) ∧ x.f0.size ≤ 10 := by
  unfold spec_DrawAddWord.f
  obtain ⟨h0, e0⟩ := new_ok k b hb (by omega)
  rw [e0]
  simp only [Option.bind_some]
  obtain ⟨l, i1, h1, e1, s1, j1⟩ := any5_ok b hb k (by omega) 0 h0 (by omega)
  rw [e1]
  simp only [Option.bind_some]
  obtain ⟨w, i2, h2, e2, sw, j2⟩ := any4_ok b hb i1 h1 j1
  rw [e2]
  simp only [Option.bind_some]
  obtain ⟨f, i3, h3, e3, f0, f1, _, j3⟩ := below_ok b hb i2 h2 5 j2
  rw [e3]
  simp only [Option.bind_some]
  obtain ⟨u, i4, h4, e4, u0, u1, _, j4⟩ := below_ok b hb i3 h3 9 j3
  rw [e4]
  simp only [Option.bind_some]
  obtain ⟨c, i5, h5, e5, c0, c1, _, j5⟩ := below_ok b hb i4 h4 101 j4
  rw [e5]
  exact ⟨l, ⟨w, f, wrap64 (3 + u), c⟩, rfl, s1, sw⟩
theorem drawEW (k : Nat) (b : List Int) (hb : b.length ≤ 140737488351232) (hk : b.length + 1049000 < k) : ∃ (l : List S45) (s : ByteArray) (t : Int), spec_DrawEndWord.f k b = some (l, s, t) ∧ (1 ≤ l.length ∧ l.length ≤ 40 ∧ ∀ y ∈ l, y.f0.size ≤ 10) ∧ (-1 ≤ t ∧ t ≤ 99) := by
  unfold spec_DrawEndWord.f
  obtain ⟨h0, e0⟩ := new_ok k b hb (by omega)
  rw [e0]
  simp only [Option.bind_some]
  obtain ⟨l, i1, h1, e1, s1, j1⟩ := any5_ok b hb k (by omega) 0 h0 (by omega)
  rw [e1]
  simp only [Option.bind_some]
  obtain ⟨n, i2, h2, e2, n0, n1, _, j2⟩ := below_ok b hb i1 h1 (l.length : Int) j1
  have n1 := n1 (by have := s1.1; omega)
  rw [e2]
  simp only [Option.bind_some]
  rw [if_pos n0, if_pos n1]
  obtain ⟨o, i3, h3, e3, j3⟩ := once_ok b hb i2 h2 4 j2
  rw [e3]
  simp only [Option.bind_some]
  cases o
  · rw [if_neg Bool.false_ne_true]
    obtain ⟨a, i4, h4, e4, m4, j4⟩ := int_ok b hb i3 h3 [0, 3, 6, 12, 99, (-1)] (by decide) j3
    rw [e4]
    refine ⟨_, _, _, rfl, s1, ?_⟩
    show -1 ≤ a ∧ a ≤ 99
    simp at m4
    omega
  · rw [if_pos rfl]
    obtain ⟨w, i4, h4, e4, sw, j4⟩ := any4_ok b hb i3 h3 j3
    rw [e4]
    simp only [Option.bind_some]
    obtain ⟨a, i5, h5, e5, m5, j5⟩ := int_ok b hb i4 h4 [0, 3, 6, 12, 99, (-1)] (by decide) j4
    rw [e5]
    refine ⟨_, _, _, rfl, s1, ?_⟩
    show -1 ≤ a ∧ a ≤ 99
    simp at m5
    omega
theorem drawSO (k : Nat) (b : List Int) (hb : b.length ≤ 140737488351232) (hk : b.length + 1049000 < k) : ∃ (l : List S45) (ws : List ByteArray), spec_DrawScoreOf.f k b = some (l, ws) ∧ (1 ≤ l.length ∧ l.length ≤ 40 ∧ ∀ y ∈ l, y.f0.size ≤ 10) ∧ ws.length ≤ 6 := by
  unfold spec_DrawScoreOf.f
  obtain ⟨h0, e0⟩ := new_ok k b hb (by omega)
  rw [e0]
  simp only [Option.bind_some]
  obtain ⟨l, i1, h1, e1, s1, j1⟩ := any5_ok b hb k (by omega) 0 h0 (by omega)
  rw [e1]
  simp only [Option.bind_some]
  obtain ⟨ws, i2, h2, e2, s2, j2⟩ := some5_ok b hb k (by omega) i1 h1 j1
  rw [e2]
  exact ⟨l, ws, rfl, s1, s2⟩
theorem lists_j3 (k : Nat) (x0 : List Int) (hb : x0.length ≤ 2000000) (hk : x0.length + 1050000 < k) : laws_FnLists.j3 (k + 1) x0 false = some true := by
  rw [laws_FnLists.j3]
  rw [if_neg Bool.false_ne_true]
  obtain ⟨l, ws, e, s1, s2⟩ := drawSO k x0 (by omega) (by omega)
  have hw : ∀ x ∈ l, x.f0.size ≤ 1048576 := fun x hx => by have := s1.2.2 x hx; omega
  have hl := s1.2.1
  rw [e]
  simp only [Option.bind_some]
  rw [implScore k l ws (by omega) (by omega) hw (by omega), implScore k l [] (by omega) (by simp) hw (by simp; omega), score_nil]
  simp only [Option.bind_some]
  rw [if_pos (score_nonneg l ws (by omega))]
  rfl
theorem lists_j2 (k : Nat) (x0 : List Int) (hb : x0.length ≤ 2000000) (hk : x0.length + 1050010 < k) : laws_FnLists.j2 (k + 1) x0 false = some true := by
  obtain ⟨k, rfl⟩ : ∃ m, k = m + 1 := ⟨k - 1, by omega⟩
  have J := lists_j3 k x0 hb (by omega)
  revert J
  generalize hK : k + 1 = K
  intro J
  have hK2 : x0.length + 1050005 < K := by omega
  rw [laws_FnLists.j2]
  rw [if_neg Bool.false_ne_true]
  obtain ⟨l, s, t, e, s1, ht⟩ := drawEW K x0 (by omega) (by omega)
  have hw : ∀ x ∈ l, x.f0.size ≤ 1048576 := fun x hx => by have := s1.2.2 x hx; omega
  have hl := s1.2.1
  have hv := endV_len l s t
  have hvw := endV_small l s t 1048576 hw
  have hwl := wordsV_len (endV l s t).1 (t + 1)
  have wr : wrap64 (t + 1) = t + 1 := by unfold wrap64; omega
  rw [e]
  simp only [Option.bind_some]
  rw [implEnd K l s t (by omega) hw (by omega)]
  simp only [Option.bind_some]
  by_cases h : (endV l s t).2 = true
  · obtain ⟨h1, h2⟩ := end_true l s t h
    rw [if_pos h, implIsList K _ (by omega) hvw (by omega), h1]
    simp only [Option.bind_some]
    rw [if_pos trivial, if_pos (by omega), wr, implWordsAt K _ _ (by omega) hvw (by omega)]
    simp only [Option.bind_some]
    rw [implHas K _ s (by omega) (by omega), h2]
    exact J
  · rw [if_neg h]
    exact J
theorem add_facts (l : List S45) (x : S45) (hl : l.length ≤ 40) (hw : ∀ x ∈ l, x.f0.size ≤ 1048576) (hx : x.f0.size ≤ 1048576) : ∃ bl ob, addV l x = (bl, ob) ∧ bl.length ≤ 41 ∧ (∀ y ∈ bl, y.f0.size ≤ 1048576) ∧ (ob = true → isListB bl = true ∧ bl.length = l.length + 1 ∧ hasB (wordsV bl x.f1) x.f0 = true) ∧ (ob = false → bl.length = l.length) := by
  refine ⟨(addV l x).1, (addV l x).2, rfl, ?_, add_small l x 1048576 hw hx, ?_, ?_⟩
  · have := addV_len l x
    omega
  · intro h
    obtain ⟨h1, h2, h3⟩ := add_true l x h
    have hh := words_has _ h1 x.f1 x h3
    have ok := ok_parts x (list_ok _ h1 x h3)
    have hi : inT x.f1 x = true := decide_eq_true ⟨Int.le_refl _, ok.1.2⟩
    exact ⟨h1, h2, by rw [hh, hi]⟩
  · intro h
    rw [add_false l x h]
theorem lists_j1 (k : Nat) (x0 : List Int) (hb : x0.length ≤ 2000000) (hk : x0.length + 1050020 < k) (x3 : List S45) (x4 : Int) (x5 : List ByteArray) (x6 : Int) : laws_FnLists.j1 (k + 1) x0 x3 x4 x5 x6 false = some true := by
  obtain ⟨k, rfl⟩ : ∃ m, k = m + 1 := ⟨k - 1, by omega⟩
  have J := lists_j2 k x0 hb (by omega)
  revert J
  generalize hK : k + 1 = K
  intro J
  have hK2 : x0.length + 1050015 < K := by omega
  obtain ⟨l, x, e, s1, hx⟩ := drawAW K x0 (by omega) (by omega)
  have hw : ∀ x ∈ l, x.f0.size ≤ 1048576 := fun x hx => by have := s1.2.2 x hx; omega
  have hl := s1.2.1
  have a2 : x.f0.size ≤ 1048576 := by omega
  obtain ⟨bl, ob, eb, b1, b2, bT, bF⟩ := add_facts l x hl hw a2
  have eA := implAdd K l (by omega) hw x a2 (by omega)
  rw [eb] at eA
  clear eb hw
  have hwl := wordsV_len bl x.f1
  have eI : impl_IsList.f K bl = some (isListB bl) := implIsList K bl (by omega) b2 (by omega)
  have eW : impl_WordsAt.f K bl x.f1 = some (wordsV bl x.f1) := implWordsAt K bl x.f1 (by omega) b2 (by omega)
  have eH : impl_HasWord.f K (wordsV bl x.f1) x.f0 = some (hasB (wordsV bl x.f1) x.f0) := implHas K _ _ (by omega) (by omega)
  have wr : wrap64 ((l.length : Int) + 1) = (l.length : Int) + 1 := by unfold wrap64; omega
  clear b2 hwl hK2 hK hk hb s1 hx a2
  rw [laws_FnLists.j1]
  rw [if_neg Bool.false_ne_true, e]
  simp only [Option.bind_some]
  rw [eA]
  clear e eA
  cases ob with
  | true =>
    obtain ⟨h1, h2, h3⟩ := bT rfl
    have h2' : (bl.length : Int) = (l.length : Int) + 1 := by omega
    simp only [Option.bind_some]
    rw [if_pos trivial, eI, h1, Option.bind_some, if_pos rfl, wr, if_pos h2', eW, Option.bind_some, eH, h3, Option.bind_some, if_pos rfl]
    exact J
  | false =>
    have h2 := bF rfl
    have h2' : ((bl.length : Int) != (l.length : Int)) = false := by rw [h2]; exact bne_self_eq_false _
    simp only [Option.bind_some]
    first
      | rw [if_neg Bool.false_ne_true, h2']
      | rw [if_neg (fun h => h), h2']
    exact J
theorem lists_l0 (x0 : List Int) (hb : x0.length ≤ 2000000) (l : List S45) (t : Int) (hl : l.length ≤ 40) (hw : ∀ x ∈ l, x.f0.size ≤ 1048576) : ∀ (d k i : Nat), i + d = l.length → 2 * d + x0.length + 1050100 < k →
    laws_FnLists.l0 k x0 l t (wordsV l t) (i : Int) = some true := by
  have hwl := wordsV_len l t
  intro d
  induction d with
  | zero =>
    intro k i hi hk
    obtain ⟨k, rfl⟩ : ∃ m, k = m + 1 + 1 := ⟨k - 2, by omega⟩
    have J := lists_j1 k x0 hb (by omega) l t (wordsV l t) (i : Int)
    revert J
    generalize k + 1 = K
    intro J
    rw [laws_FnLists.l0]
    rw [if_neg (by omega)]
    exact J
  | succ d ih =>
    intro k i hi hk
    obtain ⟨k, rfl⟩ : ∃ m, k = m + 1 + 1 := ⟨k - 2, by omega⟩
    have hlt : i < l.length := by omega
    have JF := lists_j1 k x0 hb (by omega) l t (wordsV l t) (i : Int)
    have IH := ih k (i + 1) (by omega) (by omega)
    have JT : isListB l = true → laws_FnLists.j1 (k + 1) x0 l t (wordsV l t) (i : Int) true = some true := by
      intro hB
      have hh := words_has l hB t _ (getD_mem l i z45 hlt)
      rw [laws_FnLists.j1]
      rw [if_pos rfl, if_pos (by omega), if_pos (by omega), rd45, implHas k _ _ (by omega) (by omega), hh, wrap_nat hlt (by omega)]
      simp only [Option.bind_some, inT]
      by_cases c : t ≥ (l.getD i z45).f1
      · rw [if_pos c]
        have e : decide ((l.getD i z45).f1 ≤ t ∧ t ≤ (l.getD i z45).f2) = decide (t ≤ (l.getD i z45).f2) := decide_eq_decide.mpr ⟨fun h => h.2, fun h => ⟨c, h⟩⟩
        rw [e, bne_self_eq_false, if_neg Bool.false_ne_true]
        exact IH
      · rw [if_neg c]
        have e : decide ((l.getD i z45).f1 ≤ t ∧ t ≤ (l.getD i z45).f2) = false := decide_eq_false fun h => c h.1
        rw [e, bne_self_eq_false, if_neg Bool.false_ne_true]
        exact IH
    revert JF JT
    generalize hK : k + 1 = K
    intro JF JT
    rw [laws_FnLists.l0]
    rw [if_pos (by omega), implIsList K l (by omega) hw (by omega)]
    simp only [Option.bind_some]
    cases hB : isListB l
    · exact JF
    · exact JT hB
theorem FnLists : laws_FnLists.Pure := by
  intro l _ hb _
  obtain ⟨K, hK⟩ : ∃ K, K = l.length + 1060000 := ⟨_, rfl⟩
  refine ⟨K, ?_⟩
  unfold laws_FnLists.f laws_big.f
  simp only [Option.bind_some, decide_eq_true_eq]
  by_cases h : (l.length : Int) > 1048576
  · rw [if_pos h]
  rw [if_neg h]
  obtain ⟨ls, t, e1, s1⟩ := drawWA K l (by omega) (by omega)
  have hw : ∀ x ∈ ls, x.f0.size ≤ 1048576 := fun x hx => by have := s1.2.2 x hx; omega
  have hl := s1.2.1
  rw [e1]
  simp only [Option.bind_some]
  rw [implWordsAt K ls t (by omega) hw (by omega)]
  simp only [Option.bind_some]
  exact lists_l0 l (by omega) ls t hl hw ls.length K 0 (by omega) (by omega)
end Go.Proofs.Ytcagamenognlpaa.Pure
