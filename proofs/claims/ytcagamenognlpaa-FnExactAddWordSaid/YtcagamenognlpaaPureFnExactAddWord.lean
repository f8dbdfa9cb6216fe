/- The law FnExactAddWord answers true for every list of listed words and every listed word. No condition. -/
import Derived.Test.YtcagamenognlpaaPFnExactAddWordx11
namespace Go.Proofs.Ytcagamenognlpaa.Pure
open Go.RowKit Go.Proofs.Ytcagamenognlpaa.PFnExactAddWord Go.Proofs.YtcagamenognlpaaW.PrintWords Go.Proofs.YtcagamenognlpaaW.PrintLast Go.Proofs.YtcagamenognlpaaW.PrintMore
set_option linter.unusedVariables false
set_option linter.unusedSimpArgs false
theorem wrap_nat {m n : Nat} (h : m < n) (hn : n ≤ 140737488351232) : wrap64 ((m : Int) + 1) = ((m + 1 : Nat) : Int) := by
  unfold wrap64
  omega
theorem getD_set_self {α : Type} (l : List α) (i j : Nat) (v d : α) : (l.set i v).getD j d = if i = j ∧ i < l.length then v else l.getD j d := by
  simp only [List.getD_eq_getElem?_getD, List.getElem?_set]
  by_cases h : i = j
  · subst h
    by_cases h2 : i < l.length
    · simp [h2]
    · simp [h2]
  · simp [h]
theorem ext_getD {α : Type} (a b : List α) (d : α) (hl : a.length = b.length) (h : ∀ j, j < b.length → a.getD j d = b.getD j d) : a = b := by
  refine List.ext_getElem hl fun j h1 h2 => ?_
  have := h j h2
  simpa [List.getD_eq_getElem?_getD, List.getElem?_eq_getElem h1, List.getElem?_eq_getElem h2] using this
theorem copy_loop {α : Type} (F : Nat → Nat → List α → Option (List α)) (x0 : List α) (dv : α)
    (hend : ∀ k s, s.length = x0.length → F (k + 1) x0.length s = some s)
    (hstep : ∀ k i s, i < x0.length → s.length = x0.length → F (k + 1) i s = F k (i + 1) (s.set i (x0.getD i dv))) :
    ∀ (d k i : Nat) (s : List α), i + d = x0.length → d < k → s.length = x0.length → (∀ j, j < i → s.getD j dv = x0.getD j dv) → F k i s = some x0 := by
  intro d
  induction d with
  | zero =>
    intro k i s hi hk hs hj
    obtain ⟨k, rfl⟩ : ∃ m, k = m + 1 := ⟨k - 1, by omega⟩
    obtain rfl : i = x0.length := by omega
    rw [hend k s hs, ext_getD s x0 dv hs hj]
  | succ d ih =>
    intro k i s hi hk hs hj
    obtain ⟨k, rfl⟩ : ∃ m, k = m + 1 := ⟨k - 1, by omega⟩
    rw [hstep k i s (by omega) hs]
    refine ih k (i + 1) _ (by omega) (by omega) (by simpa using hs) fun j h => ?_
    rw [getD_set_self]
    by_cases e : i = j
    · subst e
      rw [if_pos ⟨rfl, by omega⟩]
    · rw [if_neg (fun h => e h.1)]
      exact hj j (by omega)
theorem eq_loop {α : Type} [DecidableEq α] (F : Nat → Nat → Option Bool) (x0 x1 : List α) (dv : α) (hl : x0.length = x1.length)
    (hend : ∀ k, F (k + 1) x0.length = some true)
    (hstep : ∀ k i, i < x0.length → F (k + 1) i = if x0.getD i dv = x1.getD i dv then F k (i + 1) else some false) :
    ∀ (d k i : Nat), i + d = x0.length → d < k → F k i = some (decide (x0.drop i = x1.drop i)) := by
  intro d
  induction d with
  | zero =>
    intro k i hi hk
    obtain ⟨k, rfl⟩ : ∃ m, k = m + 1 := ⟨k - 1, by omega⟩
    obtain rfl : i = x0.length := by omega
    rw [hend]
    simp [hl]
  | succ d ih =>
    intro k i hi hk
    obtain ⟨k, rfl⟩ : ∃ m, k = m + 1 := ⟨k - 1, by omega⟩
    have h0 : i < x0.length := by omega
    have h1 : i < x1.length := by omega
    rw [hstep k i h0, ih k (i + 1) (by omega) (by omega), List.drop_eq_getElem_cons h0, List.drop_eq_getElem_cons h1]
    simp only [List.getD_eq_getElem?_getD, List.getElem?_eq_getElem h0, List.getElem?_eq_getElem h1, Option.getD_some, List.cons.injEq]
    by_cases e : x0[i] = x1[i] <;> simp [e]
theorem mark_loop {α : Type} (F : Nat → Nat → List α → Option (Int × List α)) (n : Nat) (val : Nat → α)
    (hend : ∀ k s, s.length = n → F (k + 1) n s = some (1 + (n : Int), s))
    (hstep : ∀ k i s, i < n → s.length = n → F (k + 1) i s = F k (i + 1) (s.set i (val i))) (dv : α) :
    ∀ (d k i : Nat) (s : List α), i + d = n → d < k → s.length = n → (∀ j, j < i → s.getD j dv = val j) → F k i s = some (1 + (n : Int), (List.range n).map val) := by
  intro d
  induction d with
  | zero =>
    intro k i s hi hk hs hj
    obtain ⟨k, rfl⟩ : ∃ m, k = m + 1 := ⟨k - 1, by omega⟩
    obtain rfl : i = n := by omega
    rw [hend k s hs]
    have e : s = (List.range i).map val := ext_getD s _ dv (by simpa using hs) fun j h => by
      have h' : j < i := by simpa using h
      rw [hj j h']
      simp [List.getD_eq_getElem?_getD, h']
    rw [← e]
  | succ d ih =>
    intro k i s hi hk hs hj
    obtain ⟨k, rfl⟩ : ∃ m, k = m + 1 := ⟨k - 1, by omega⟩
    rw [hstep k i s (by omega) hs]
    refine ih k (i + 1) _ (by omega) (by omega) (by simpa using hs) fun j h => ?_
    rw [getD_set_self]
    by_cases e : i = j
    · subst e
      rw [if_pos ⟨rfl, by omega⟩]
    · rw [if_neg (fun h => e h.1)]
      exact hj j (by omega)
theorem held_loop (F : Nat → Nat → Option Int) (n : Nat)
    (hend : ∀ k, F (k + 1) n = some (1 + (n : Int)))
    (hstep : ∀ k i, i < n → F (k + 1) i = F k (i + 1)) :
    ∀ (d k i : Nat), i + d = n → d < k → F k i = some (1 + (n : Int)) := by
  intro d
  induction d with
  | zero =>
    intro k i hi hk
    obtain ⟨k, rfl⟩ : ∃ m, k = m + 1 := ⟨k - 1, by omega⟩
    obtain rfl : i = n := by omega
    exact hend k
  | succ d ih =>
    intro k i hi hk
    obtain ⟨k, rfl⟩ : ∃ m, k = m + 1 := ⟨k - 1, by omega⟩
    rw [hstep k i (by omega)]
    exact ih k (i + 1) (by omega) (by omega)
/-- A loop that counts up, told by its step. -/
def runL {σ ρ : Type} (step : Nat → σ → ρ ⊕ σ) (fin : σ → ρ) : Nat → Nat → σ → ρ
  | 0, _, s => fin s
  | d + 1, i, s => match step i s with
    | .inl r => r
    | .inr s' => runL step fin d (i + 1) s'
theorem loop_run {σ ρ : Type} (F : Nat → Nat → σ → Option ρ) (n : Nat) (step : Nat → σ → ρ ⊕ σ) (fin : σ → ρ) (Inv : Nat → σ → Prop)
    (hend : ∀ k s, Inv n s → F (k + 1) n s = some (fin s))
    (hstep : ∀ k i s, i < n → Inv i s → F (k + 1) i s = match step i s with
      | .inl r => some r
      | .inr s' => F k (i + 1) s')
    (hinv : ∀ i s s', i < n → Inv i s → step i s = .inr s' → Inv (i + 1) s') :
    ∀ (d k i : Nat) (s : σ), i + d = n → d < k → Inv i s → F k i s = some (runL step fin d i s) := by
  intro d
  induction d with
  | zero =>
    intro k i s hi hk hs
    obtain ⟨k, rfl⟩ : ∃ m, k = m + 1 := ⟨k - 1, by omega⟩
    obtain rfl : i = n := by omega
    exact hend k s hs
  | succ d ih =>
    intro k i s hi hk hs
    obtain ⟨k, rfl⟩ : ∃ m, k = m + 1 := ⟨k - 1, by omega⟩
    rw [hstep k i s (by omega) hs]
    unfold runL
    cases e : step i s with
    | inl r => rfl
    | inr s' => exact ih k (i + 1) s' (by omega) (by omega) (hinv i s s' (by omega) hs e)
theorem one_neg (n : Nat) : (1 + (n : Int) < 0) = False := by
  simp
  omega
theorem u8_bds {n : Int} (h : (Lit.int .u8 n).wf = true) : 0 ≤ n ∧ n ≤ 255 := by
  simp [Lit.wf, IntKind.min, IntKind.max, IntKind.signed, IntKind.bits] at h
  omega
theorem i64_bds {n : Int} (h : (Lit.int .i64 n).wf = true) : -9223372036854775808 ≤ n ∧ n ≤ 9223372036854775807 := by
  simp [Lit.wf, IntKind.min, IntKind.max, IntKind.signed, IntKind.bits] at h
  omega
theorem tmod_bd (a : Int) {b : Int} (hb : 0 < b) : -b < Int.tmod a b ∧ Int.tmod a b < b := by
  by_cases h : 0 ≤ a
  · rw [Int.tmod_eq_emod_of_nonneg h]
    have := Int.emod_nonneg a (show b ≠ 0 by omega)
    have := Int.emod_lt_of_pos a hb
    omega
  · have e : Int.tmod a b = -(Int.tmod (-a) b) := by rw [Int.neg_tmod]; omega
    rw [e, Int.tmod_eq_emod_of_nonneg (by omega)]
    have := Int.emod_nonneg (-a) (show b ≠ 0 by omega)
    have := Int.emod_lt_of_pos (-a) hb
    omega
theorem rd45 (l : List S45) (i : Nat) : rd_T45 l (i : Int) = l.getD i z45 := by simp [rd_T45]
theorem getD_mem {α : Type} (l : List α) (i : Nat) (d : α) (h : i < l.length) : l.getD i d ∈ l := by
  simp [List.getD_eq_getElem?_getD, List.getElem?_eq_getElem h]
def cvL (x : S42) : S45 := ⟨x.f0, x.f1, x.f2, x.f3⟩
def WfL (x : S42) : Prop := ∃ (s : ByteArray) (a b c : Int), x = ⟨s, a, b, c⟩ ∧ s.size ≤ maxLen ∧ (Lit.int .i64 a).wf = true ∧ (Lit.int .i64 b).wf = true ∧ (Lit.int .i64 c).wf = true
def smallL (x : S42) : Prop := x.f0.size ≤ 1048576 ∧ (-9223372036854775808 ≤ x.f1 ∧ x.f1 ≤ 9223372036854775807) ∧ (-9223372036854775808 ≤ x.f2 ∧ x.f2 ≤ 9223372036854775807) ∧ (-9223372036854775808 ≤ x.f3 ∧ x.f3 ≤ 9223372036854775807)
theorem rd42 (l : List S42) (i : Nat) : rd_T42 l (i : Int) = l.getD i z42 := by simp [rd_T42]
theorem getD_cvL (l : List S42) (i : Nat) : (l.map cvL).getD i z45 = cvL (l.getD i z42) := by
  simp only [List.getD_eq_getElem?_getD, List.getElem?_map]
  cases l[i]? <;> rfl
theorem toL (k : Nat) (l : List S42) (hl : l.length ≤ 1048576) (hk : l.length < k) : laws_toListedS.f k l = some (l.map cvL) := by
  unfold laws_toListedS.f
  rw [if_pos (by omega), if_pos (by omega)]
  have hm : (l.map cvL).length = l.length := by simp
  have h := copy_loop (fun k i s => laws_toListedS.l0 k l s (i : Int)) (l.map cvL) z45 (fun k s hs => ?_) (fun k i s hi hs => ?_) l.length k 0 (List.replicate ((l.length : Int) : Int).toNat z45) (by simp) hk (by simp) (fun j h => by omega)
  · exact h
  · simp only [laws_toListedS.l0]
    rw [if_neg (by omega)]
  · simp only [laws_toListedS.l0, laws_toListed.f, Option.bind_some]
    rw [hm] at hi hs
    rw [if_pos (by omega), if_pos (by omega), if_pos (by omega), wrap_nat hi (by omega), rd42, getD_cvL]
    simp [cvL]
theorem eqL_l0 (l : List S45) (hl : l.length ≤ 1048577) : ∀ (d k i : Nat), i + d = l.length → d < k → laws_eqListedS.l0 k l l (i : Int) = some true := by
  intro d
  induction d with
  | zero =>
    intro k i hi hk
    obtain ⟨k, rfl⟩ : ∃ m, k = m + 1 := ⟨k - 1, by omega⟩
    simp only [laws_eqListedS.l0]
    rw [if_neg (by omega)]
  | succ d ih =>
    intro k i hi hk
    obtain ⟨k, rfl⟩ : ∃ m, k = m + 1 := ⟨k - 1, by omega⟩
    have IH := ih k (i + 1) (by omega) (by omega)
    simp only [laws_eqListedS.l0, laws_eqListed.f]
    rw [if_pos (by omega), if_pos (by omega), if_pos (by omega), wrap_nat (by omega : i < l.length) (by omega), IH]
    simp
theorem eqL (k : Nat) (l : List S45) (hl : l.length ≤ 1048577) (hk : l.length < k) : laws_eqListedS.f k l l = some true := by
  unfold laws_eqListedS.f
  rw [if_pos rfl]
  exact eqL_l0 l hl l.length k 0 (by omega) hk
theorem szL_l0 (l : List S42) (hw : ∀ x ∈ l, WfL x) : ∀ (d k i : Nat) (q : Int), i + d = l.length → l.length ≤ 1048576 → d < k → 0 ≤ q → q ≤ 1048576 → ∃ r, laws_szListedS.l0 k l q (i : Int) = some r ∧ (r < 0 ∨ (0 ≤ r ∧ r ≤ q ∧ ∀ j, i ≤ j → j < l.length → (l.getD j z42).f0.size ≤ 1048576)) := by
  intro d
  induction d with
  | zero =>
    intro k i q hi hn hk q0 q1
    obtain ⟨k, rfl⟩ : ∃ m, k = m + 1 := ⟨k - 1, by omega⟩
    simp only [laws_szListedS.l0]
    rw [if_neg (by omega)]
    exact ⟨q, rfl, Or.inr ⟨q0, Int.le_refl _, fun j h1 h2 => by omega⟩⟩
  | succ d ih =>
    intro k i q hi hn hk q0 q1
    obtain ⟨k, rfl⟩ : ∃ m, k = m + 1 := ⟨k - 1, by omega⟩
    simp only [laws_szListedS.l0, laws_szListed.f]
    have hlt : i < l.length := by omega
    obtain ⟨s, a, b, c, ex, hs, _⟩ := hw _ (getD_mem l i z42 hlt)
    unfold maxLen at hs
    have es : (l.getD i z42).f0.size = s.size := by rw [ex]
    have e2 : wrap64 (q - ((l.getD i z42).f0.size : Int)) = q - (l.getD i z42).f0.size := by unfold wrap64; omega
    rw [if_pos (by omega), if_pos (by omega), rd42, e2]
    by_cases h : q - ((l.getD i z42).f0.size : Int) < 0
    · rw [if_pos h]
      exact ⟨-1, rfl, Or.inl (by decide)⟩
    · rw [if_neg h]
      simp only [Option.bind_some]
      rw [if_neg h, wrap_nat hlt (by omega)]
      obtain ⟨r, er, hr⟩ := ih k (i + 1) (q - (l.getD i z42).f0.size) (by omega) hn (by omega) (by omega) (by omega)
      refine ⟨r, er, ?_⟩
      rcases hr with hr | ⟨r0, r1, hr⟩
      · exact Or.inl hr
      · refine Or.inr ⟨r0, by omega, fun j h1 h2 => ?_⟩
        by_cases hj : j = i
        · subst hj
          omega
        · exact hr j (by omega) h2
/-- What the law's guard lets by: a list of at most 2^20 structs with words of at most 2^20 bytes. -/
theorem szL (k : Nat) (l : List S42) (hl : l.length ≤ 9223372036854775807) (hw : ∀ x ∈ l, WfL x) (q : Int) (q0 : 0 ≤ q) (q1 : q ≤ 1048576) (hk : l.length < k) : ∃ r, laws_szListedS.f k l q = some r ∧ (r < 0 ∨ (0 ≤ r ∧ r ≤ q ∧ l.length ≤ 1048576 ∧ ∀ x ∈ l, smallL x)) := by
  unfold laws_szListedS.f
  have e : wrap64 (q - (l.length : Int)) = q - l.length := by unfold wrap64; omega
  rw [e]
  by_cases h : q - (l.length : Int) < 0
  · rw [if_pos h]
    exact ⟨-1, rfl, Or.inl (by decide)⟩
  · rw [if_neg h]
    obtain ⟨r, er, hr⟩ := szL_l0 l hw l.length k 0 (q - l.length) (by omega) (by omega) hk (by omega) (by omega)
    refine ⟨r, er, ?_⟩
    rcases hr with hr | ⟨r0, r1, hr⟩
    · exact Or.inl hr
    · refine Or.inr ⟨r0, by omega, by omega, fun x hx => ?_⟩
      obtain ⟨s, a, b, c, ex, _, wa, wb, wc⟩ := hw x hx
      obtain ⟨j, hj, ej⟩ := List.getElem_of_mem hx
      have := hr j (by omega) hj
      have eg : l.getD j z42 = x := by simp [List.getD_eq_getElem?_getD, List.getElem?_eq_getElem hj, ej]
      rw [eg] at this
      subst ex
      exact ⟨this, i64_bds wa, i64_bds wb, i64_bds wc⟩
theorem ba_ext {a b : ByteArray} : a.toList = b.toList ↔ a = b := by
  constructor
  · intro h
    rw [ByteArray.toList_eq, ByteArray.toList_eq] at h
    cases a
    cases b
    congr 1
    exact Array.ext' h
  · rintro rfl
    rfl
def idxV (l : List S45) (s : ByteArray) : Int := impl_listedAt.g l s l.length 0
theorem g_rng (l : List S45) (s : ByteArray) : ∀ (d i : Nat), i + d = l.length → impl_listedAt.g l s d (i : Int) = -1 ∨ ((i : Int) ≤ impl_listedAt.g l s d (i : Int) ∧ impl_listedAt.g l s d (i : Int) < (l.length : Int)) := by
  intro d
  induction d with
  | zero => intro i _; exact Or.inl rfl
  | succ d ih =>
    intro i hi
    unfold impl_listedAt.g
    split
    · exact Or.inr ⟨by omega, by omega⟩
    · have := ih (i + 1) (by omega)
      have e : ((i + 1 : Nat) : Int) = (i : Int) + 1 := rfl
      rw [e] at this
      omega
theorem idx_rng (l : List S45) (s : ByteArray) : idxV l s = -1 ∨ (0 ≤ idxV l s ∧ idxV l s < (l.length : Int)) := g_rng l s l.length 0 (by omega)
theorem specFind_l0 (l : List S45) (s : ByteArray) (hl : l.length ≤ 1048577) : ∀ (d k i : Nat), i + d = l.length → d < k → spec_l5Find.l0 k l s (i : Int) = some (impl_listedAt.g l s d (i : Int)) := by
  intro d
  induction d with
  | zero =>
    intro k i hi hk
    obtain ⟨k, rfl⟩ : ∃ m, k = m + 1 := ⟨k - 1, by omega⟩
    simp only [spec_l5Find.l0]
    rw [if_neg (by omega)]
    rfl
  | succ d ih =>
    intro k i hi hk
    obtain ⟨k, rfl⟩ : ∃ m, k = m + 1 := ⟨k - 1, by omega⟩
    have IH := ih k (i + 1) (by omega) (by omega)
    simp only [spec_l5Find.l0]
    rw [if_pos (by omega), if_pos (by omega), wrap_nat (by omega : i < l.length) (by omega), IH]
    rw [show impl_listedAt.g l s (d + 1) (i : Int) = if ((rd_T45 l (i : Int)).f0.toList == s.toList) = true then (i : Int) else impl_listedAt.g l s d (((i + 1 : Nat) : Int)) from rfl]
    by_cases h : (rd_T45 l (i : Int)).f0.toList = s.toList
    · rw [if_pos h, if_pos (by simpa using h)]
    · rw [if_neg h, if_neg (by simpa using h)]
theorem specFind (k : Nat) (l : List S45) (s : ByteArray) (hl : l.length ≤ 1048577) (hk : l.length < k) : spec_l5Find.f k l s = some (idxV l s) := specFind_l0 l s hl l.length k 0 (by omega) hk
theorem implFind (l : List S45) (s : ByteArray) (hl : l.length ≤ 1048577) : impl_listedAt.f l s = some (idxV l s) := by
  unfold impl_listedAt.f
  rw [if_pos (by omega)]
  rfl
theorem l1in (a b c : Int) : spec_l1In.f a b c = some (decide (b ≤ a ∧ a ≤ c)) := by
  unfold spec_l1In.f
  by_cases h : b ≤ a <;> simp [h]
theorem inr (a b c : Int) : impl_InRange.f a b c = some (decide (b ≤ a ∧ a ≤ c)) := by
  unfold impl_InRange.f
  by_cases h : b ≤ a <;> simp [h]
def allF (f : Int → Bool) : Nat → Int → Bool
  | 0, _ => true
  | d + 1, i => f i && allF f d (i + 1)
theorem wrap_up {i n : Int} (h0 : 0 ≤ i) (h : i < n) (hn : n ≤ 140737488351232) : wrap64 (i + 1) = i + 1 := by
  unfold wrap64
  omega
def letB (c : Int) : Bool := decide (97 ≤ c ∧ c ≤ 122)
def isWordB (s : ByteArray) : Bool := decide (1 ≤ s.size ∧ s.size ≤ 8) && allF (fun i => letB (bt s i)) s.size 0
theorem specIsWord_l0 (s : ByteArray) (hn : (s.size : Int) ≤ 140737488351232) : ∀ (d k : Nat) (i : Int), 0 ≤ i → (s.size : Int) - i = d → d < k →
    spec_IsWord.l0 k s i = some (allF (fun i => letB (bt s i)) d i) := by
  intro d
  induction d with
  | zero =>
    intro k i h0 hd hk
    obtain ⟨k, rfl⟩ : ∃ m, k = m + 1 := ⟨k - 1, by omega⟩
    simp only [spec_IsWord.l0]
    rw [if_neg (by omega)]
    rfl
  | succ d ih =>
    intro k i h0 hd hk
    obtain ⟨k, rfl⟩ : ∃ m, k = m + 1 := ⟨k - 1, by omega⟩
    have hlt : i < (s.size : Int) := by omega
    simp only [spec_IsWord.l0]
    rw [if_pos hlt, if_pos h0, wrap_up h0 hlt hn, ih k (i + 1) (by omega) (by omega) (by omega)]
    simp only [allF, letB]
    by_cases h1 : bt s i < 97
    · simp [h1, show ¬ 97 ≤ bt s i by omega]
    · by_cases h2 : bt s i > 122
      · simp [h1, h2, show ¬ bt s i ≤ 122 by omega]
      · simp [h1, h2, show 97 ≤ bt s i by omega, show bt s i ≤ 122 by omega]
theorem specIsWord_eq (s : ByteArray) (hn : s.size ≤ 140737488351232) (k : Nat) (hk : s.size < k) : spec_IsWord.f k s = some (isWordB s) := by
  unfold spec_IsWord.f isWordB
  rw [l1in, specIsWord_l0 s (by omega) s.size k 0 (by omega) (by omega) hk]
  simp only [Option.bind_some]
  by_cases h : 1 ≤ s.size ∧ s.size ≤ 8
  · rw [if_pos (by simp; omega)]
    simp [h]
  · rw [if_neg (by simp; omega)]
    simp [h]
theorem isLetter_eq (c : Int) : impl_isLetter.f c = some (letB c) := by
  unfold impl_isLetter.f letB
  by_cases h : c ≥ 97 <;> simp [h]
theorem implIsWord_l0 (s : ByteArray) (hn : (s.size : Int) ≤ 140737488351232) : ∀ (d k : Nat) (i : Int), 0 ≤ i → (s.size : Int) - i = d → d < k →
    impl_IsWord.l0 k s (s.size : Int) i = some (allF (fun i => letB (bt s i)) d i) := by
  intro d
  induction d with
  | zero =>
    intro k i h0 hd hk
    obtain ⟨k, rfl⟩ : ∃ m, k = m + 1 := ⟨k - 1, by omega⟩
    simp only [impl_IsWord.l0]
    rw [if_neg (by omega)]
    rfl
  | succ d ih =>
    intro k i h0 hd hk
    obtain ⟨k, rfl⟩ : ∃ m, k = m + 1 := ⟨k - 1, by omega⟩
    have hlt : i < (s.size : Int) := by omega
    simp only [impl_IsWord.l0]
    rw [if_pos hlt, if_pos h0, if_pos hlt, wrap_up h0 hlt hn, ih k (i + 1) (by omega) (by omega) (by omega), isLetter_eq]
    simp only [allF, Option.bind_some]
    cases letB (bt s i) <;> simp
theorem implIsWord_eq (s : ByteArray) (hn : s.size ≤ 140737488351232) (k : Nat) (hk : s.size < k) : impl_IsWord.f k s = some (isWordB s) := by
  unfold impl_IsWord.f isWordB
  rw [inr, implIsWord_l0 s (by omega) s.size k 0 (by omega) (by omega) hk]
  simp only [Option.bind_some]
  by_cases h : 1 ≤ s.size ∧ s.size ≤ 8
  · rw [if_pos (by simp; omega)]
    simp [h]
  · rw [if_neg (by simp; omega)]
    simp [h]
def allN (f : Nat → Bool) : Nat → Nat → Bool
  | 0, _ => true
  | d + 1, i => f i && allN f d (i + 1)
def befB (a b : ByteArray) : Bool := if (a.size : Int) = (b.size : Int) then Op.bytesLess a.toList b.toList else decide ((a.size : Int) < (b.size : Int))
def okL (x : S45) : Bool := isWordB x.f0 && decide (0 ≤ x.f1 ∧ x.f1 ≤ x.f2) && decide (x.f2 ≤ 1000) && decide (0 ≤ x.f3 ∧ x.f3 ≤ 99)
def rowOk (l : List S45) (i : Nat) : Bool := okL (l.getD i z45) && (decide (i = 0) || befB (l.getD (i - 1) z45).f0 (l.getD i z45).f0)
def isListB (l : List S45) : Bool := allN (rowOk l) l.length 0 && decide (l.length ≤ 40)
theorem befS (a b : ByteArray) : spec_BeforeWord.f a b = some (befB a b) := by
  unfold spec_BeforeWord.f befB
  split <;> rfl
theorem befI (a b : ByteArray) : impl_BeforeWord.f a b = some (befB a b) := by
  unfold impl_BeforeWord.f befB
  split <;> rfl
theorem wrap_dn {i : Nat} (h : 0 < i) (hn : i ≤ 140737488351232) : wrap64 ((i : Int) - 1) = ((i - 1 : Nat) : Int) := by
  unfold wrap64
  omega
theorem specIsList_l0 (l : List S45) (hl : l.length ≤ 1048577) (hw : ∀ x ∈ l, x.f0.size ≤ 1048576) : ∀ (d k i : Nat), i + d = l.length → d + 1048578 < k → spec_IsList.l0 k l (i : Int) = some (allN (rowOk l) d i && decide (l.length ≤ 40)) := by
  intro d
  induction d with
  | zero =>
    intro k i hi hk
    obtain ⟨k, rfl⟩ : ∃ m, k = m + 1 := ⟨k - 1, by omega⟩
    simp only [spec_IsList.l0]
    rw [if_neg (by omega)]
    simp only [allN, Bool.true_and, Option.some.injEq]
    by_cases h : l.length ≤ 40
    · simp [h]; omega
    · simp [h]; omega
  | succ d ih =>
    intro k i hi hk
    obtain ⟨k, rfl⟩ : ∃ m, k = m + 1 := ⟨k - 1, by omega⟩
    have hlt : i < l.length := by omega
    have IH := ih k (i + 1) (by omega) (by omega)
    have hx := hw _ (getD_mem l i z45 hlt)
    simp only [spec_IsList.l0, befS, l1in]
    rw [if_pos (by omega), if_pos (by omega), rd45, specIsWord_eq _ (by omega) k (by omega), wrap_nat hlt (by omega), IH]
    simp only [Option.bind_some, allN, rowOk, okL]
    generalize hxx : l.getD i z45 = x
    generalize allN (rowOk l) d (i + 1) = t
    cases isWordB x.f0
    · simp
    by_cases h1 : x.f1 < 0
    · simp [h1, show ¬ 0 ≤ x.f1 by omega]
    by_cases h2 : x.f1 > x.f2
    · simp [h1, h2, show ¬ x.f1 ≤ x.f2 by omega]
    by_cases h3 : x.f2 > 1000
    · simp [h1, h2, h3, show ¬ x.f2 ≤ 1000 by omega]
    by_cases h4 : 0 ≤ x.f3 ∧ x.f3 ≤ 99
    · by_cases hi0 : i = 0
      · subst hi0
        simp [h1, h2, h3, h4, show x.f2 ≤ 1000 by omega, show 0 ≤ x.f1 by omega, show x.f1 ≤ x.f2 by omega]
      · have hp : 0 < i := by omega
        rw [wrap_dn hp (by omega), rd45]
        generalize befB (l.getD (i - 1) z45).f0 x.f0 = b
        have e1 : ((i - 1 : Nat) : Int) < (l.length : Int) := by omega
        have e2 : (0 : Int) ≤ ((i - 1 : Nat) : Int) := by omega
        have e3 : (i : Int) > 0 := by omega
        rw [if_pos rfl, if_neg h1, if_neg h2, if_neg h3]
        simp only [h4, and_self, decide_true, if_true, e1, e2, e3]
        cases b <;> simp [hi0, show x.f2 ≤ 1000 by omega, show 0 ≤ x.f1 by omega, show x.f1 ≤ x.f2 by omega]
    · simp [h1, h2, h3, h4]
theorem specIsList (k : Nat) (l : List S45) (hl : l.length ≤ 1048577) (hw : ∀ x ∈ l, x.f0.size ≤ 1048576) (hk : l.length + 1048578 < k) : spec_IsList.f k l = some (isListB l) := by
  unfold spec_IsList.f isListB
  exact specIsList_l0 l hl hw l.length k 0 (by omega) hk
theorem implIsList_l0 (l : List S45) (hl : l.length ≤ 1048577) (hw : ∀ x ∈ l, x.f0.size ≤ 1048576) : ∀ (d k i : Nat), i + d = l.length → d + 1048578 < k → impl_IsList.l0 k l l (l.length : Int) (i : Int) = some (allN (rowOk l) d i) := by
  intro d
  induction d with
  | zero =>
    intro k i hi hk
    obtain ⟨k, rfl⟩ : ∃ m, k = m + 1 := ⟨k - 1, by omega⟩
    simp only [impl_IsList.l0]
    rw [if_neg (by omega)]
    rfl
  | succ d ih =>
    intro k i hi hk
    obtain ⟨k, rfl⟩ : ∃ m, k = m + 1 := ⟨k - 1, by omega⟩
    have hlt : i < l.length := by omega
    have IH := ih k (i + 1) (by omega) (by omega)
    have hx := hw _ (getD_mem l i z45 hlt)
    simp only [impl_IsList.l0, befI, inr]
    rw [if_pos (by omega), if_pos (by omega), if_pos (by omega), rd45, implIsWord_eq _ (by omega) k (by omega), wrap_nat hlt (by omega), IH]
    simp only [Option.bind_some, allN, rowOk, okL]
    generalize hxx : l.getD i z45 = x
    generalize allN (rowOk l) d (i + 1) = t
    by_cases hi0 : i = 0
    · subst hi0
      rw [if_neg (by omega)]
      cases isWordB x.f0
      · simp
      by_cases h1 : 0 ≤ x.f1 ∧ x.f1 ≤ x.f2
      · by_cases h3 : x.f2 > 1000
        · simp [h1, h3, show ¬ x.f2 ≤ 1000 by omega]
        · by_cases h4 : 0 ≤ x.f3 ∧ x.f3 ≤ 99
          · simp [h1, h3, h4, show x.f2 ≤ 1000 by omega]
          · simp [h1, h3, h4]
      · simp [h1]
    · have hp : 0 < i := by omega
      rw [if_pos (by omega), wrap_dn hp (by omega), rd45, if_pos (by omega), if_pos (by omega)]
      generalize befB (l.getD (i - 1) z45).f0 x.f0 = b
      cases b
      · simp [hi0]
      cases isWordB x.f0
      · simp
      by_cases h1 : 0 ≤ x.f1 ∧ x.f1 ≤ x.f2
      · by_cases h3 : x.f2 > 1000
        · simp [h1, h3, show ¬ x.f2 ≤ 1000 by omega]
        · by_cases h4 : 0 ≤ x.f3 ∧ x.f3 ≤ 99
          · simp [h1, h3, h4, show x.f2 ≤ 1000 by omega]
          · simp [h1, h3, h4]
      · simp [h1]
theorem implIsList (k : Nat) (l : List S45) (hl : l.length ≤ 1048577) (hw : ∀ x ∈ l, x.f0.size ≤ 1048576) (hk : l.length + 1048578 < k) : impl_IsList.f k l = some (isListB l) := by
  unfold impl_IsList.f isListB
  by_cases h : (l.length : Int) > 40
  · rw [if_pos h]
    simp [show ¬ l.length ≤ 40 by omega]
  · have e : impl_IsList.l0 k l l (l.length : Int) 0 = some (allN (rowOk l) l.length 0) := implIsList_l0 l hl hw l.length k 0 (by omega) hk
    rw [if_neg h, e]
    simp [show l.length ≤ 40 by omega]
def posV (l : List S45) (s : ByteArray) : Nat → Nat → Nat
  | 0, i => i
  | d + 1, i => if befB (l.getD i z45).f0 s = true then posV l s d (i + 1) else i
theorem posV_rng (l : List S45) (s : ByteArray) : ∀ (d i : Nat), i ≤ posV l s d i ∧ posV l s d i ≤ i + d := by
  intro d
  induction d with
  | zero => intro i; exact ⟨Nat.le_refl _, Nat.le_refl _⟩
  | succ d ih =>
    intro i
    unfold posV
    have := ih (i + 1)
    split <;> omega
def insV (l : List S45) (n : Nat) (x : S45) : List S45 := l.take n ++ [x] ++ l.drop n
theorem insV_len (l : List S45) (n : Nat) (x : S45) (h : n ≤ l.length) : (insV l n x).length = l.length + 1 := by
  simp only [insV, List.length_append, List.length_take, List.length_drop, List.length_cons, List.length_nil]
  omega
theorem insV_small (l : List S45) (n : Nat) (x : S45) (B : Nat) (h : ∀ y ∈ l, y.f0.size ≤ B) (hx : x.f0.size ≤ B) : ∀ y ∈ insV l n x, y.f0.size ≤ B := by
  intro y hy
  simp only [insV, List.mem_append, List.mem_cons, List.not_mem_nil, or_false] at hy
  rcases hy with (hy | rfl) | hy
  · exact h y (List.mem_of_mem_take hy)
  · exact hx
  · exact h y (List.mem_of_mem_drop hy)
def addR (l : List S45) (x : S45) (n : Nat) : List S45 × Bool := if idxV l x.f0 ≥ 0 then (l, false) else if isListB (insV l n x) = true then (insV l n x, true) else (l, false)
def addV (l : List S45) (x : S45) : List S45 × Bool := addR l x (posV l x.f0 l.length 0)
theorem addV_len (l : List S45) (x : S45) : (addV l x).1.length ≤ l.length + 1 := by
  have h := posV_rng l x.f0 l.length 0
  unfold addV addR
  split
  · show l.length ≤ _
    omega
  · split
    · show (insV l _ x).length ≤ _
      rw [insV_len l _ x (by omega)]
      omega
    · show l.length ≤ _
      omega
theorem specAdd_j1 (l : List S45) (hl : l.length ≤ 1048576) (hw : ∀ x ∈ l, x.f0.size ≤ 1048576) (x : S45) (hx : x.f0.size ≤ 1048576) (n : Nat) (hn : n ≤ l.length) (k : Nat) (hk : l.length + 1048600 < k) :
    spec_AddWord.j1 (k + 1) l (n : Int) x.f0 x.f1 x.f2 x.f3 = some (addR l x n) := by
  simp only [spec_AddWord.j1, Option.bind_some, List.nil_append, List.length_nil, Int.toNat_natCast]
  have h1 : (l.take n).length ≤ l.length := by rw [List.length_take]; omega
  have h2 : (l.drop n).length ≤ l.length := by rw [List.length_drop]; omega
  have h3 : (l.take n ++ [(⟨x.f0, x.f1, x.f2, x.f3⟩ : S45)]).length ≤ l.length + 1 := by rw [List.length_append]; simp only [List.length_cons, List.length_nil]; omega
  have e : spec_IsList.f k (l.take n ++ [(⟨x.f0, x.f1, x.f2, x.f3⟩ : S45)] ++ l.drop n) = some (isListB (insV l n x)) := specIsList k (insV l n x) (by rw [insV_len l n x hn]; omega) (insV_small l n x 1048576 hw hx) (by rw [insV_len l n x hn]; omega)
  rw [if_pos (by omega), if_pos (by omega), if_pos (by omega), if_pos (by simp only [List.length_cons, List.length_nil]; omega), if_pos (by omega), specFind k l x.f0 (by omega) (by omega), e]
  simp only [Option.bind_some]
  unfold addR
  by_cases h : idxV l x.f0 ≥ 0
  · rw [if_pos h, if_pos h, if_pos (by omega)]
  · rw [if_neg h, if_neg h]
    by_cases hB : isListB (insV l n x) = true
    · rw [if_pos hB, if_pos hB]
      rfl
    · rw [if_neg hB, if_neg hB, if_pos (by omega)]
theorem specAdd_l0 (l : List S45) (hl : l.length ≤ 1048576) (hw : ∀ x ∈ l, x.f0.size ≤ 1048576) (x : S45) (hx : x.f0.size ≤ 1048576) : ∀ (d k i : Nat), i + d = l.length → d + l.length + 1048610 < k →
    spec_AddWord.l0 k l (i : Int) x.f0 x.f1 x.f2 x.f3 = some (addR l x (posV l x.f0 d i)) := by
  intro d
  induction d with
  | zero =>
    intro k i hi hk
    obtain ⟨k, rfl⟩ : ∃ m, k = m + 1 + 1 := ⟨k - 2, by omega⟩
    have J := specAdd_j1 l hl hw x hx i (by omega) k (by omega)
    obtain ⟨K, hK⟩ : ∃ K, K = k + 1 := ⟨_, rfl⟩
    rw [← hK] at J ⊢
    rw [spec_AddWord.l0]
    rw [if_neg (by omega), J]
    rfl
  | succ d ih =>
    intro k i hi hk
    obtain ⟨k, rfl⟩ : ∃ m, k = m + 1 + 1 := ⟨k - 2, by omega⟩
    have J := specAdd_j1 l hl hw x hx i (by omega) k (by omega)
    have IH := ih (k + 1) (i + 1) (by omega) (by omega)
    obtain ⟨K, hK⟩ : ∃ K, K = k + 1 := ⟨_, rfl⟩
    rw [← hK] at J IH ⊢
    rw [spec_AddWord.l0]
    rw [if_pos (by omega), if_pos (by omega), rd45, befS, wrap_nat (by omega : i < l.length) (by omega), IH, J]
    simp only [Option.bind_some, posV]
    by_cases h : befB (l.getD i z45).f0 x.f0 = true
    · rw [if_pos h, if_pos h]
    · rw [if_neg h, if_neg h]
theorem specAdd (k : Nat) (l : List S45) (hl : l.length ≤ 1048576) (hw : ∀ x ∈ l, x.f0.size ≤ 1048576) (x : S45) (hx : x.f0.size ≤ 1048576) (hk : 2 * l.length + 1048620 < k) : spec_AddWord.f k l x.f0 x.f1 x.f2 x.f3 = some (addV l x) := specAdd_l0 l hl hw x hx l.length k 0 (by omega) (by omega)
theorem implAdd_j1 (l : List S45) (hl : l.length ≤ 1048576) (hw : ∀ x ∈ l, x.f0.size ≤ 1048576) (x : S45) (hx : x.f0.size ≤ 1048576) (hf : ¬ idxV l x.f0 ≥ 0) (n : Nat) (hn : n ≤ l.length) (k : Nat) (hk : l.length + 1048600 < k) :
    impl_AddWord.j1 (k + 1) l (n : Int) x.f0 x.f1 x.f2 x.f3 = some (addR l x n) := by
  have hc : impl_Listed.f l = some l := by
    unfold impl_Listed.f
    rw [if_pos (by omega)]
  have e0 : impl_AddWord.insL l (n : Int) ⟨x.f0, x.f1, x.f2, x.f3⟩ = insV l n x := by
    unfold impl_AddWord.insL insV
    rw [Int.toNat_natCast]
  have e : impl_IsList.f k (insV l n x) = some (isListB (insV l n x)) := implIsList k (insV l n x) (by rw [insV_len l n x hn]; omega) (insV_small l n x 1048576 hw hx) (by rw [insV_len l n x hn]; omega)
  simp only [impl_AddWord.j1, hc, Option.bind_some, e0, Int.toNat_natCast]
  rw [if_pos (by omega), if_pos ⟨hn, by omega⟩, e]
  simp only [Option.bind_some]
  unfold addR
  rw [if_neg hf]
  by_cases hB : isListB (insV l n x) = true
  · rw [if_pos hB, if_pos hB]
  · rw [if_neg hB, if_neg hB]
theorem implAdd_l0 (l : List S45) (hl : l.length ≤ 1048576) (hw : ∀ x ∈ l, x.f0.size ≤ 1048576) (x : S45) (hx : x.f0.size ≤ 1048576) (hf : ¬ idxV l x.f0 ≥ 0) : ∀ (d k i : Nat), i + d = l.length → d + l.length + 1048610 < k →
    impl_AddWord.l0 k l (i : Int) x.f0 x.f1 x.f2 x.f3 = some (addR l x (posV l x.f0 d i)) := by
  intro d
  induction d with
  | zero =>
    intro k i hi hk
    obtain ⟨k, rfl⟩ : ∃ m, k = m + 1 + 1 := ⟨k - 2, by omega⟩
    have J := implAdd_j1 l hl hw x hx hf i (by omega) k (by omega)
    obtain ⟨K, hK⟩ : ∃ K, K = k + 1 := ⟨_, rfl⟩
    rw [← hK] at J ⊢
    rw [impl_AddWord.l0]
    rw [if_neg (by omega), J]
    rfl
  | succ d ih =>
    intro k i hi hk
    obtain ⟨k, rfl⟩ : ∃ m, k = m + 1 + 1 := ⟨k - 2, by omega⟩
    have J := implAdd_j1 l hl hw x hx hf i (by omega) k (by omega)
    have IH := ih (k + 1) (i + 1) (by omega) (by omega)
    obtain ⟨K, hK⟩ : ∃ K, K = k + 1 := ⟨_, rfl⟩
    rw [← hK] at J IH ⊢
    rw [impl_AddWord.l0]
    rw [if_pos (by omega), if_pos (by omega), rd45, befI, wrap_nat (by omega : i < l.length) (by omega), IH, J]
    simp only [Option.bind_some, posV]
    by_cases h : befB (l.getD i z45).f0 x.f0 = true
    · rw [if_pos h, if_pos h]
    · rw [if_neg h, if_neg h]
theorem implAdd (k : Nat) (l : List S45) (hl : l.length ≤ 1048576) (hw : ∀ x ∈ l, x.f0.size ≤ 1048576) (x : S45) (hx : x.f0.size ≤ 1048576) (hk : 2 * l.length + 1048620 < k) : impl_AddWord.f k l x.f0 x.f1 x.f2 x.f3 = some (addV l x) := by
  have hc : impl_Listed.f l = some l := by
    unfold impl_Listed.f
    rw [if_pos (by omega)]
  unfold impl_AddWord.f
  rw [implFind l x.f0 (by omega), hc]
  simp only [Option.bind_some]
  by_cases h : idxV l x.f0 ≥ 0
  · rw [if_pos h]
    unfold addV addR
    rw [if_pos h]
  · rw [if_neg h]
    exact implAdd_l0 l hl hw x hx h l.length k 0 (by omega) (by omega)
theorem markText_some : ∀ (d k : Nat) (x : Int) (s : ByteArray), 0 ≤ x → x < 10 ^ d → s.size + d ≤ 1000000 → d < k → ∃ r, laws_markText.l0 k x s = some r := by
  intro d
  induction d with
  | zero =>
    intro k x s h0 h1 hs hk
    obtain ⟨k, rfl⟩ : ∃ m, k = m + 1 := ⟨k - 1, by omega⟩
    simp only [laws_markText.l0]
    rw [if_neg (by simp at h1; omega), if_pos (by omega)]
    exact ⟨_, rfl⟩
  | succ d ih =>
    intro k x s h0 h1 hs hk
    obtain ⟨k, rfl⟩ : ∃ m, k = m + 1 := ⟨k - 1, by omega⟩
    simp only [laws_markText.l0, Option.bind_some]
    by_cases h : x > 0
    · have e1 : ∀ z : Int, (strOfNums [z]).size = 1 := fun z => rfl
      have hq : 0 ≤ Int.tdiv x 10 ∧ Int.tdiv x 10 ≤ x ∧ Int.tdiv x 10 < 10 ^ d := by
        rw [Int.tdiv_eq_ediv_of_nonneg h0]
        have h2 : x < 10 * 10 ^ d := by rw [Int.pow_succ] at h1; omega
        generalize (10 : Int) ^ d = t at h2
        omega
      by_cases hx : x ≤ 9223372036854775807
      · have e2 : wrap64 (Int.tdiv x 10) = Int.tdiv x 10 := by
          obtain ⟨a, b, _⟩ := hq
          unfold wrap64
          omega
        rw [if_pos h, e1, if_pos (by omega), e2]
        exact ih k _ _ hq.1 hq.2.2 (by rw [ByteArray.size_append, e1]; omega) (by omega)
      · have e2 : 0 ≤ wrap64 (Int.tdiv x 10) ∨ wrap64 (Int.tdiv x 10) < 0 := by omega
        rw [if_pos h, e1, if_pos (by omega)]
        rcases e2 with e2 | e2
        · have e3 : wrap64 (Int.tdiv x 10) ≤ Int.tdiv x 10 := by
            obtain ⟨a, b, _⟩ := hq
            unfold wrap64 at e2 ⊢
            omega
          exact ih k _ _ e2 (by omega) (by rw [ByteArray.size_append, e1]; omega) (by omega)
        · obtain ⟨k, rfl⟩ : ∃ m, k = m + 1 := ⟨k - 1, by omega⟩
          simp only [laws_markText.l0]
          rw [if_neg (by omega), if_pos (by rw [ByteArray.size_append, e1]; omega)]
          exact ⟨_, rfl⟩
    · rw [if_neg h, if_pos (by omega)]
      exact ⟨_, rfl⟩
def mkT (n : Int) : ByteArray := (laws_markText.f 40 n).getD ⟨#[]⟩
theorem markText_le (n : Int) (r : ByteArray) (h : laws_markText.f 40 n = some r) : ∀ j, laws_markText.f (40 + j) n = some r := by
  intro j
  induction j with
  | zero => exact h
  | succ j ih => exact laws_markText.mono n (40 + j) r ih
theorem markText (k : Nat) (n : Int) (h1 : n < 10000000000) (hk : 40 ≤ k) : laws_markText.f k n = some (mkT n) := by
  have ⟨r, hr⟩ : ∃ r, laws_markText.f 40 n = some r := by
    unfold laws_markText.f
    by_cases h : n ≤ 0
    · rw [if_pos h]
      exact ⟨_, rfl⟩
    · rw [if_neg h]
      exact markText_some 10 40 n _ (by omega) (by simpa using h1) (by decide) (by decide)
  have e : mkT n = r := by unfold mkT; rw [hr]; rfl
  rw [e]
  obtain ⟨j, rfl⟩ : ∃ j, k = 40 + j := ⟨k - 40, by omega⟩
  exact markText_le n r hr j
def valL (T : Int → ByteArray) (j : Nat) : S45 := ⟨T (1 + 4 * (j : Int)), 2 + 4 * (j : Int), 3 + 4 * (j : Int), 4 + 4 * (j : Int)⟩
theorem getD_set45 (s : List S45) (i j : Nat) (v : S45) : (s.set i v).getD j z45 = if i = j ∧ i < s.length then v else s.getD j z45 := getD_set_self s i j v z45
theorem markLs_l0 (T : Int → ByteArray) (hT : ∀ (k : Nat) (n : Int), n < 10000000000 → 40 ≤ k → laws_markText.f k n = some (T n)) : ∀ (d k i : Nat) (s : List S45), i + d = s.length → s.length ≤ 2000000 → d + 40 < k → (∀ j, j < i → s.getD j z45 = valL T j) → laws_markListedS.l0 k s (1 + 4 * (i : Int)) (i : Int) = some (1 + 4 * (s.length : Int), (List.range s.length).map (valL T)) := by
  intro d
  induction d with
  | zero =>
    intro k i s hi hl hk hj
    obtain ⟨k, rfl⟩ : ∃ m, k = m + 1 := ⟨k - 1, by omega⟩
    simp only [laws_markListedS.l0]
    rw [if_neg (by omega)]
    obtain rfl : i = s.length := by omega
    have e : s = (List.range s.length).map (valL T) := ext_getD s _ z45 (by simp) fun j h => by
      have h' : j < s.length := by simpa using h
      rw [hj j h']
      simp [List.getD_eq_getElem?_getD, h']
    rw [← e]
  | succ d ih =>
    intro k i s hi hl hk hj
    obtain ⟨k, rfl⟩ : ∃ m, k = m + 1 := ⟨k - 1, by omega⟩
    simp only [laws_markListedS.l0]
    have hlt : i < s.length := by omega
    have e1 : wrap64 (1 + 4 * (i : Int) + 1) = 2 + 4 * (i : Int) := by unfold wrap64; omega
    have e2 : wrap64 (2 + 4 * (i : Int) + 1) = 3 + 4 * (i : Int) := by unfold wrap64; omega
    have e3 : wrap64 (3 + 4 * (i : Int) + 1) = 4 + 4 * (i : Int) := by unfold wrap64; omega
    have e4 : wrap64 (4 + 4 * (i : Int) + 1) = 1 + 4 * ((i + 1 : Nat) : Int) := by unfold wrap64; omega
    rw [if_pos (by omega), hT k _ (by omega) (by omega)]
    simp only [Option.bind_some]
    rw [if_pos (by omega), e1, e2, e3, e4, wrap_nat hlt (by omega)]
    simp only [rd45, Int.toNat_natCast, getD_set45, List.length_set, hlt, and_self, if_true, List.set_set]
    have H := ih k (i + 1) (s.set i (valL T i)) (by simp; omega) (by simp; omega) (by omega) (fun j h => by
      rw [getD_set45]
      by_cases e : i = j
      · subst e
        rw [if_pos ⟨rfl, hlt⟩]
      · rw [if_neg (fun h => e h.1)]
        exact hj j (by omega))
    simp only [List.length_set] at H
    exact H
theorem markLs_ (T : Int → ByteArray) (hT : ∀ (k : Nat) (n : Int), n < 10000000000 → 40 ≤ k → laws_markText.f k n = some (T n)) (k : Nat) (l : List S45) (hl : l.length ≤ 2000000) (hk : l.length + 40 < k) : laws_markListedS.f k l 1 = some (1 + 4 * (l.length : Int), (List.range l.length).map (valL T)) := by
  unfold laws_markListedS.f
  have h := markLs_l0 T hT l.length k 0 l (by omega) hl hk (fun j h => by omega)
  simpa using h
theorem heldLs_l0 (T : Int → ByteArray) (hT : ∀ (k : Nat) (n : Int), n < 10000000000 → 40 ≤ k → laws_markText.f k n = some (T n)) (n : Nat) (hn : n ≤ 2000000) : ∀ (d k i : Nat), i + d = n → d + 40 < k → laws_heldListedS.l0 k ((List.range n).map (valL T)) (1 + 4 * (i : Int)) (i : Int) = some (1 + 4 * (n : Int)) := by
  intro d
  induction d with
  | zero =>
    intro k i hi hk
    obtain ⟨k, rfl⟩ : ∃ m, k = m + 1 := ⟨k - 1, by omega⟩
    simp only [laws_heldListedS.l0]
    obtain rfl : i = n := by omega
    rw [if_neg (by simp)]
  | succ d ih =>
    intro k i hi hk
    obtain ⟨k, rfl⟩ : ∃ m, k = m + 1 := ⟨k - 1, by omega⟩
    have IH := ih k (i + 1) (by omega) (by omega)
    simp only [laws_heldListedS.l0]
    have hlt : i < n := by omega
    have e1 : wrap64 (1 + 4 * (i : Int) + 1) = 2 + 4 * (i : Int) := by unfold wrap64; omega
    have e2 : wrap64 (2 + 4 * (i : Int) + 1) = 3 + 4 * (i : Int) := by unfold wrap64; omega
    have e3 : wrap64 (3 + 4 * (i : Int) + 1) = 4 + 4 * (i : Int) := by unfold wrap64; omega
    have e4 : wrap64 (4 + 4 * (i : Int) + 1) = 1 + 4 * ((i + 1 : Nat) : Int) := by unfold wrap64; omega
    have eg : rd_T45 ((List.range n).map (valL T)) (i : Int) = valL T i := by simp [rd45, List.getD_eq_getElem?_getD, hlt]
    rw [if_pos (by simp; omega), if_pos (by omega), hT k _ (by omega) (by omega), eg]
    simp only [Option.bind_some]
    rw [if_pos (by rfl), e1, if_pos (by rfl), e2, if_pos (by rfl), e3, if_pos (by rfl), e4, wrap_nat hlt (by omega), IH]
theorem heldLs_ (T : Int → ByteArray) (hT : ∀ (k : Nat) (n : Int), n < 10000000000 → 40 ≤ k → laws_markText.f k n = some (T n)) (k n : Nat) (hn : n ≤ 2000000) (hk : n + 40 < k) : laws_heldListedS.f k ((List.range n).map (valL T)) 1 = some (1 + 4 * (n : Int)) := by
  unfold laws_heldListedS.f
  have h := heldLs_l0 T hT n hn n k 0 (by omega) hk
  simpa using h
theorem markLs (k : Nat) (l : List S45) (hl : l.length ≤ 2000000) (hk : l.length + 40 < k) : laws_markListedS.f k l 1 = some (1 + 4 * (l.length : Int), (List.range l.length).map (valL mkT)) := markLs_ mkT (fun k n h1 hk => markText k n h1 hk) k l hl hk
theorem heldLs (k n : Nat) (hn : n ≤ 2000000) (hk : n + 40 < k) : laws_heldListedS.f k ((List.range n).map (valL mkT)) 1 = some (1 + 4 * (n : Int)) := heldLs_ mkT (fun k n h1 hk => markText k n h1 hk) k n hn hk
theorem szOne (s : ByteArray) (a b c q : Int) (hs : s.size ≤ maxLen) (q0 : 0 ≤ q) (q1 : q ≤ 1048576) : ∃ r, laws_szListed.f s a b c q = some r ∧ (r < 0 ∨ s.size ≤ 1048576) := by
  unfold maxLen at hs
  have e : wrap64 (q - (s.size : Int)) = q - s.size := by unfold wrap64; omega
  unfold laws_szListed.f
  rw [e]
  by_cases h : q - (s.size : Int) < 0
  · rw [if_pos h]
    exact ⟨-1, rfl, Or.inl (by decide)⟩
  · rw [if_neg h]
    exact ⟨_, rfl, Or.inr (by omega)⟩
theorem FnExactAddWord (l : List S42) (hl : l.length ≤ 9223372036854775807) (hw : ∀ x ∈ l, WfL x) (s : ByteArray) (a b c : Int) (ws : s.size ≤ maxLen) (wa : (Lit.int .i64 a).wf = true) (wb : (Lit.int .i64 b).wf = true) (wc : (Lit.int .i64 c).wf = true) : ∃ k, laws_FnExactAddWord.f k l s a b c = some true := by
  obtain ⟨K, hK⟩ : ∃ K, K = 4 * l.length + 1048800 := ⟨_, rfl⟩
  refine ⟨K + 1 + 1 + 1, ?_⟩
  unfold laws_FnExactAddWord.f
  obtain ⟨r, er, hr⟩ := szL (K + 1 + 1 + 1) l hl hw 1048576 (by decide) (by decide) (by omega)
  rw [er]
  simp only [Option.bind_some]
  by_cases hneg : r < 0
  · rw [if_pos hneg]
  rw [if_neg hneg]
  rcases hr with hr | ⟨r0, r1, hn, hss⟩
  · exact absurd hr hneg
  obtain ⟨r', er', hr'⟩ := szOne s a b c r ws r0 r1
  rw [er']
  simp only [Option.bind_some]
  by_cases hneg' : r' < 0
  · rw [if_pos hneg']
  rw [if_neg hneg']
  rcases hr' with hr' | hsz
  · exact absurd hr' hneg'
  have hm : (l.map cvL).length = l.length := by simp
  have hs' : ∀ x ∈ l.map cvL, x.f0.size ≤ 1048576 := by
    intro x hx
    obtain ⟨y, hy, rfl⟩ := List.mem_map.1 hx
    exact (hss y hy).1
  obtain ⟨x, hx⟩ : ∃ x : S45, x = ⟨s, a, b, c⟩ := ⟨_, rfl⟩
  have hxs : x.f0.size ≤ 1048576 := by rw [hx]; exact hsz
  have hT : laws_toListed.f s a b c = some (x.f0, x.f1, x.f2, x.f3) := by rw [hx]; rfl
  have hv := addV_len (l.map cvL) x
  rw [toL (K + 1 + 1 + 1) l hn (by omega), hT]
  simp only [Option.bind_some]
  rw [specAdd (K + 1 + 1 + 1) _ (by omega) hs' x hxs (by omega), implAdd (K + 1 + 1 + 1) _ (by omega) hs' x hxs (by omega)]
  simp only [Option.bind_some]
  rw [eqL (K + 1 + 1 + 1) _ (by omega) (by omega)]
  simp only [Option.bind_some, if_true]
  have hb : ∀ b : Bool, (b != b) = false := by decide
  obtain ⟨K3, hK3⟩ : ∃ m, m = K + 1 + 1 := ⟨_, rfl⟩
  rw [← hK3, hb]
  simp only [laws_FnExactAddWord.j0, Bool.false_eq_true, if_false]
  rw [toL K3 l hn (by omega)]
  simp only [Option.bind_some]
  rw [eqL K3 _ (by omega) (by omega), markLs K3 _ (by omega) (by omega)]
  simp only [Option.bind_some, if_true]
  rw [if_neg (by omega), eqL K3 _ (by omega) (by omega)]
  simp only [Option.bind_some, if_true, hb]
  obtain ⟨K2, hK2⟩ : ∃ m, m = K + 1 := ⟨_, rfl⟩
  rw [hK3, ← hK2]
  simp only [laws_FnExactAddWord.j1, Bool.false_eq_true, if_false]
  rw [markLs K2 _ (by omega) (by omega)]
  simp only [Option.bind_some]
  rw [heldLs K2 _ (by omega) (by omega), toL K2 l hn (by omega), hT]
  simp only [Option.bind_some]
  rw [if_neg (by omega), if_pos trivial, implAdd K2 _ (by omega) hs' x hxs (by omega)]
  simp only [Option.bind_some]
  rw [eqL K2 _ (by omega) (by omega)]
  simp only [Option.bind_some, if_true, hb]
  rw [hK2]
  simp only [laws_FnExactAddWord.j2, Bool.false_eq_true, if_false]
  rw [heldLs K _ (by omega) (by omega)]
  simp only [Option.bind_some, if_true]
  rw [if_neg (by omega)]
end Go.Proofs.Ytcagamenognlpaa.Pure
