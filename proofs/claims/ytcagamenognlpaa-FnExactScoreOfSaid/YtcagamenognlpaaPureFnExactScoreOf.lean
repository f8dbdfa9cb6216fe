/- The law FnExactScoreOf answers true for every list of listed words and every slice of strings. No condition. -/
import Derived.Test.YtcagamenognlpaaPFnExactScoreOfx6
namespace Go.Proofs.Ytcagamenognlpaa.Pure
open Go.RowKit Go.Proofs.Ytcagamenognlpaa.PFnExactScoreOf Go.Proofs.YtcagamenognlpaaW.PrintWords Go.Proofs.YtcagamenognlpaaW.PrintLast Go.Proofs.YtcagamenognlpaaW.PrintMore
set_option linter.unusedVariables false
set_option linter.unusedSimpArgs false
theorem wrap_nat {m n : Nat} (h : m < n) (hn : n ≤ 140737488351232) : wrap64 ((m : Int) + 1) = ((m + 1 : Nat) : Int) := by
  unfold wrap64
  omega
theorem getD_set_self {α : Type} (l : List α) (i j : Nat) (v d : α) : (l.set i v).getD j d = if i = j ∧ i < l.length then v else l.getD j d := by
  simp only [List.getD_eq_getElem?_getD, List.getElem?_set]
  by_cases h : i = j
  · subst h
    by_cases h2 : i < l.length
    · simp [h2]
    · simp [h2]
  · simp [h]
theorem ext_getD {α : Type} (a b : List α) (d : α) (hl : a.length = b.length) (h : ∀ j, j < b.length → a.getD j d = b.getD j d) : a = b := by
  refine List.ext_getElem hl fun j h1 h2 => ?_
  have := h j h2
  simpa [List.getD_eq_getElem?_getD, List.getElem?_eq_getElem h1, List.getElem?_eq_getElem h2] using this
theorem copy_loop {α : Type} (F : Nat → Nat → List α → Option (List α)) (x0 : List α) (dv : α)
    (hend : ∀ k s, s.length = x0.length → F (k + 1) x0.length s = some s)
    (hstep : ∀ k i s, i < x0.length → s.length = x0.length → F (k + 1) i s = F k (i + 1) (s.set i (x0.getD i dv))) :
    ∀ (d k i : Nat) (s : List α), i + d = x0.length → d < k → s.length = x0.length → (∀ j, j < i → s.getD j dv = x0.getD j dv) → F k i s = some x0 := by
  intro d
  induction d with
  | zero =>
    intro k i s hi hk hs hj
    obtain ⟨k, rfl⟩ : ∃ m, k = m + 1 := ⟨k - 1, by omega⟩
    obtain rfl : i = x0.length := by omega
    rw [hend k s hs, ext_getD s x0 dv hs hj]
  | succ d ih =>
    intro k i s hi hk hs hj
    obtain ⟨k, rfl⟩ : ∃ m, k = m + 1 := ⟨k - 1, by omega⟩
    rw [hstep k i s (by omega) hs]
    refine ih k (i + 1) _ (by omega) (by omega) (by simpa using hs) fun j h => ?_
    rw [getD_set_self]
    by_cases e : i = j
    · subst e
      rw [if_pos ⟨rfl, by omega⟩]
    · rw [if_neg (fun h => e h.1)]
      exact hj j (by omega)
theorem eq_loop {α : Type} [DecidableEq α] (F : Nat → Nat → Option Bool) (x0 x1 : List α) (dv : α) (hl : x0.length = x1.length)
    (hend : ∀ k, F (k + 1) x0.length = some true)
    (hstep : ∀ k i, i < x0.length → F (k + 1) i = if x0.getD i dv = x1.getD i dv then F k (i + 1) else some false) :
    ∀ (d k i : Nat), i + d = x0.length → d < k → F k i = some (decide (x0.drop i = x1.drop i)) := by
  intro d
  induction d with
  | zero =>
    intro k i hi hk
    obtain ⟨k, rfl⟩ : ∃ m, k = m + 1 := ⟨k - 1, by omega⟩
    obtain rfl : i = x0.length := by omega
    rw [hend]
    simp [hl]
  | succ d ih =>
    intro k i hi hk
    obtain ⟨k, rfl⟩ : ∃ m, k = m + 1 := ⟨k - 1, by omega⟩
    have h0 : i < x0.length := by omega
    have h1 : i < x1.length := by omega
    rw [hstep k i h0, ih k (i + 1) (by omega) (by omega), List.drop_eq_getElem_cons h0, List.drop_eq_getElem_cons h1]
    simp only [List.getD_eq_getElem?_getD, List.getElem?_eq_getElem h0, List.getElem?_eq_getElem h1, Option.getD_some, List.cons.injEq]
    by_cases e : x0[i] = x1[i] <;> simp [e]
theorem mark_loop {α : Type} (F : Nat → Nat → List α → Option (Int × List α)) (n : Nat) (val : Nat → α)
    (hend : ∀ k s, s.length = n → F (k + 1) n s = some (1 + (n : Int), s))
    (hstep : ∀ k i s, i < n → s.length = n → F (k + 1) i s = F k (i + 1) (s.set i (val i))) (dv : α) :
    ∀ (d k i : Nat) (s : List α), i + d = n → d < k → s.length = n → (∀ j, j < i → s.getD j dv = val j) → F k i s = some (1 + (n : Int), (List.range n).map val) := by
  intro d
  induction d with
  | zero =>
    intro k i s hi hk hs hj
    obtain ⟨k, rfl⟩ : ∃ m, k = m + 1 := ⟨k - 1, by omega⟩
    obtain rfl : i = n := by omega
    rw [hend k s hs]
    have e : s = (List.range i).map val := ext_getD s _ dv (by simpa using hs) fun j h => by
      have h' : j < i := by simpa using h
      rw [hj j h']
      simp [List.getD_eq_getElem?_getD, h']
    rw [← e]
  | succ d ih =>
    intro k i s hi hk hs hj
    obtain ⟨k, rfl⟩ : ∃ m, k = m + 1 := ⟨k - 1, by omega⟩
    rw [hstep k i s (by omega) hs]
    refine ih k (i + 1) _ (by omega) (by omega) (by simpa using hs) fun j h => ?_
    rw [getD_set_self]
    by_cases e : i = j
    · subst e
      rw [if_pos ⟨rfl, by omega⟩]
    · rw [if_neg (fun h => e h.1)]
      exact hj j (by omega)
theorem held_loop (F : Nat → Nat → Option Int) (n : Nat)
    (hend : ∀ k, F (k + 1) n = some (1 + (n : Int)))
    (hstep : ∀ k i, i < n → F (k + 1) i = F k (i + 1)) :
    ∀ (d k i : Nat), i + d = n → d < k → F k i = some (1 + (n : Int)) := by
  intro d
  induction d with
  | zero =>
    intro k i hi hk
    obtain ⟨k, rfl⟩ : ∃ m, k = m + 1 := ⟨k - 1, by omega⟩
    obtain rfl : i = n := by omega
    exact hend k
  | succ d ih =>
    intro k i hi hk
    obtain ⟨k, rfl⟩ : ∃ m, k = m + 1 := ⟨k - 1, by omega⟩
    rw [hstep k i (by omega)]
    exact ih k (i + 1) (by omega) (by omega)
/-- A loop that counts up, told by its step. -/
def runL {σ ρ : Type} (step : Nat → σ → ρ ⊕ σ) (fin : σ → ρ) : Nat → Nat → σ → ρ
  | 0, _, s => fin s
  | d + 1, i, s => match step i s with
    | .inl r => r
    | .inr s' => runL step fin d (i + 1) s'
theorem loop_run {σ ρ : Type} (F : Nat → Nat → σ → Option ρ) (n : Nat) (step : Nat → σ → ρ ⊕ σ) (fin : σ → ρ) (Inv : Nat → σ → Prop)
    (hend : ∀ k s, Inv n s → F (k + 1) n s = some (fin s))
    (hstep : ∀ k i s, i < n → Inv i s → F (k + 1) i s = match step i s with
      | .inl r => some r
      | .inr s' => F k (i + 1) s')
    (hinv : ∀ i s s', i < n → Inv i s → step i s = .inr s' → Inv (i + 1) s') :
    ∀ (d k i : Nat) (s : σ), i + d = n → d < k → Inv i s → F k i s = some (runL step fin d i s) := by
  intro d
  induction d with
  | zero =>
    intro k i s hi hk hs
    obtain ⟨k, rfl⟩ : ∃ m, k = m + 1 := ⟨k - 1, by omega⟩
    obtain rfl : i = n := by omega
    exact hend k s hs
  | succ d ih =>
    intro k i s hi hk hs
    obtain ⟨k, rfl⟩ : ∃ m, k = m + 1 := ⟨k - 1, by omega⟩
    rw [hstep k i s (by omega) hs]
    unfold runL
    cases e : step i s with
    | inl r => rfl
    | inr s' => exact ih k (i + 1) s' (by omega) (by omega) (hinv i s s' (by omega) hs e)
theorem one_neg (n : Nat) : (1 + (n : Int) < 0) = False := by
  simp
  omega
theorem u8_bds {n : Int} (h : (Lit.int .u8 n).wf = true) : 0 ≤ n ∧ n ≤ 255 := by
  simp [Lit.wf, IntKind.min, IntKind.max, IntKind.signed, IntKind.bits] at h
  omega
theorem i64_bds {n : Int} (h : (Lit.int .i64 n).wf = true) : -9223372036854775808 ≤ n ∧ n ≤ 9223372036854775807 := by
  simp [Lit.wf, IntKind.min, IntKind.max, IntKind.signed, IntKind.bits] at h
  omega
theorem tmod_bd (a : Int) {b : Int} (hb : 0 < b) : -b < Int.tmod a b ∧ Int.tmod a b < b := by
  by_cases h : 0 ≤ a
  · rw [Int.tmod_eq_emod_of_nonneg h]
    have := Int.emod_nonneg a (show b ≠ 0 by omega)
    have := Int.emod_lt_of_pos a hb
    omega
  · have e : Int.tmod a b = -(Int.tmod (-a) b) := by rw [Int.neg_tmod]; omega
    rw [e, Int.tmod_eq_emod_of_nonneg (by omega)]
    have := Int.emod_nonneg (-a) (show b ≠ 0 by omega)
    have := Int.emod_lt_of_pos (-a) hb
    omega
def cvL (x : S42) : S45 := ⟨x.f0, x.f1, x.f2, x.f3⟩
def WfL (x : S42) : Prop := ∃ (s : ByteArray) (a b c : Int), x = ⟨s, a, b, c⟩ ∧ s.size ≤ maxLen ∧ (Lit.int .i64 a).wf = true ∧ (Lit.int .i64 b).wf = true ∧ (Lit.int .i64 c).wf = true
def smallL (x : S42) : Prop := x.f0.size ≤ 1048576 ∧ (-9223372036854775808 ≤ x.f1 ∧ x.f1 ≤ 9223372036854775807) ∧ (-9223372036854775808 ≤ x.f2 ∧ x.f2 ≤ 9223372036854775807) ∧ (-9223372036854775808 ≤ x.f3 ∧ x.f3 ≤ 9223372036854775807)
theorem rd42 (l : List S42) (i : Nat) : rd_T42 l (i : Int) = l.getD i z42 := by simp [rd_T42]
theorem rd45 (l : List S45) (i : Nat) : rd_T45 l (i : Int) = l.getD i z45 := by simp [rd_T45]
theorem getD_mem {α : Type} (l : List α) (i : Nat) (d : α) (h : i < l.length) : l.getD i d ∈ l := by
  simp [List.getD_eq_getElem?_getD, List.getElem?_eq_getElem h]
theorem getD_cvL (l : List S42) (i : Nat) : (l.map cvL).getD i z45 = cvL (l.getD i z42) := by
  simp only [List.getD_eq_getElem?_getD, List.getElem?_map]
  cases l[i]? <;> rfl
theorem toL (k : Nat) (l : List S42) (hl : l.length ≤ 1048576) (hk : l.length < k) : laws_toListedS.f k l = some (l.map cvL) := by
  unfold laws_toListedS.f
  rw [if_pos (by omega), if_pos (by omega)]
  have hm : (l.map cvL).length = l.length := by simp
  have h := copy_loop (fun k i s => laws_toListedS.l0 k l s (i : Int)) (l.map cvL) z45 (fun k s hs => ?_) (fun k i s hi hs => ?_) l.length k 0 (List.replicate ((l.length : Int) : Int).toNat z45) (by simp) hk (by simp) (fun j h => by omega)
  · exact h
  · simp only [laws_toListedS.l0]
    rw [if_neg (by omega)]
  · simp only [laws_toListedS.l0, laws_toListed.f, Option.bind_some]
    rw [hm] at hi hs
    rw [if_pos (by omega), if_pos (by omega), if_pos (by omega), wrap_nat hi (by omega), rd42, getD_cvL]
    simp [cvL]
theorem eqL_l0 (l : List S45) (hl : l.length ≤ 1048577) : ∀ (d k i : Nat), i + d = l.length → d < k → laws_eqListedS.l0 k l l (i : Int) = some true := by
  intro d
  induction d with
  | zero =>
    intro k i hi hk
    obtain ⟨k, rfl⟩ : ∃ m, k = m + 1 := ⟨k - 1, by omega⟩
    simp only [laws_eqListedS.l0]
    rw [if_neg (by omega)]
  | succ d ih =>
    intro k i hi hk
    obtain ⟨k, rfl⟩ : ∃ m, k = m + 1 := ⟨k - 1, by omega⟩
    have IH := ih k (i + 1) (by omega) (by omega)
    simp only [laws_eqListedS.l0, laws_eqListed.f]
    rw [if_pos (by omega), if_pos (by omega), if_pos (by omega), wrap_nat (by omega : i < l.length) (by omega), IH]
    simp
theorem eqL (k : Nat) (l : List S45) (hl : l.length ≤ 1048577) (hk : l.length < k) : laws_eqListedS.f k l l = some true := by
  unfold laws_eqListedS.f
  rw [if_pos rfl]
  exact eqL_l0 l hl l.length k 0 (by omega) hk
theorem szL_l0 (l : List S42) (hw : ∀ x ∈ l, WfL x) : ∀ (d k i : Nat) (q : Int), i + d = l.length → l.length ≤ 1048576 → d < k → 0 ≤ q → q ≤ 1048576 → ∃ r, laws_szListedS.l0 k l q (i : Int) = some r ∧ (r < 0 ∨ (0 ≤ r ∧ r ≤ q ∧ ∀ j, i ≤ j → j < l.length → (l.getD j z42).f0.size ≤ 1048576)) := by
  intro d
  induction d with
  | zero =>
    intro k i q hi hn hk q0 q1
    obtain ⟨k, rfl⟩ : ∃ m, k = m + 1 := ⟨k - 1, by omega⟩
    simp only [laws_szListedS.l0]
    rw [if_neg (by omega)]
    exact ⟨q, rfl, Or.inr ⟨q0, Int.le_refl _, fun j h1 h2 => by omega⟩⟩
  | succ d ih =>
    intro k i q hi hn hk q0 q1
    obtain ⟨k, rfl⟩ : ∃ m, k = m + 1 := ⟨k - 1, by omega⟩
    simp only [laws_szListedS.l0, laws_szListed.f]
    have hlt : i < l.length := by omega
    obtain ⟨s, a, b, c, ex, hs, _⟩ := hw _ (getD_mem l i z42 hlt)
    unfold maxLen at hs
    have es : (l.getD i z42).f0.size = s.size := by rw [ex]
    have e2 : wrap64 (q - ((l.getD i z42).f0.size : Int)) = q - (l.getD i z42).f0.size := by unfold wrap64; omega
    rw [if_pos (by omega), if_pos (by omega), rd42, e2]
    by_cases h : q - ((l.getD i z42).f0.size : Int) < 0
    · rw [if_pos h]
      exact ⟨-1, rfl, Or.inl (by decide)⟩
    · rw [if_neg h]
      simp only [Option.bind_some]
      rw [if_neg h, wrap_nat hlt (by omega)]
      obtain ⟨r, er, hr⟩ := ih k (i + 1) (q - (l.getD i z42).f0.size) (by omega) hn (by omega) (by omega) (by omega)
      refine ⟨r, er, ?_⟩
      rcases hr with hr | ⟨r0, r1, hr⟩
      · exact Or.inl hr
      · refine Or.inr ⟨r0, by omega, fun j h1 h2 => ?_⟩
        by_cases hj : j = i
        · subst hj
          omega
        · exact hr j (by omega) h2
/-- What the law's guard lets by: a list of at most 2^20 structs with words of at most 2^20 bytes. -/
theorem szL (k : Nat) (l : List S42) (hl : l.length ≤ 9223372036854775807) (hw : ∀ x ∈ l, WfL x) (q : Int) (q0 : 0 ≤ q) (q1 : q ≤ 1048576) (hk : l.length < k) : ∃ r, laws_szListedS.f k l q = some r ∧ (r < 0 ∨ (0 ≤ r ∧ r ≤ q ∧ l.length ≤ 1048576 ∧ ∀ x ∈ l, smallL x)) := by
  unfold laws_szListedS.f
  have e : wrap64 (q - (l.length : Int)) = q - l.length := by unfold wrap64; omega
  rw [e]
  by_cases h : q - (l.length : Int) < 0
  · rw [if_pos h]
    exact ⟨-1, rfl, Or.inl (by decide)⟩
  · rw [if_neg h]
    obtain ⟨r, er, hr⟩ := szL_l0 l hw l.length k 0 (q - l.length) (by omega) (by omega) hk (by omega) (by omega)
    refine ⟨r, er, ?_⟩
    rcases hr with hr | ⟨r0, r1, hr⟩
    · exact Or.inl hr
    · refine Or.inr ⟨r0, by omega, by omega, fun x hx => ?_⟩
      obtain ⟨s, a, b, c, ex, _, wa, wb, wc⟩ := hw x hx
      obtain ⟨j, hj, ej⟩ := List.getElem_of_mem hx
      have := hr j (by omega) hj
      have eg : l.getD j z42 = x := by simp [List.getD_eq_getElem?_getD, List.getElem?_eq_getElem hj, ej]
      rw [eg] at this
      subst ex
      exact ⟨this, i64_bds wa, i64_bds wb, i64_bds wc⟩
theorem ba_ext {a b : ByteArray} : a.toList = b.toList ↔ a = b := by
  constructor
  · intro h
    rw [ByteArray.toList_eq, ByteArray.toList_eq] at h
    cases a
    cases b
    congr 1
    exact Array.ext' h
  · rintro rfl
    rfl
def idxV (l : List S45) (s : ByteArray) : Int := impl_listedAt.g l s l.length 0
theorem g_rng (l : List S45) (s : ByteArray) : ∀ (d i : Nat), i + d = l.length → impl_listedAt.g l s d (i : Int) = -1 ∨ ((i : Int) ≤ impl_listedAt.g l s d (i : Int) ∧ impl_listedAt.g l s d (i : Int) < (l.length : Int)) := by
  intro d
  induction d with
  | zero => intro i _; exact Or.inl rfl
  | succ d ih =>
    intro i hi
    unfold impl_listedAt.g
    split
    · exact Or.inr ⟨by omega, by omega⟩
    · have := ih (i + 1) (by omega)
      have e : ((i + 1 : Nat) : Int) = (i : Int) + 1 := rfl
      rw [e] at this
      omega
theorem idx_rng (l : List S45) (s : ByteArray) : idxV l s = -1 ∨ (0 ≤ idxV l s ∧ idxV l s < (l.length : Int)) := g_rng l s l.length 0 (by omega)
theorem specFind_l0 (l : List S45) (s : ByteArray) (hl : l.length ≤ 1048577) : ∀ (d k i : Nat), i + d = l.length → d < k → spec_l5Find.l0 k l s (i : Int) = some (impl_listedAt.g l s d (i : Int)) := by
  intro d
  induction d with
  | zero =>
    intro k i hi hk
    obtain ⟨k, rfl⟩ : ∃ m, k = m + 1 := ⟨k - 1, by omega⟩
    simp only [spec_l5Find.l0]
    rw [if_neg (by omega)]
    rfl
  | succ d ih =>
    intro k i hi hk
    obtain ⟨k, rfl⟩ : ∃ m, k = m + 1 := ⟨k - 1, by omega⟩
    have IH := ih k (i + 1) (by omega) (by omega)
    simp only [spec_l5Find.l0]
    rw [if_pos (by omega), if_pos (by omega), wrap_nat (by omega : i < l.length) (by omega), IH]
    rw [show impl_listedAt.g l s (d + 1) (i : Int) = if ((rd_T45 l (i : Int)).f0.toList == s.toList) = true then (i : Int) else impl_listedAt.g l s d (((i + 1 : Nat) : Int)) from rfl]
    by_cases h : (rd_T45 l (i : Int)).f0.toList = s.toList
    · rw [if_pos h, if_pos (by simpa using h)]
    · rw [if_neg h, if_neg (by simpa using h)]
theorem specFind (k : Nat) (l : List S45) (s : ByteArray) (hl : l.length ≤ 1048577) (hk : l.length < k) : spec_l5Find.f k l s = some (idxV l s) := specFind_l0 l s hl l.length k 0 (by omega) hk
theorem implFind (l : List S45) (s : ByteArray) (hl : l.length ≤ 1048577) : impl_listedAt.f l s = some (idxV l s) := by
  unfold impl_listedAt.f
  rw [if_pos (by omega)]
  rfl
theorem l1in (a b c : Int) : spec_l1In.f a b c = some (decide (b ≤ a ∧ a ≤ c)) := by
  unfold spec_l1In.f
  by_cases h : b ≤ a <;> simp [h]
theorem inr (a b c : Int) : impl_InRange.f a b c = some (decide (b ≤ a ∧ a ≤ c)) := by
  unfold impl_InRange.f
  by_cases h : b ≤ a <;> simp [h]
def allF (f : Int → Bool) : Nat → Int → Bool
  | 0, _ => true
  | d + 1, i => f i && allF f d (i + 1)
theorem wrap_up {i n : Int} (h0 : 0 ≤ i) (h : i < n) (hn : n ≤ 140737488351232) : wrap64 (i + 1) = i + 1 := by
  unfold wrap64
  omega
def letB (c : Int) : Bool := decide (97 ≤ c ∧ c ≤ 122)
def isWordB (s : ByteArray) : Bool := decide (1 ≤ s.size ∧ s.size ≤ 8) && allF (fun i => letB (bt s i)) s.size 0
theorem specIsWord_l0 (s : ByteArray) (hn : (s.size : Int) ≤ 140737488351232) : ∀ (d k : Nat) (i : Int), 0 ≤ i → (s.size : Int) - i = d → d < k →
    spec_IsWord.l0 k s i = some (allF (fun i => letB (bt s i)) d i) := by
  intro d
  induction d with
  | zero =>
    intro k i h0 hd hk
    obtain ⟨k, rfl⟩ : ∃ m, k = m + 1 := ⟨k - 1, by omega⟩
    simp only [spec_IsWord.l0]
    rw [if_neg (by omega)]
    rfl
  | succ d ih =>
    intro k i h0 hd hk
    obtain ⟨k, rfl⟩ : ∃ m, k = m + 1 := ⟨k - 1, by omega⟩
    have hlt : i < (s.size : Int) := by omega
    simp only [spec_IsWord.l0]
    rw [if_pos hlt, if_pos h0, wrap_up h0 hlt hn, ih k (i + 1) (by omega) (by omega) (by omega)]
    simp only [allF, letB]
    by_cases h1 : bt s i < 97
    · simp [h1, show ¬ 97 ≤ bt s i by omega]
    · by_cases h2 : bt s i > 122
      · simp [h1, h2, show ¬ bt s i ≤ 122 by omega]
      · simp [h1, h2, show 97 ≤ bt s i by omega, show bt s i ≤ 122 by omega]
theorem specIsWord_eq (s : ByteArray) (hn : s.size ≤ 140737488351232) (k : Nat) (hk : s.size < k) : spec_IsWord.f k s = some (isWordB s) := by
  unfold spec_IsWord.f isWordB
  rw [l1in, specIsWord_l0 s (by omega) s.size k 0 (by omega) (by omega) hk]
  simp only [Option.bind_some]
  by_cases h : 1 ≤ s.size ∧ s.size ≤ 8
  · rw [if_pos (by simp; omega)]
    simp [h]
  · rw [if_neg (by simp; omega)]
    simp [h]
theorem isLetter_eq (c : Int) : impl_isLetter.f c = some (letB c) := by
  unfold impl_isLetter.f letB
  by_cases h : c ≥ 97 <;> simp [h]
theorem implIsWord_l0 (s : ByteArray) (hn : (s.size : Int) ≤ 140737488351232) : ∀ (d k : Nat) (i : Int), 0 ≤ i → (s.size : Int) - i = d → d < k →
    impl_IsWord.l0 k s (s.size : Int) i = some (allF (fun i => letB (bt s i)) d i) := by
  intro d
  induction d with
  | zero =>
    intro k i h0 hd hk
    obtain ⟨k, rfl⟩ : ∃ m, k = m + 1 := ⟨k - 1, by omega⟩
    simp only [impl_IsWord.l0]
    rw [if_neg (by omega)]
    rfl
  | succ d ih =>
    intro k i h0 hd hk
    obtain ⟨k, rfl⟩ : ∃ m, k = m + 1 := ⟨k - 1, by omega⟩
    have hlt : i < (s.size : Int) := by omega
    simp only [impl_IsWord.l0]
    rw [if_pos hlt, if_pos h0, if_pos hlt, wrap_up h0 hlt hn, ih k (i + 1) (by omega) (by omega) (by omega), isLetter_eq]
    simp only [allF, Option.bind_some]
    cases letB (bt s i) <;> simp
theorem implIsWord_eq (s : ByteArray) (hn : s.size ≤ 140737488351232) (k : Nat) (hk : s.size < k) : impl_IsWord.f k s = some (isWordB s) := by
  unfold impl_IsWord.f isWordB
  rw [inr, implIsWord_l0 s (by omega) s.size k 0 (by omega) (by omega) hk]
  simp only [Option.bind_some]
  by_cases h : 1 ≤ s.size ∧ s.size ≤ 8
  · rw [if_pos (by simp; omega)]
    simp [h]
  · rw [if_neg (by simp; omega)]
    simp [h]
def allN (f : Nat → Bool) : Nat → Nat → Bool
  | 0, _ => true
  | d + 1, i => f i && allN f d (i + 1)
def befB (a b : ByteArray) : Bool := if (a.size : Int) = (b.size : Int) then Op.bytesLess a.toList b.toList else decide ((a.size : Int) < (b.size : Int))
def okL (x : S45) : Bool := isWordB x.f0 && decide (0 ≤ x.f1 ∧ x.f1 ≤ x.f2) && decide (x.f2 ≤ 1000) && decide (0 ≤ x.f3 ∧ x.f3 ≤ 99)
def rowOk (l : List S45) (i : Nat) : Bool := okL (l.getD i z45) && (decide (i = 0) || befB (l.getD (i - 1) z45).f0 (l.getD i z45).f0)
def isListB (l : List S45) : Bool := allN (rowOk l) l.length 0 && decide (l.length ≤ 40)
theorem befS (a b : ByteArray) : spec_BeforeWord.f a b = some (befB a b) := by
  unfold spec_BeforeWord.f befB
  split <;> rfl
theorem befI (a b : ByteArray) : impl_BeforeWord.f a b = some (befB a b) := by
  unfold impl_BeforeWord.f befB
  split <;> rfl
theorem wrap_dn {i : Nat} (h : 0 < i) (hn : i ≤ 140737488351232) : wrap64 ((i : Int) - 1) = ((i - 1 : Nat) : Int) := by
  unfold wrap64
  omega
theorem specIsList_l0 (l : List S45) (hl : l.length ≤ 1048577) (hw : ∀ x ∈ l, x.f0.size ≤ 1048576) : ∀ (d k i : Nat), i + d = l.length → d + 1048578 < k → spec_IsList.l0 k l (i : Int) = some (allN (rowOk l) d i && decide (l.length ≤ 40)) := by
  intro d
  induction d with
  | zero =>
    intro k i hi hk
    obtain ⟨k, rfl⟩ : ∃ m, k = m + 1 := ⟨k - 1, by omega⟩
    simp only [spec_IsList.l0]
    rw [if_neg (by omega)]
    simp only [allN, Bool.true_and, Option.some.injEq]
    by_cases h : l.length ≤ 40
    · simp [h]; omega
    · simp [h]; omega
  | succ d ih =>
    intro k i hi hk
    obtain ⟨k, rfl⟩ : ∃ m, k = m + 1 := ⟨k - 1, by omega⟩
    have hlt : i < l.length := by omega
    have IH := ih k (i + 1) (by omega) (by omega)
    have hx := hw _ (getD_mem l i z45 hlt)
    simp only [spec_IsList.l0, befS, l1in]
    rw [if_pos (by omega), if_pos (by omega), rd45, specIsWord_eq _ (by omega) k (by omega), wrap_nat hlt (by omega), IH]
    simp only [Option.bind_some, allN, rowOk, okL]
    generalize hxx : l.getD i z45 = x
    generalize allN (rowOk l) d (i + 1) = t
    cases isWordB x.f0
    · simp
    by_cases h1 : x.f1 < 0
    · simp [h1, show ¬ 0 ≤ x.f1 by omega]
    by_cases h2 : x.f1 > x.f2
    · simp [h1, h2, show ¬ x.f1 ≤ x.f2 by omega]
    by_cases h3 : x.f2 > 1000
    · simp [h1, h2, h3, show ¬ x.f2 ≤ 1000 by omega]
    by_cases h4 : 0 ≤ x.f3 ∧ x.f3 ≤ 99
    · by_cases hi0 : i = 0
      · subst hi0
        simp [h1, h2, h3, h4, show x.f2 ≤ 1000 by omega, show 0 ≤ x.f1 by omega, show x.f1 ≤ x.f2 by omega]
      · have hp : 0 < i := by omega
        rw [wrap_dn hp (by omega), rd45]
        generalize befB (l.getD (i - 1) z45).f0 x.f0 = b
        have e1 : ((i - 1 : Nat) : Int) < (l.length : Int) := by omega
        have e2 : (0 : Int) ≤ ((i - 1 : Nat) : Int) := by omega
        have e3 : (i : Int) > 0 := by omega
        rw [if_pos rfl, if_neg h1, if_neg h2, if_neg h3]
        simp only [h4, and_self, decide_true, if_true, e1, e2, e3]
        cases b <;> simp [hi0, show x.f2 ≤ 1000 by omega, show 0 ≤ x.f1 by omega, show x.f1 ≤ x.f2 by omega]
    · simp [h1, h2, h3, h4]
theorem specIsList (k : Nat) (l : List S45) (hl : l.length ≤ 1048577) (hw : ∀ x ∈ l, x.f0.size ≤ 1048576) (hk : l.length + 1048578 < k) : spec_IsList.f k l = some (isListB l) := by
  unfold spec_IsList.f isListB
  exact specIsList_l0 l hl hw l.length k 0 (by omega) hk
theorem implIsList_l0 (l : List S45) (hl : l.length ≤ 1048577) (hw : ∀ x ∈ l, x.f0.size ≤ 1048576) : ∀ (d k i : Nat), i + d = l.length → d + 1048578 < k → impl_IsList.l0 k l l (l.length : Int) (i : Int) = some (allN (rowOk l) d i) := by
  intro d
  induction d with
  | zero =>
    intro k i hi hk
    obtain ⟨k, rfl⟩ : ∃ m, k = m + 1 := ⟨k - 1, by omega⟩
    simp only [impl_IsList.l0]
    rw [if_neg (by omega)]
    rfl
  | succ d ih =>
    intro k i hi hk
    obtain ⟨k, rfl⟩ : ∃ m, k = m + 1 := ⟨k - 1, by omega⟩
    have hlt : i < l.length := by omega
    have IH := ih k (i + 1) (by omega) (by omega)
    have hx := hw _ (getD_mem l i z45 hlt)
    simp only [impl_IsList.l0, befI, inr]
    rw [if_pos (by omega), if_pos (by omega), if_pos (by omega), rd45, implIsWord_eq _ (by omega) k (by omega), wrap_nat hlt (by omega), IH]
    simp only [Option.bind_some, allN, rowOk, okL]
    generalize hxx : l.getD i z45 = x
    generalize allN (rowOk l) d (i + 1) = t
    by_cases hi0 : i = 0
    · subst hi0
      rw [if_neg (by omega)]
      cases isWordB x.f0
      · simp
      by_cases h1 : 0 ≤ x.f1 ∧ x.f1 ≤ x.f2
      · by_cases h3 : x.f2 > 1000
        · simp [h1, h3, show ¬ x.f2 ≤ 1000 by omega]
        · by_cases h4 : 0 ≤ x.f3 ∧ x.f3 ≤ 99
          · simp [h1, h3, h4, show x.f2 ≤ 1000 by omega]
          · simp [h1, h3, h4]
      · simp [h1]
    · have hp : 0 < i := by omega
      rw [if_pos (by omega), wrap_dn hp (by omega), rd45, if_pos (by omega), if_pos (by omega)]
      generalize befB (l.getD (i - 1) z45).f0 x.f0 = b
      cases b
      · simp [hi0]
      cases isWordB x.f0
      · simp
      by_cases h1 : 0 ≤ x.f1 ∧ x.f1 ≤ x.f2
      · by_cases h3 : x.f2 > 1000
        · simp [h1, h3, show ¬ x.f2 ≤ 1000 by omega]
        · by_cases h4 : 0 ≤ x.f3 ∧ x.f3 ≤ 99
          · simp [h1, h3, h4, show x.f2 ≤ 1000 by omega]
          · simp [h1, h3, h4]
      · simp [h1]
theorem implIsList (k : Nat) (l : List S45) (hl : l.length ≤ 1048577) (hw : ∀ x ∈ l, x.f0.size ≤ 1048576) (hk : l.length + 1048578 < k) : impl_IsList.f k l = some (isListB l) := by
  unfold impl_IsList.f isListB
  by_cases h : (l.length : Int) > 40
  · rw [if_pos h]
    simp [show ¬ l.length ≤ 40 by omega]
  · have e : impl_IsList.l0 k l l (l.length : Int) 0 = some (allN (rowOk l) l.length 0) := implIsList_l0 l hl hw l.length k 0 (by omega) hk
    rw [if_neg h, e]
    simp [show l.length ≤ 40 by omega]
def scV (l : List S45) (ws : List ByteArray) : Nat → Nat → Int → Int
  | 0, _, acc => acc
  | d + 1, j, acc => scV l ws d (j + 1) (if idxV l (ws.getD j ByteArray.empty) ≥ 0 then wrap64 (acc + (rd_T45 l (idxV l (ws.getD j ByteArray.empty))).f3) else acc)
def scoreV (l : List S45) (ws : List ByteArray) : Int := if isListB l = true then scV l ws ws.length 0 0 else 0
theorem specScore_l0 (l : List S45) (ws : List ByteArray) (hl : l.length ≤ 1048577) (hws : ws.length ≤ 1048577) (hw : ∀ x ∈ l, x.f0.size ≤ 1048576) (hB : isListB l = true) : ∀ (d k i : Nat) (acc : Int), i + d = ws.length → 2 * d + l.length + 1048590 < k →
    spec_ScoreOf.l0 k l ws acc (i : Int) = some (scV l ws d i acc) := by
  intro d
  induction d with
  | zero =>
    intro k i acc hi hk
    obtain ⟨k, rfl⟩ : ∃ m, k = m + 1 + 1 := ⟨k - 2, by omega⟩
    obtain ⟨K, hK⟩ : ∃ K, K = k + 1 := ⟨_, rfl⟩
    rw [← hK]
    simp only [spec_ScoreOf.l0]
    rw [if_neg (by omega), hK]
    simp only [spec_ScoreOf.j1, Bool.false_eq_true, if_false]
    rfl
  | succ d ih =>
    intro k i acc hi hk
    obtain ⟨k, rfl⟩ : ∃ m, k = m + 1 + 1 := ⟨k - 2, by omega⟩
    obtain ⟨K, hK⟩ : ∃ K, K = k + 1 := ⟨_, rfl⟩
    have hlt : i < ws.length := by omega
    have er : rdOf ByteArray.empty ws (i : Int) = ws.getD i ByteArray.empty := by simp [rdOf]
    rw [← hK]
    simp only [spec_ScoreOf.l0]
    rw [if_pos (by omega), specIsList K l hl hw (by omega), hB, hK]
    simp only [Option.bind_some, spec_ScoreOf.j1, if_true]
    rw [if_pos (by omega), if_pos (by omega), er, specFind k l _ hl (by omega), wrap_nat hlt (by omega)]
    simp only [Option.bind_some, scV]
    have hr := idx_rng l (ws.getD i ByteArray.empty)
    by_cases h : idxV l (ws.getD i ByteArray.empty) ≥ 0
    · rw [if_pos h, if_pos h, if_pos (by omega), ih k (i + 1) _ (by omega) (by omega), if_pos h]
    · rw [if_neg h, ih k (i + 1) _ (by omega) (by omega), if_neg h]
theorem specScore (k : Nat) (l : List S45) (ws : List ByteArray) (hl : l.length ≤ 1048577) (hws : ws.length ≤ 1048577) (hw : ∀ x ∈ l, x.f0.size ≤ 1048576) (hk : 2 * ws.length + l.length + 1048600 < k) : spec_ScoreOf.f k l ws = some (scoreV l ws) := by
  unfold spec_ScoreOf.f scoreV
  by_cases hB : isListB l = true
  · rw [if_pos hB]
    exact specScore_l0 l ws hl hws hw hB ws.length k 0 0 (by omega) (by omega)
  · rw [if_neg hB]
    obtain ⟨k, rfl⟩ : ∃ m, k = m + 1 + 1 := ⟨k - 2, by omega⟩
    obtain ⟨K, hK⟩ : ∃ K, K = k + 1 := ⟨_, rfl⟩
    rw [← hK]
    simp only [spec_ScoreOf.l0]
    rw [specIsList K l hl hw (by omega), hK]
    simp only [Option.bind_some, spec_ScoreOf.j1]
    simp [hB]
theorem implScore_l0 (l : List S45) (ws : List ByteArray) (hl : l.length ≤ 1048577) (hws : ws.length ≤ 1048577) : ∀ (d k i : Nat) (acc : Int), i + d = ws.length → d < k →
    impl_ScoreOf.l0 k l acc ws (ws.length : Int) (i : Int) = some (scV l ws d i acc) := by
  intro d
  induction d with
  | zero =>
    intro k i acc hi hk
    obtain ⟨k, rfl⟩ : ∃ m, k = m + 1 := ⟨k - 1, by omega⟩
    simp only [impl_ScoreOf.l0]
    rw [if_neg (by omega)]
    rfl
  | succ d ih =>
    intro k i acc hi hk
    obtain ⟨k, rfl⟩ : ∃ m, k = m + 1 := ⟨k - 1, by omega⟩
    have hlt : i < ws.length := by omega
    have er : rdOf ByteArray.empty ws (i : Int) = ws.getD i ByteArray.empty := by simp [rdOf]
    simp only [impl_ScoreOf.l0]
    rw [if_pos (by omega), if_pos (by omega), if_pos (by omega), er, implFind l _ hl, wrap_nat hlt (by omega)]
    simp only [Option.bind_some, scV]
    have hr := idx_rng l (ws.getD i ByteArray.empty)
    by_cases h : idxV l (ws.getD i ByteArray.empty) ≥ 0
    · rw [if_pos h, if_pos h, if_pos (by omega), ih k (i + 1) _ (by omega) (by omega), if_pos h]
    · rw [if_neg h, ih k (i + 1) _ (by omega) (by omega), if_neg h]
theorem implScore (k : Nat) (l : List S45) (ws : List ByteArray) (hl : l.length ≤ 1048577) (hws : ws.length ≤ 1048577) (hw : ∀ x ∈ l, x.f0.size ≤ 1048576) (hk : 2 * ws.length + l.length + 1048600 < k) : impl_ScoreOf.f k l ws = some (scoreV l ws) := by
  unfold impl_ScoreOf.f scoreV
  rw [implIsList k l hl hw (by omega)]
  simp only [Option.bind_some]
  by_cases hB : isListB l = true
  · rw [if_pos hB, if_pos hB]
    exact implScore_l0 l ws hl hws ws.length k 0 0 (by omega) (by omega)
  · rw [if_neg hB, if_neg hB]
theorem szStr (l : List ByteArray) (hw : ∀ s ∈ l, s.size ≤ maxLen) : ∀ (d k i : Nat) (q : Int), i + d = l.length → l.length ≤ 1048576 → d < k → 0 ≤ q → q ≤ 1048576 → ∃ r, laws_szStringS.l0 k l q (i : Int) = some r ∧ (r < 0 ∨ (0 ≤ r ∧ ∀ j, i ≤ j → j < l.length → (l.getD j ByteArray.empty).size ≤ 1048576)) := by
  intro d
  induction d with
  | zero =>
    intro k i q hi hn hk q0 q1
    obtain ⟨k, rfl⟩ : ∃ m, k = m + 1 := ⟨k - 1, by omega⟩
    simp only [laws_szStringS.l0]
    rw [if_neg (by omega)]
    exact ⟨q, rfl, Or.inr ⟨q0, fun j h1 h2 => by omega⟩⟩
  | succ d ih =>
    intro k i q hi hn hk q0 q1
    obtain ⟨k, rfl⟩ : ∃ m, k = m + 1 := ⟨k - 1, by omega⟩
    simp only [laws_szStringS.l0]
    have hlt : i < l.length := by omega
    have e : rdOf ByteArray.empty l (i : Int) = l[i] := by simp [rdOf, List.getD_eq_getElem?_getD, List.getElem?_eq_getElem hlt]
    have hs := hw l[i] (List.getElem_mem _)
    unfold maxLen at hs
    have e2 : wrap64 (q - (l[i].size : Int)) = q - l[i].size := by unfold wrap64; omega
    rw [if_pos (by omega), if_pos (by omega), e, e2]
    by_cases h : q - (l[i].size : Int) < 0
    · rw [if_pos h]
      exact ⟨-1, rfl, Or.inl (by decide)⟩
    · rw [if_neg h, wrap_nat hlt (by omega)]
      obtain ⟨r, er, hr⟩ := ih k (i + 1) (q - l[i].size) (by omega) hn (by omega) (by omega) (by omega)
      refine ⟨r, er, ?_⟩
      rcases hr with hr | ⟨r0, hr⟩
      · exact Or.inl hr
      · refine Or.inr ⟨r0, fun j h1 h2 => ?_⟩
        by_cases hj : j = i
        · subst hj
          simp only [List.getD_eq_getElem?_getD, List.getElem?_eq_getElem hlt, Option.getD_some]
          omega
        · exact hr j (by omega) h2
/-- What the law's guard lets by: a list of at most 2^20 strings of at most 2^20 bytes. -/
theorem szStrs (k : Nat) (l : List ByteArray) (hl : l.length ≤ 9223372036854775807) (hw : ∀ s ∈ l, s.size ≤ maxLen) (q : Int) (q0 : 0 ≤ q) (q1 : q ≤ 1048576) (hk : l.length < k) : ∃ r, laws_szStringS.f k l q = some r ∧ (r < 0 ∨ (0 ≤ r ∧ r ≤ q ∧ l.length ≤ 1048576 ∧ ∀ s ∈ l, s.size ≤ 1048576)) := by
  unfold laws_szStringS.f
  have e : wrap64 (q - (l.length : Int)) = q - l.length := by unfold wrap64; omega
  rw [e]
  by_cases h : q - (l.length : Int) < 0
  · rw [if_pos h]
    exact ⟨-1, rfl, Or.inl (by decide)⟩
  · rw [if_neg h]
    obtain ⟨r, er, hr⟩ := szStr l hw l.length k 0 (q - l.length) (by omega) (by omega) hk (by omega) (by omega)
    have mono : ∀ (d k i : Nat) (q : Int), i + d = l.length → l.length ≤ 1048576 → d < k → 0 ≤ q → q ≤ 1048576 → ∀ r, laws_szStringS.l0 k l q (i : Int) = some r → r ≤ q := by
      intro d
      induction d with
      | zero =>
        intro k i q hi hn hk q0 q1 r hr
        obtain ⟨k, rfl⟩ : ∃ m, k = m + 1 := ⟨k - 1, by omega⟩
        simp only [laws_szStringS.l0] at hr
        rw [if_neg (by omega)] at hr
        simp at hr
        omega
      | succ d ih =>
        intro k i q hi hn hk q0 q1 r hr
        obtain ⟨k, rfl⟩ : ∃ m, k = m + 1 := ⟨k - 1, by omega⟩
        have hlt : i < l.length := by omega
        have e : rdOf ByteArray.empty l (i : Int) = l[i] := by simp [rdOf, List.getD_eq_getElem?_getD, List.getElem?_eq_getElem hlt]
        have hs := hw l[i] (List.getElem_mem _)
        unfold maxLen at hs
        have e2 : wrap64 (q - (l[i].size : Int)) = q - l[i].size := by unfold wrap64; omega
        simp only [laws_szStringS.l0] at hr
        rw [if_pos (by omega), if_pos (by omega), e, e2] at hr
        by_cases h : q - (l[i].size : Int) < 0
        · rw [if_pos h] at hr
          simp at hr
          omega
        · rw [if_neg h, wrap_nat hlt (by omega)] at hr
          have := ih k (i + 1) (q - l[i].size) (by omega) hn (by omega) (by omega) (by omega) r hr
          omega
    have m := mono l.length k 0 (q - l.length) (by omega) (by omega) hk (by omega) (by omega) r er
    refine ⟨r, er, ?_⟩
    rcases hr with hr | ⟨r0, hr⟩
    · exact Or.inl hr
    · refine Or.inr ⟨r0, by omega, by omega, fun s hs => ?_⟩
      obtain ⟨j, hj, rfl⟩ := List.getElem_of_mem hs
      have := hr j (by omega) hj
      simpa [List.getD_eq_getElem?_getD, List.getElem?_eq_getElem hj] using this
theorem toStr (k : Nat) (l : List ByteArray) (hl : l.length ≤ 1000000000000) (hk : l.length < k) : laws_toStringS.f k l = some l := by
  unfold laws_toStringS.f
  rw [if_pos (by omega), if_pos (by omega)]
  refine copy_loop (fun k i s => laws_toStringS.l0 k l s (i : Int)) l ByteArray.empty (fun k s hs => ?_) (fun k i s hi hs => ?_) l.length k 0 _ (by omega) hk (by simp) (fun j h => by omega)
  · simp only [laws_toStringS.l0]
    rw [if_neg (by omega)]
  · simp only [laws_toStringS.l0]
    rw [if_pos (by omega), if_pos (by omega), if_pos (by omega), wrap_nat hi (by omega)]
    simp [rdOf]
theorem eqStr (k : Nat) (a b : List ByteArray) (ha : a.length ≤ 1000000000000) (hk : a.length < k) : laws_eqStringS.f k a b = some (decide (a = b)) := by
  unfold laws_eqStringS.f
  by_cases hl : a.length = b.length
  · rw [if_pos (by omega)]
    have h := eq_loop (fun k i => laws_eqStringS.l0 k a b (i : Int)) a b ByteArray.empty hl (fun k => ?_) (fun k i hi => ?_) a.length k 0 (by omega) hk
    · simpa using h
    · simp only [laws_eqStringS.l0]
      rw [if_neg (by omega)]
    · simp only [laws_eqStringS.l0]
      rw [if_pos (by omega), if_pos (by omega), if_pos (by omega), wrap_nat hi (by omega)]
      simp only [ba_ext, rdOf, Int.toNat_natCast]
  · rw [if_neg (by omega)]
    have : ¬ a = b := fun e => hl (by rw [e])
    simp [this]
theorem FnExactScoreOf (l : List S42) (hl : l.length ≤ 9223372036854775807) (hw : ∀ x ∈ l, WfL x) (ws : List ByteArray) (hl2 : ws.length ≤ 9223372036854775807) (hw2 : ∀ s ∈ ws, s.size ≤ maxLen) : ∃ k, laws_FnExactScoreOf.f k l ws = some true := by
  obtain ⟨K, hK⟩ : ∃ K, K = 2 * ws.length + l.length + 1048700 := ⟨_, rfl⟩
  refine ⟨K, ?_⟩
  unfold laws_FnExactScoreOf.f
  obtain ⟨r, er, hr⟩ := szL K l hl hw 1048576 (by decide) (by decide) (by omega)
  rw [er]
  simp only [Option.bind_some]
  by_cases hneg : r < 0
  · rw [if_pos hneg]
  rw [if_neg hneg]
  rcases hr with hr | ⟨r0, r1, hn, hs⟩
  · exact absurd hr hneg
  obtain ⟨q, eq, hq⟩ := szStrs K ws hl2 hw2 r r0 r1 (by omega)
  rw [eq]
  simp only [Option.bind_some]
  by_cases hneg2 : q < 0
  · rw [if_pos hneg2]
  rw [if_neg hneg2]
  rcases hq with hq | ⟨_, _, hn2, _⟩
  · exact absurd hq hneg2
  have hm : (l.map cvL).length = l.length := by simp
  have hs' : ∀ x ∈ l.map cvL, x.f0.size ≤ 1048576 := by
    intro x hx
    obtain ⟨y, hy, rfl⟩ := List.mem_map.1 hx
    exact (hs y hy).1
  rw [toL K l hn (by omega), toStr K ws (by omega) (by omega)]
  simp only [Option.bind_some]
  rw [specScore K _ ws (by omega) (by omega) hs' (by omega), implScore K _ ws (by omega) (by omega) hs' (by omega)]
  simp only [Option.bind_some]
  rw [if_pos trivial, eqL K _ (by omega) (by omega)]
  simp only [Option.bind_some, if_true]
  rw [eqStr K _ _ (by omega) (by omega)]
  simp
end Go.Proofs.Ytcagamenognlpaa.Pure
