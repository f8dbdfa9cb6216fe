/- The law FnExactHasWord answers true for every slice of strings and string. No condition. -/
import Derived.Test.YtoblbpgipkmljaaPFnExactHasWordx1
namespace Go.Proofs.Ytoblbpgipkmljaa.Pure
open Go.RowKit Go.Proofs.Ytoblbpgipkmljaa.PFnExactHasWord Go.Proofs.YtoblbpgipkmljaaW.PrintWords Go.Proofs.YtoblbpgipkmljaaW.PrintLast Go.Proofs.YtoblbpgipkmljaaW.PrintMore
set_option linter.unusedVariables false
set_option linter.unusedSimpArgs false
theorem wrap_nat {m n : Nat} (h : m < n) (hn : n ≤ 140737488351232) : wrap64 ((m : Int) + 1) = ((m + 1 : Nat) : Int) := by
  unfold wrap64
  omega
theorem getD_set_self {α : Type} (l : List α) (i j : Nat) (v d : α) : (l.set i v).getD j d = if i = j ∧ i < l.length then v else l.getD j d := by
  simp only [List.getD_eq_getElem?_getD, List.getElem?_set]
  by_cases h : i = j
  · subst h
    by_cases h2 : i < l.length
    · simp [h2]
    · simp [h2]
  · simp [h]
theorem ext_getD {α : Type} (a b : List α) (d : α) (hl : a.length = b.length) (h : ∀ j, j < b.length → a.getD j d = b.getD j d) : a = b := by
  refine List.ext_getElem hl fun j h1 h2 => ?_
  have := h j h2
  simpa [List.getD_eq_getElem?_getD, List.getElem?_eq_getElem h1, List.getElem?_eq_getElem h2] using this
theorem copy_loop {α : Type} (F : Nat → Nat → List α → Option (List α)) (x0 : List α) (dv : α)
    (hend : ∀ k s, s.length = x0.length → F (k + 1) x0.length s = some s)
    (hstep : ∀ k i s, i < x0.length → s.length = x0.length → F (k + 1) i s = F k (i + 1) (s.set i (x0.getD i dv))) :
    ∀ (d k i : Nat) (s : List α), i + d = x0.length → d < k → s.length = x0.length → (∀ j, j < i → s.getD j dv = x0.getD j dv) → F k i s = some x0 := by
  intro d
  induction d with
  | zero =>
    intro k i s hi hk hs hj
    obtain ⟨k, rfl⟩ : ∃ m, k = m + 1 := ⟨k - 1, by omega⟩
    obtain rfl : i = x0.length := by omega
    rw [hend k s hs, ext_getD s x0 dv hs hj]
  | succ d ih =>
    intro k i s hi hk hs hj
    obtain ⟨k, rfl⟩ : ∃ m, k = m + 1 := ⟨k - 1, by omega⟩
    rw [hstep k i s (by omega) hs]
    refine ih k (i + 1) _ (by omega) (by omega) (by simpa using hs) fun j h => ?_
    rw [getD_set_self]
    by_cases e : i = j
    · subst e
      rw [if_pos ⟨rfl, by omega⟩]
    · rw [if_neg (fun h => e h.1)]
      exact hj j (by omega)
theorem eq_loop {α : Type} [DecidableEq α] (F : Nat → Nat → Option Bool) (x0 x1 : List α) (dv : α) (hl : x0.length = x1.length)
    (hend : ∀ k, F (k + 1) x0.length = some true)
    (hstep : ∀ k i, i < x0.length → F (k + 1) i = if x0.getD i dv = x1.getD i dv then F k (i + 1) else some false) :
    ∀ (d k i : Nat), i + d = x0.length → d < k → F k i = some (decide (x0.drop i = x1.drop i)) := by
  intro d
  induction d with
  | zero =>
    intro k i hi hk
    obtain ⟨k, rfl⟩ : ∃ m, k = m + 1 := ⟨k - 1, by omega⟩
    obtain rfl : i = x0.length := by omega
    rw [hend]
    simp [hl]
  | succ d ih =>
    intro k i hi hk
    obtain ⟨k, rfl⟩ : ∃ m, k = m + 1 := ⟨k - 1, by omega⟩
    have h0 : i < x0.length := by omega
    have h1 : i < x1.length := by omega
    rw [hstep k i h0, ih k (i + 1) (by omega) (by omega), List.drop_eq_getElem_cons h0, List.drop_eq_getElem_cons h1]
    simp only [List.getD_eq_getElem?_getD, List.getElem?_eq_getElem h0, List.getElem?_eq_getElem h1, Option.getD_some, List.cons.injEq]
    by_cases e : x0[i] = x1[i] <;> simp [e]
theorem mark_loop {α : Type} (F : Nat → Nat → List α → Option (Int × List α)) (n : Nat) (val : Nat → α)
    (hend : ∀ k s, s.length = n → F (k + 1) n s = some (1 + (n : Int), s))
    (hstep : ∀ k i s, i < n → s.length = n → F (k + 1) i s = F k (i + 1) (s.set i (val i))) (dv : α) :
    ∀ (d k i : Nat) (s : List α), i + d = n → d < k → s.length = n → (∀ j, j < i → s.getD j dv = val j) → F k i s = some (1 + (n : Int), (List.range n).map val) := by
  intro d
  induction d with
  | zero =>
    intro k i s hi hk hs hj
    obtain ⟨k, rfl⟩ : ∃ m, k = m + 1 := ⟨k - 1, by omega⟩
    obtain rfl : i = n := by omega
    rw [hend k s hs]
    have e : s = (List.range i).map val := ext_getD s _ dv (by simpa using hs) fun j h => by
      have h' : j < i := by simpa using h
      rw [hj j h']
      simp [List.getD_eq_getElem?_getD, h']
    rw [← e]
  | succ d ih =>
    intro k i s hi hk hs hj
    obtain ⟨k, rfl⟩ : ∃ m, k = m + 1 := ⟨k - 1, by omega⟩
    rw [hstep k i s (by omega) hs]
    refine ih k (i + 1) _ (by omega) (by omega) (by simpa using hs) fun j h => ?_
    rw [getD_set_self]
    by_cases e : i = j
    · subst e
      rw [if_pos ⟨rfl, by omega⟩]
    · rw [if_neg (fun h => e h.1)]
      exact hj j (by omega)
theorem held_loop (F : Nat → Nat → Option Int) (n : Nat)
    (hend : ∀ k, F (k + 1) n = some (1 + (n : Int)))
    (hstep : ∀ k i, i < n → F (k + 1) i = F k (i + 1)) :
    ∀ (d k i : Nat), i + d = n → d < k → F k i = some (1 + (n : Int)) := by
  intro d
  induction d with
  | zero =>
    intro k i hi hk
    obtain ⟨k, rfl⟩ : ∃ m, k = m + 1 := ⟨k - 1, by omega⟩
    obtain rfl : i = n := by omega
    exact hend k
  | succ d ih =>
    intro k i hi hk
    obtain ⟨k, rfl⟩ : ∃ m, k = m + 1 := ⟨k - 1, by omega⟩
    rw [hstep k i (by omega)]
    exact ih k (i + 1) (by omega) (by omega)
/-- A loop that counts up, told by its step. -/
def runL {σ ρ : Type} (step : Nat → σ → ρ ⊕ σ) (fin : σ → ρ) : Nat → Nat → σ → ρ
  | 0, _, s => fin s
  | d + 1, i, s => match step i s with
    | .inl r => r
    | .inr s' => runL step fin d (i + 1) s'
theorem loop_run {σ ρ : Type} (F : Nat → Nat → σ → Option ρ) (n : Nat) (step : Nat → σ → ρ ⊕ σ) (fin : σ → ρ) (Inv : Nat → σ → Prop)
    (hend : ∀ k s, Inv n s → F (k + 1) n s = some (fin s))
    (hstep : ∀ k i s, i < n → Inv i s → F (k + 1) i s = match step i s with
      | .inl r => some r
      | .inr s' => F k (i + 1) s')
    (hinv : ∀ i s s', i < n → Inv i s → step i s = .inr s' → Inv (i + 1) s') :
    ∀ (d k i : Nat) (s : σ), i + d = n → d < k → Inv i s → F k i s = some (runL step fin d i s) := by
  intro d
  induction d with
  | zero =>
    intro k i s hi hk hs
    obtain ⟨k, rfl⟩ : ∃ m, k = m + 1 := ⟨k - 1, by omega⟩
    obtain rfl : i = n := by omega
    exact hend k s hs
  | succ d ih =>
    intro k i s hi hk hs
    obtain ⟨k, rfl⟩ : ∃ m, k = m + 1 := ⟨k - 1, by omega⟩
    rw [hstep k i s (by omega) hs]
    unfold runL
    cases e : step i s with
    | inl r => rfl
    | inr s' => exact ih k (i + 1) s' (by omega) (by omega) (hinv i s s' (by omega) hs e)
theorem one_neg (n : Nat) : (1 + (n : Int) < 0) = False := by
  simp
  omega
theorem u8_bds {n : Int} (h : (Lit.int .u8 n).wf = true) : 0 ≤ n ∧ n ≤ 255 := by
  simp [Lit.wf, IntKind.min, IntKind.max, IntKind.signed, IntKind.bits] at h
  omega
theorem i64_bds {n : Int} (h : (Lit.int .i64 n).wf = true) : -9223372036854775808 ≤ n ∧ n ≤ 9223372036854775807 := by
  simp [Lit.wf, IntKind.min, IntKind.max, IntKind.signed, IntKind.bits] at h
  omega
theorem tmod_bd (a : Int) {b : Int} (hb : 0 < b) : -b < Int.tmod a b ∧ Int.tmod a b < b := by
  by_cases h : 0 ≤ a
  · rw [Int.tmod_eq_emod_of_nonneg h]
    have := Int.emod_nonneg a (show b ≠ 0 by omega)
    have := Int.emod_lt_of_pos a hb
    omega
  · have e : Int.tmod a b = -(Int.tmod (-a) b) := by rw [Int.neg_tmod]; omega
    rw [e, Int.tmod_eq_emod_of_nonneg (by omega)]
    have := Int.emod_nonneg (-a) (show b ≠ 0 by omega)
    have := Int.emod_lt_of_pos (-a) hb
    omega
theorem szStr (l : List ByteArray) (hw : ∀ s ∈ l, s.size ≤ maxLen) : ∀ (d k i : Nat) (q : Int), i + d = l.length → l.length ≤ 1048576 → d < k → 0 ≤ q → q ≤ 1048576 → ∃ r, laws_szStringS.l0 k l q (i : Int) = some r ∧ (r < 0 ∨ (0 ≤ r ∧ ∀ j, i ≤ j → j < l.length → (l.getD j ByteArray.empty).size ≤ 1048576)) := by
  intro d
  induction d with
  | zero =>
    intro k i q hi hn hk q0 q1
    obtain ⟨k, rfl⟩ : ∃ m, k = m + 1 := ⟨k - 1, by omega⟩
    simp only [laws_szStringS.l0]
    rw [if_neg (by omega)]
    exact ⟨q, rfl, Or.inr ⟨q0, fun j h1 h2 => by omega⟩⟩
  | succ d ih =>
    intro k i q hi hn hk q0 q1
    obtain ⟨k, rfl⟩ : ∃ m, k = m + 1 := ⟨k - 1, by omega⟩
    simp only [laws_szStringS.l0]
    have hlt : i < l.length := by omega
    have e : rdOf ByteArray.empty l (i : Int) = l[i] := by simp [rdOf, List.getD_eq_getElem?_getD, List.getElem?_eq_getElem hlt]
    have hs := hw l[i] (List.getElem_mem _)
    unfold maxLen at hs
    have e2 : wrap64 (q - (l[i].size : Int)) = q - l[i].size := by unfold wrap64; omega
    rw [if_pos (by omega), if_pos (by omega), e, e2]
    by_cases h : q - (l[i].size : Int) < 0
    · rw [if_pos h]
      exact ⟨-1, rfl, Or.inl (by decide)⟩
    · rw [if_neg h, wrap_nat hlt (by omega)]
      obtain ⟨r, er, hr⟩ := ih k (i + 1) (q - l[i].size) (by omega) hn (by omega) (by omega) (by omega)
      refine ⟨r, er, ?_⟩
      rcases hr with hr | ⟨r0, hr⟩
      · exact Or.inl hr
      · refine Or.inr ⟨r0, fun j h1 h2 => ?_⟩
        by_cases hj : j = i
        · subst hj
          simp only [List.getD_eq_getElem?_getD, List.getElem?_eq_getElem hlt, Option.getD_some]
          omega
        · exact hr j (by omega) h2
/-- What the law's guard lets by: a list of at most 2^20 strings of at most 2^20 bytes. -/
theorem szStrs (k : Nat) (l : List ByteArray) (hl : l.length ≤ 9223372036854775807) (hw : ∀ s ∈ l, s.size ≤ maxLen) (q : Int) (q0 : 0 ≤ q) (q1 : q ≤ 1048576) (hk : l.length < k) : ∃ r, laws_szStringS.f k l q = some r ∧ (r < 0 ∨ (0 ≤ r ∧ r ≤ q ∧ l.length ≤ 1048576 ∧ ∀ s ∈ l, s.size ≤ 1048576)) := by
  unfold laws_szStringS.f
  have e : wrap64 (q - (l.length : Int)) = q - l.length := by unfold wrap64; omega
  rw [e]
  by_cases h : q - (l.length : Int) < 0
  · rw [if_pos h]
    exact ⟨-1, rfl, Or.inl (by decide)⟩
  · rw [if_neg h]
    obtain ⟨r, er, hr⟩ := szStr l hw l.length k 0 (q - l.length) (by omega) (by omega) hk (by omega) (by omega)
    have mono : ∀ (d k i : Nat) (q : Int), i + d = l.length → l.length ≤ 1048576 → d < k → 0 ≤ q → q ≤ 1048576 → ∀ r, laws_szStringS.l0 k l q (i : Int) = some r → r ≤ q := by
      intro d
      induction d with
      | zero =>
        intro k i q hi hn hk q0 q1 r hr
        obtain ⟨k, rfl⟩ : ∃ m, k = m + 1 := ⟨k - 1, by omega⟩
        simp only [laws_szStringS.l0] at hr
        rw [if_neg (by omega)] at hr
        simp at hr
        omega
      | succ d ih =>
        intro k i q hi hn hk q0 q1 r hr
        obtain ⟨k, rfl⟩ : ∃ m, k = m + 1 := ⟨k - 1, by omega⟩
        have hlt : i < l.length := by omega
        have e : rdOf ByteArray.empty l (i : Int) = l[i] := by simp [rdOf, List.getD_eq_getElem?_getD, List.getElem?_eq_getElem hlt]
        have hs := hw l[i] (List.getElem_mem _)
        unfold maxLen at hs
        have e2 : wrap64 (q - (l[i].size : Int)) = q - l[i].size := by unfold wrap64; omega
        simp only [laws_szStringS.l0] at hr
        rw [if_pos (by omega), if_pos (by omega), e, e2] at hr
        by_cases h : q - (l[i].size : Int) < 0
        · rw [if_pos h] at hr
          simp at hr
          omega
        · rw [if_neg h, wrap_nat hlt (by omega)] at hr
          have := ih k (i + 1) (q - l[i].size) (by omega) hn (by omega) (by omega) (by omega) r hr
          omega
    have m := mono l.length k 0 (q - l.length) (by omega) (by omega) hk (by omega) (by omega) r er
    refine ⟨r, er, ?_⟩
    rcases hr with hr | ⟨r0, hr⟩
    · exact Or.inl hr
    · refine Or.inr ⟨r0, by omega, by omega, fun s hs => ?_⟩
      obtain ⟨j, hj, rfl⟩ := List.getElem_of_mem hs
      have := hr j (by omega) hj
      simpa [List.getD_eq_getElem?_getD, List.getElem?_eq_getElem hj] using this
theorem toStr (k : Nat) (l : List ByteArray) (hl : l.length ≤ 1000000000000) (hk : l.length < k) : laws_toStringS.f k l = some l := by
  unfold laws_toStringS.f
  rw [if_pos (by omega), if_pos (by omega)]
  refine copy_loop (fun k i s => laws_toStringS.l0 k l s (i : Int)) l ByteArray.empty (fun k s hs => ?_) (fun k i s hi hs => ?_) l.length k 0 _ (by omega) hk (by simp) (fun j h => by omega)
  · simp only [laws_toStringS.l0]
    rw [if_neg (by omega)]
  · simp only [laws_toStringS.l0]
    rw [if_pos (by omega), if_pos (by omega), if_pos (by omega), wrap_nat hi (by omega)]
    simp [rdOf]
theorem ba_ext {a b : ByteArray} : a.toList = b.toList ↔ a = b := by
  constructor
  · intro h
    rw [ByteArray.toList_eq, ByteArray.toList_eq] at h
    cases a
    cases b
    congr 1
    exact Array.ext' h
  · rintro rfl
    rfl
theorem eqStr (k : Nat) (a b : List ByteArray) (ha : a.length ≤ 1000000000000) (hk : a.length < k) : laws_eqStringS.f k a b = some (decide (a = b)) := by
  unfold laws_eqStringS.f
  by_cases hl : a.length = b.length
  · rw [if_pos (by omega)]
    have h := eq_loop (fun k i => laws_eqStringS.l0 k a b (i : Int)) a b ByteArray.empty hl (fun k => ?_) (fun k i hi => ?_) a.length k 0 (by omega) hk
    · simpa using h
    · simp only [laws_eqStringS.l0]
      rw [if_neg (by omega)]
    · simp only [laws_eqStringS.l0]
      rw [if_pos (by omega), if_pos (by omega), if_pos (by omega), wrap_nat hi (by omega)]
      simp only [ba_ext, rdOf, Int.toNat_natCast]
  · rw [if_neg (by omega)]
    have : ¬ a = b := fun e => hl (by rw [e])
    simp [this]
def hasB (l : List ByteArray) (s : ByteArray) : Bool := l.any fun t => decide (t = s)
theorem has_drop (l : List ByteArray) (s : ByteArray) (i : Nat) (h : i < l.length) : hasB (l.drop i) s = (decide (l[i] = s) || hasB (l.drop (i + 1)) s) := by
  rw [List.drop_eq_getElem_cons h]
  rfl
theorem has_mem (l : List ByteArray) (s : ByteArray) : hasB l s = true ↔ s ∈ l := by
  unfold hasB
  rw [List.any_eq_true]
  constructor
  · rintro ⟨t, ht, e⟩
    have := of_decide_eq_true e
    rwa [← this]
  · intro h
    exact ⟨s, h, by simp⟩
theorem specHas_l0 (l : List ByteArray) (s : ByteArray) (hl : l.length ≤ 1000000000000) : ∀ (d k i : Nat), i + d = l.length → d < k → spec_HasWord.l0 k l s (i : Int) = some (hasB (l.drop i) s) := by
  intro d
  induction d with
  | zero =>
    intro k i hi hk
    obtain ⟨k, rfl⟩ : ∃ m, k = m + 1 := ⟨k - 1, by omega⟩
    simp only [spec_HasWord.l0]
    rw [if_neg (by omega), List.drop_eq_nil_of_le (by omega)]
    rfl
  | succ d ih =>
    intro k i hi hk
    obtain ⟨k, rfl⟩ : ∃ m, k = m + 1 := ⟨k - 1, by omega⟩
    simp only [spec_HasWord.l0]
    have hlt : i < l.length := by omega
    have e : rdOf ByteArray.empty l (i : Int) = l[i] := by simp [rdOf, List.getD_eq_getElem?_getD, List.getElem?_eq_getElem hlt]
    rw [if_pos (by omega), if_pos (by omega), e, has_drop l s i hlt]
    simp only [ba_ext]
    by_cases h : l[i] = s
    · rw [if_pos h]
      simp [h]
    · rw [if_neg h, wrap_nat hlt (by omega), ih k (i + 1) (by omega) (by omega)]
      simp [h]
theorem specHas (k : Nat) (l : List ByteArray) (s : ByteArray) (hl : l.length ≤ 1000000000000) (hk : l.length < k) : spec_HasWord.f k l s = some (hasB l s) := by
  unfold spec_HasWord.f
  exact specHas_l0 l s hl l.length k 0 (by omega) hk
theorem implHas_l0 (l : List ByteArray) (s : ByteArray) (hl : l.length ≤ 1000000000000) : ∀ (d k i : Nat), i + d = l.length → d < k → ∃ r : Int, slices_Index_string_string.l0 k l s (l.length : Int) (i : Int) = some r ∧ (r ≥ 0 ↔ hasB (l.drop i) s = true) := by
  intro d
  induction d with
  | zero =>
    intro k i hi hk
    obtain ⟨k, rfl⟩ : ∃ m, k = m + 1 := ⟨k - 1, by omega⟩
    simp only [slices_Index_string_string.l0]
    rw [if_neg (by omega)]
    refine ⟨-1, rfl, ?_⟩
    rw [List.drop_eq_nil_of_le (by omega)]
    simp [hasB]
  | succ d ih =>
    intro k i hi hk
    obtain ⟨k, rfl⟩ : ∃ m, k = m + 1 := ⟨k - 1, by omega⟩
    simp only [slices_Index_string_string.l0]
    have hlt : i < l.length := by omega
    have e : rdOf ByteArray.empty l (i : Int) = l[i] := by simp [rdOf, List.getD_eq_getElem?_getD, List.getElem?_eq_getElem hlt]
    rw [if_pos (by omega), if_pos (by omega), if_pos (by omega), e]
    simp only [ba_ext]
    rw [has_drop l s i hlt]
    by_cases h : s = l[i]
    · rw [if_pos h]
      exact ⟨i, rfl, by simp [h]⟩
    · rw [if_neg h, wrap_nat hlt (by omega)]
      obtain ⟨r, er, hr⟩ := ih k (i + 1) (by omega) (by omega)
      have h' : ¬ l[i] = s := fun e => h e.symm
      exact ⟨r, er, by rw [hr]; simp [h']⟩
theorem implHas (k : Nat) (l : List ByteArray) (s : ByteArray) (hl : l.length ≤ 1000000000000) (hk : l.length < k) : impl_HasWord.f k l s = some (hasB l s) := by
  unfold impl_HasWord.f slices_Contains_string_string.f slices_Index_string_string.f
  obtain ⟨r, er, hr⟩ := implHas_l0 l s hl l.length k 0 (by omega) hk
  have er' : slices_Index_string_string.l0 k l s (l.length : Int) 0 = some r := er
  rw [er']
  simp only [Option.bind_some]
  congr 1
  have hr' : r ≥ 0 ↔ hasB l s = true := hr
  rw [Bool.eq_iff_iff, decide_eq_true_iff]
  exact hr'
theorem FnExactHasWord (l : List ByteArray) (hl : l.length ≤ 9223372036854775807) (hw : ∀ s ∈ l, s.size ≤ maxLen) (a : ByteArray) (_ha : a.size ≤ 140737488351232) : ∃ k, laws_FnExactHasWord.f k l a = some true := by
  refine ⟨l.length + 10, ?_⟩
  unfold laws_FnExactHasWord.f
  by_cases h : (a.size : Int) > 1048576
  · rw [if_pos h]
  rw [if_neg h]
  obtain ⟨r, er, hr⟩ := szStrs (l.length + 10) l hl hw 1048576 (by decide) (by decide) (by omega)
  rw [er]
  simp only [Option.bind_some]
  by_cases hneg : r < 0
  · rw [if_pos hneg]
  rw [if_neg hneg]
  rcases hr with hr | ⟨_, _, hn, _⟩
  · exact absurd hr hneg
  simp only [toStr _ l (by omega) (by omega : l.length < l.length + 10), specHas _ l a (by omega) (by omega : l.length < l.length + 10), implHas _ l a (by omega) (by omega : l.length < l.length + 10), eqStr _ l l (by omega) (by omega : l.length < l.length + 10), Option.bind_some]
  simp
end Go.Proofs.Ytoblbpgipkmljaa.Pure
