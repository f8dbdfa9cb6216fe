/- The law FnExactReadUvarint answers true for every byte slice and offset. No condition. -/
import Derived.Test.YtoblbpgipkmljaaPFnExactReadUvarintx2
namespace Go.Proofs.Ytoblbpgipkmljaa.Pure
open Go.RowKit Go.Proofs.Ytoblbpgipkmljaa.PFnExactReadUvarint Go.Proofs.YtoblbpgipkmljaaW.PrintWords Go.Proofs.YtoblbpgipkmljaaW.PrintLast Go.Proofs.YtoblbpgipkmljaaW.PrintMore
set_option linter.unusedVariables false
set_option linter.unusedSimpArgs false
theorem wrap_nat {m n : Nat} (h : m < n) (hn : n ≤ 140737488351232) : wrap64 ((m : Int) + 1) = ((m + 1 : Nat) : Int) := by
  unfold wrap64
  omega
theorem getD_set_self {α : Type} (l : List α) (i j : Nat) (v d : α) : (l.set i v).getD j d = if i = j ∧ i < l.length then v else l.getD j d := by
  simp only [List.getD_eq_getElem?_getD, List.getElem?_set]
  by_cases h : i = j
  · subst h
    by_cases h2 : i < l.length
    · simp [h2]
    · simp [h2]
  · simp [h]
theorem ext_getD {α : Type} (a b : List α) (d : α) (hl : a.length = b.length) (h : ∀ j, j < b.length → a.getD j d = b.getD j d) : a = b := by
  refine List.ext_getElem hl fun j h1 h2 => ?_
  have := h j h2
  simpa [List.getD_eq_getElem?_getD, List.getElem?_eq_getElem h1, List.getElem?_eq_getElem h2] using this
theorem copy_loop {α : Type} (F : Nat → Nat → List α → Option (List α)) (x0 : List α) (dv : α)
    (hend : ∀ k s, s.length = x0.length → F (k + 1) x0.length s = some s)
    (hstep : ∀ k i s, i < x0.length → s.length = x0.length → F (k + 1) i s = F k (i + 1) (s.set i (x0.getD i dv))) :
    ∀ (d k i : Nat) (s : List α), i + d = x0.length → d < k → s.length = x0.length → (∀ j, j < i → s.getD j dv = x0.getD j dv) → F k i s = some x0 := by
  intro d
  induction d with
  | zero =>
    intro k i s hi hk hs hj
    obtain ⟨k, rfl⟩ : ∃ m, k = m + 1 := ⟨k - 1, by omega⟩
    obtain rfl : i = x0.length := by omega
    rw [hend k s hs, ext_getD s x0 dv hs hj]
  | succ d ih =>
    intro k i s hi hk hs hj
    obtain ⟨k, rfl⟩ : ∃ m, k = m + 1 := ⟨k - 1, by omega⟩
    rw [hstep k i s (by omega) hs]
    refine ih k (i + 1) _ (by omega) (by omega) (by simpa using hs) fun j h => ?_
    rw [getD_set_self]
    by_cases e : i = j
    · subst e
      rw [if_pos ⟨rfl, by omega⟩]
    · rw [if_neg (fun h => e h.1)]
      exact hj j (by omega)
theorem eq_loop {α : Type} [DecidableEq α] (F : Nat → Nat → Option Bool) (x0 x1 : List α) (dv : α) (hl : x0.length = x1.length)
    (hend : ∀ k, F (k + 1) x0.length = some true)
    (hstep : ∀ k i, i < x0.length → F (k + 1) i = if x0.getD i dv = x1.getD i dv then F k (i + 1) else some false) :
    ∀ (d k i : Nat), i + d = x0.length → d < k → F k i = some (decide (x0.drop i = x1.drop i)) := by
  intro d
  induction d with
  | zero =>
    intro k i hi hk
    obtain ⟨k, rfl⟩ : ∃ m, k = m + 1 := ⟨k - 1, by omega⟩
    obtain rfl : i = x0.length := by omega
    rw [hend]
    simp [hl]
  | succ d ih =>
    intro k i hi hk
    obtain ⟨k, rfl⟩ : ∃ m, k = m + 1 := ⟨k - 1, by omega⟩
    have h0 : i < x0.length := by omega
    have h1 : i < x1.length := by omega
    rw [hstep k i h0, ih k (i + 1) (by omega) (by omega), List.drop_eq_getElem_cons h0, List.drop_eq_getElem_cons h1]
    simp only [List.getD_eq_getElem?_getD, List.getElem?_eq_getElem h0, List.getElem?_eq_getElem h1, Option.getD_some, List.cons.injEq]
    by_cases e : x0[i] = x1[i] <;> simp [e]
theorem mark_loop {α : Type} (F : Nat → Nat → List α → Option (Int × List α)) (n : Nat) (val : Nat → α)
    (hend : ∀ k s, s.length = n → F (k + 1) n s = some (1 + (n : Int), s))
    (hstep : ∀ k i s, i < n → s.length = n → F (k + 1) i s = F k (i + 1) (s.set i (val i))) (dv : α) :
    ∀ (d k i : Nat) (s : List α), i + d = n → d < k → s.length = n → (∀ j, j < i → s.getD j dv = val j) → F k i s = some (1 + (n : Int), (List.range n).map val) := by
  intro d
  induction d with
  | zero =>
    intro k i s hi hk hs hj
    obtain ⟨k, rfl⟩ : ∃ m, k = m + 1 := ⟨k - 1, by omega⟩
    obtain rfl : i = n := by omega
    rw [hend k s hs]
    have e : s = (List.range i).map val := ext_getD s _ dv (by simpa using hs) fun j h => by
      have h' : j < i := by simpa using h
      rw [hj j h']
      simp [List.getD_eq_getElem?_getD, h']
    rw [← e]
  | succ d ih =>
    intro k i s hi hk hs hj
    obtain ⟨k, rfl⟩ : ∃ m, k = m + 1 := ⟨k - 1, by omega⟩
    rw [hstep k i s (by omega) hs]
    refine ih k (i + 1) _ (by omega) (by omega) (by simpa using hs) fun j h => ?_
    rw [getD_set_self]
    by_cases e : i = j
    · subst e
      rw [if_pos ⟨rfl, by omega⟩]
    · rw [if_neg (fun h => e h.1)]
      exact hj j (by omega)
theorem held_loop (F : Nat → Nat → Option Int) (n : Nat)
    (hend : ∀ k, F (k + 1) n = some (1 + (n : Int)))
    (hstep : ∀ k i, i < n → F (k + 1) i = F k (i + 1)) :
    ∀ (d k i : Nat), i + d = n → d < k → F k i = some (1 + (n : Int)) := by
  intro d
  induction d with
  | zero =>
    intro k i hi hk
    obtain ⟨k, rfl⟩ : ∃ m, k = m + 1 := ⟨k - 1, by omega⟩
    obtain rfl : i = n := by omega
    exact hend k
  | succ d ih =>
    intro k i hi hk
    obtain ⟨k, rfl⟩ : ∃ m, k = m + 1 := ⟨k - 1, by omega⟩
    rw [hstep k i (by omega)]
    exact ih k (i + 1) (by omega) (by omega)
/-- A loop that counts up, told by its step. -/
def runL {σ ρ : Type} (step : Nat → σ → ρ ⊕ σ) (fin : σ → ρ) : Nat → Nat → σ → ρ
  | 0, _, s => fin s
  | d + 1, i, s => match step i s with
    | .inl r => r
    | .inr s' => runL step fin d (i + 1) s'
theorem loop_run {σ ρ : Type} (F : Nat → Nat → σ → Option ρ) (n : Nat) (step : Nat → σ → ρ ⊕ σ) (fin : σ → ρ) (Inv : Nat → σ → Prop)
    (hend : ∀ k s, Inv n s → F (k + 1) n s = some (fin s))
    (hstep : ∀ k i s, i < n → Inv i s → F (k + 1) i s = match step i s with
      | .inl r => some r
      | .inr s' => F k (i + 1) s')
    (hinv : ∀ i s s', i < n → Inv i s → step i s = .inr s' → Inv (i + 1) s') :
    ∀ (d k i : Nat) (s : σ), i + d = n → d < k → Inv i s → F k i s = some (runL step fin d i s) := by
  intro d
  induction d with
  | zero =>
    intro k i s hi hk hs
    obtain ⟨k, rfl⟩ : ∃ m, k = m + 1 := ⟨k - 1, by omega⟩
    obtain rfl : i = n := by omega
    exact hend k s hs
  | succ d ih =>
    intro k i s hi hk hs
    obtain ⟨k, rfl⟩ : ∃ m, k = m + 1 := ⟨k - 1, by omega⟩
    rw [hstep k i s (by omega) hs]
    unfold runL
    cases e : step i s with
    | inl r => rfl
    | inr s' => exact ih k (i + 1) s' (by omega) (by omega) (hinv i s s' (by omega) hs e)
theorem one_neg (n : Nat) : (1 + (n : Int) < 0) = False := by
  simp
  omega
theorem u8_bds {n : Int} (h : (Lit.int .u8 n).wf = true) : 0 ≤ n ∧ n ≤ 255 := by
  simp [Lit.wf, IntKind.min, IntKind.max, IntKind.signed, IntKind.bits] at h
  omega
theorem i64_bds {n : Int} (h : (Lit.int .i64 n).wf = true) : -9223372036854775808 ≤ n ∧ n ≤ 9223372036854775807 := by
  simp [Lit.wf, IntKind.min, IntKind.max, IntKind.signed, IntKind.bits] at h
  omega
theorem toByteS (k : Nat) (l : List Int) (hl : l.length ≤ 4194304) (hk : l.length < k) : laws_toByteS.f k l = some l := by
  unfold laws_toByteS.f
  rw [if_pos (by omega), if_pos (by omega)]
  refine copy_loop (fun k i s => laws_toByteS.l0 k l s (i : Int)) l 0 (fun k s hs => ?_) (fun k i s hi hs => ?_) l.length k 0 _ (by omega) hk (by simp) (fun j h => by omega)
  · simp only [laws_toByteS.l0]
    rw [if_neg (by omega)]
  · simp only [laws_toByteS.l0]
    rw [if_pos (by omega), if_pos (by omega), if_pos (by omega), wrap_nat hi (by omega)]
    simp [rd]
theorem eqByteS (k : Nat) (a b : List Int) (ha : a.length ≤ 4194304) (hk : a.length < k) : laws_eqByteS.f k a b = some (decide (a = b)) := by
  unfold laws_eqByteS.f
  by_cases hl : a.length = b.length
  · rw [if_pos (by omega)]
    have h := eq_loop (fun k i => laws_eqByteS.l0 k a b (i : Int)) a b 0 hl (fun k => ?_) (fun k i hi => ?_) a.length k 0 (by omega) hk
    · simpa using h
    · simp only [laws_eqByteS.l0]
      rw [if_neg (by omega)]
    · simp only [laws_eqByteS.l0]
      rw [if_pos (by omega), if_pos (by omega), if_pos (by omega), wrap_nat hi (by omega)]
      simp [rd]
  · rw [if_neg (by omega)]
    have : ¬ a = b := fun e => hl (by rw [e])
    simp [this]
def rdStep (l : List Int) (a : Int) (i : Nat) (n : Int) : (Int × Int × Bool) ⊕ Int :=
  if a + i ≥ l.length then .inl (0, 0, false)
  else if rd l (a + i) < 128 then
    if (0 < i ∧ rd l (a + i) = 0) ∨ Go.bits .or .i64 n (shl .i64 (Go.bits .and .i64 (rd l (a + i)) 127) (7 * i)) > 1000000000000 then .inl (0, 0, false)
    else .inl (Go.bits .or .i64 n (shl .i64 (Go.bits .and .i64 (rd l (a + i)) 127) (7 * i)), a + i + 1, true)
  else .inr (Go.bits .or .i64 n (shl .i64 (Go.bits .and .i64 (rd l (a + i)) 127) (7 * i)))
/-- What both ReadUvarint come to. -/
def readU (l : List Int) (a : Int) : Int × Int × Bool :=
  if 0 ≤ a ∧ a < l.length then runL (rdStep l a) (fun _ => (0, 0, false)) 6 0 0 else (0, 0, false)
theorem u8_bd {l : List Int} (h : ∀ x ∈ l, (Lit.int .u8 x).wf = true) (j : Int) : 0 ≤ rd l j ∧ rd l j ≤ 255 := by
  unfold rd
  rw [List.getD_eq_getElem?_getD]
  by_cases hj : j.toNat < l.length
  · rw [List.getElem?_eq_getElem hj]
    exact u8_bds (h _ (List.getElem_mem _))
  · rw [List.getElem?_eq_none (by omega)]
    exact ⟨Int.le_refl 0, by decide⟩
theorem implRead (l : List Int) (hl : l.length ≤ 140737488351232) (hw : ∀ x ∈ l, (Lit.int .u8 x).wf = true) (a : Int) (k : Nat) (hk : 6 < k) : impl_ReadUvarint.f k l a = some (readU l a) := by
  unfold impl_ReadUvarint.f readU impl_at.f
  by_cases h : 0 ≤ a ∧ a < l.length
  · rw [if_pos h, if_pos h.1]
    simp only [Option.bind_some, decide_eq_true_eq]
    rw [if_pos h.2]
    refine loop_run (fun k i s => impl_ReadUvarint.l0 k l a s (i : Int)) 6 (rdStep l a) (fun _ => (0, 0, false)) (fun _ _ => True) (fun k s _ => ?_) (fun k i s hi _ => ?_) (fun _ _ _ _ _ _ => trivial) 6 k 0 0 rfl hk trivial
    · simp [impl_ReadUvarint.l0]
    · simp only [impl_ReadUvarint.l0]
      have e1 : wrap64 (a + i) = a + i := by unfold wrap64; omega
      have e2 : wrap64 ((i : Int) + 1) = ((i + 1 : Nat) : Int) := by unfold wrap64; omega
      have e3 : wrap64 (7 * (i : Int)) = 7 * (i : Int) := by unfold wrap64; omega
      have b := u8_bd hw (a + i)
      have e4 : wrap64 (rd l (a + i)) = rd l (a + i) := by unfold wrap64; omega
      have e5 : wrap64 (a + i + 1) = a + i + 1 := by unfold wrap64; omega
      rw [if_pos (by omega)]
      simp only [e1, e2, e3, e4, e5]
      unfold rdStep
      by_cases h1 : a + i ≥ l.length
      · rw [if_pos h1, if_pos h1]
      · rw [if_neg h1, if_neg h1, if_pos (by omega), if_pos (by omega), if_pos (by omega)]
        by_cases h2 : rd l (a + i) < 128
        · rw [if_pos h2, if_pos h2]
          by_cases h3 : (i : Int) > 0
          · rw [if_pos h3]
            by_cases h4 : rd l (a + i) = 0
            · rw [if_pos h4, if_pos (Or.inl ⟨by omega, h4⟩)]
            · rw [if_neg h4]
              by_cases h5 : Go.bits .or .i64 s (shl .i64 (Go.bits .and .i64 (rd l (a + i)) 127) (7 * i)) > 1000000000000
              · rw [if_pos h5, if_pos (Or.inr h5)]
              · rw [if_neg h5, if_neg (by rintro (h | h); exact h4 h.2; exact h5 h)]
          · rw [if_neg h3]
            by_cases h5 : Go.bits .or .i64 s (shl .i64 (Go.bits .and .i64 (rd l (a + i)) 127) (7 * i)) > 1000000000000
            · rw [if_pos h5, if_pos (Or.inr h5)]
            · rw [if_neg h5, if_neg (by rintro (h | h); exact h3 (by omega); exact h5 h)]
        · rw [if_neg h2, if_neg h2]
  · rw [if_neg h]
    by_cases h1 : a ≥ 0
    · rw [if_pos h1]
      have : ¬ a < l.length := fun e => h ⟨h1, e⟩
      simp [this]
    · rw [if_neg h1]
      simp
theorem specRead (l : List Int) (hl : l.length ≤ 140737488351232) (hw : ∀ x ∈ l, (Lit.int .u8 x).wf = true) (a : Int) (ha : (Lit.int .i64 a).wf = true) (k : Nat) (hk : 14 < k) : spec_ReadUvarint.f k l a = some (readU l a) := by
  have hab := i64_bds ha
  refine at_rounds (g := fun k => spec_ReadUvarint.f k l a) (spec_ReadUvarint.mono l a) (k := 2 * 7) (by omega) ?_
  show spec_ReadUvarint.l0 (2 * 7) l a 0 0 = _
  unfold readU
  by_cases h : 0 ≤ a ∧ a < l.length
  · rw [if_pos h]
    refine loop_run (fun k i s => spec_ReadUvarint.l0 (2 * k) l a s (i : Int)) 6 (rdStep l a) (fun _ => (0, 0, false)) (fun _ _ => True) (fun k s _ => ?_) (fun k i s hi _ => ?_) (fun _ _ _ _ _ _ => trivial) 6 7 0 0 rfl (by omega) trivial
    · show spec_ReadUvarint.l0 (2 * k + 1 + 1) l a s _ = _
      simp [spec_ReadUvarint.l0]
    · show spec_ReadUvarint.l0 (2 * k + 1 + 1) l a s _ = _
      simp only [spec_ReadUvarint.l0, spec_ReadUvarint.j1]
      have e1 : wrap64 (a + i) = a + i := by unfold wrap64; omega
      have e2 : wrap64 ((i : Int) + 1) = ((i + 1 : Nat) : Int) := by unfold wrap64; omega
      have e3 : wrap64 (7 * (i : Int)) = 7 * (i : Int) := by unfold wrap64; omega
      have b := u8_bd hw (a + i)
      have e4 : wrap64 (rd l (a + i)) = rd l (a + i) := by unfold wrap64; omega
      have e5 : wrap64 (a + i + 1) = a + i + 1 := by unfold wrap64; omega
      have e6 : wrap64 ((l.length : Int) - i) = l.length - i := by unfold wrap64; omega
      rw [if_pos (by omega), if_neg (by omega)]
      simp only [e1, e2, e3, e4, e5, e6]
      unfold rdStep
      by_cases h1 : a + i ≥ l.length
      · rw [if_pos h1, if_pos (by simp; omega)]
      · rw [if_neg h1, if_neg (by simp; omega), if_pos (by omega), if_pos (by omega), if_pos (by omega)]
        by_cases h2 : rd l (a + i) < 128
        · rw [if_pos h2, if_pos h2]
          by_cases h4 : rd l (a + i) = 0
          · rw [if_pos h4]
            by_cases h3 : (i : Int) > 0
            · rw [if_pos h3, if_pos (Or.inl ⟨by omega, h4⟩)]
            · rw [if_neg h3]
              by_cases h5 : Go.bits .or .i64 s (shl .i64 (Go.bits .and .i64 (rd l (a + i)) 127) (7 * i)) > 1000000000000
              · rw [if_pos h5, if_pos (Or.inr h5)]
              · rw [if_neg h5, if_neg (by rintro (h | h); exact h3 (by omega); exact h5 h)]
          · rw [if_neg h4]
            by_cases h5 : Go.bits .or .i64 s (shl .i64 (Go.bits .and .i64 (rd l (a + i)) 127) (7 * i)) > 1000000000000
            · rw [if_pos h5, if_pos (Or.inr h5)]
            · rw [if_neg h5, if_neg (by rintro (h | h); exact h4 h.2; exact h5 h)]
        · rw [if_neg h2, if_neg h2]
  · rw [if_neg h]
    show spec_ReadUvarint.l0 (12 + 1 + 1) l a 0 0 = _
    simp only [spec_ReadUvarint.l0, spec_ReadUvarint.j1]
    have e6 : wrap64 ((l.length : Int) - 0) = l.length := by unfold wrap64; omega
    rw [if_pos (by omega), e6]
    by_cases h1 : a < 0
    · rw [if_pos h1]
      simp
    · rw [if_neg h1, if_pos (by simp; omega)]
theorem FnExactReadUvarint : laws_FnExactReadUvarint.Pure := by
  intro l a _ _ hw ha
  refine ⟨l.length + 20, ?_⟩
  unfold laws_FnExactReadUvarint.f
  by_cases hl : (l.length : Int) > 1048576
  · rw [if_pos hl]
  rw [if_neg hl]
  simp only [toByteS _ l (by omega) (by omega : l.length < l.length + 20), Option.bind_some, specRead l (by omega) hw a ha _ (by omega : 14 < l.length + 20), implRead l (by omega) hw a _ (by omega : 6 < l.length + 20), if_true]
  simp only [laws_FnExactReadUvarint.j0, toByteS _ l (by omega) (by omega : l.length < l.length + 19), Option.bind_some, eqByteS _ l l (by omega) (by omega : l.length < l.length + 19)]
  simp
end Go.Proofs.Ytoblbpgipkmljaa.Pure
