/- The law FnExactBytesToInts answers true for every byte slice. No condition. -/
import Derived.Test.YtoblbpgipkmljaaPFnExactBytesToIntsx2
namespace Go.Proofs.Ytoblbpgipkmljaa.Pure
open Go.RowKit Go.Proofs.Ytoblbpgipkmljaa.PFnExactBytesToInts Go.Proofs.YtoblbpgipkmljaaW.PrintWords Go.Proofs.YtoblbpgipkmljaaW.PrintLast Go.Proofs.YtoblbpgipkmljaaW.PrintMore
set_option linter.unusedVariables false
set_option linter.unusedSimpArgs false
theorem wrap_nat {m n : Nat} (h : m < n) (hn : n ≤ 140737488351232) : wrap64 ((m : Int) + 1) = ((m + 1 : Nat) : Int) := by
  unfold wrap64
  omega
theorem getD_set_self {α : Type} (l : List α) (i j : Nat) (v d : α) : (l.set i v).getD j d = if i = j ∧ i < l.length then v else l.getD j d := by
  simp only [List.getD_eq_getElem?_getD, List.getElem?_set]
  by_cases h : i = j
  · subst h
    by_cases h2 : i < l.length
    · simp [h2]
    · simp [h2]
  · simp [h]
theorem ext_getD {α : Type} (a b : List α) (d : α) (hl : a.length = b.length) (h : ∀ j, j < b.length → a.getD j d = b.getD j d) : a = b := by
  refine List.ext_getElem hl fun j h1 h2 => ?_
  have := h j h2
  simpa [List.getD_eq_getElem?_getD, List.getElem?_eq_getElem h1, List.getElem?_eq_getElem h2] using this
theorem copy_loop {α : Type} (F : Nat → Nat → List α → Option (List α)) (x0 : List α) (dv : α)
    (hend : ∀ k s, s.length = x0.length → F (k + 1) x0.length s = some s)
    (hstep : ∀ k i s, i < x0.length → s.length = x0.length → F (k + 1) i s = F k (i + 1) (s.set i (x0.getD i dv))) :
    ∀ (d k i : Nat) (s : List α), i + d = x0.length → d < k → s.length = x0.length → (∀ j, j < i → s.getD j dv = x0.getD j dv) → F k i s = some x0 := by
  intro d
  induction d with
  | zero =>
    intro k i s hi hk hs hj
    obtain ⟨k, rfl⟩ : ∃ m, k = m + 1 := ⟨k - 1, by omega⟩
    obtain rfl : i = x0.length := by omega
    rw [hend k s hs, ext_getD s x0 dv hs hj]
  | succ d ih =>
    intro k i s hi hk hs hj
    obtain ⟨k, rfl⟩ : ∃ m, k = m + 1 := ⟨k - 1, by omega⟩
    rw [hstep k i s (by omega) hs]
    refine ih k (i + 1) _ (by omega) (by omega) (by simpa using hs) fun j h => ?_
    rw [getD_set_self]
    by_cases e : i = j
    · subst e
      rw [if_pos ⟨rfl, by omega⟩]
    · rw [if_neg (fun h => e h.1)]
      exact hj j (by omega)
theorem eq_loop {α : Type} [DecidableEq α] (F : Nat → Nat → Option Bool) (x0 x1 : List α) (dv : α) (hl : x0.length = x1.length)
    (hend : ∀ k, F (k + 1) x0.length = some true)
    (hstep : ∀ k i, i < x0.length → F (k + 1) i = if x0.getD i dv = x1.getD i dv then F k (i + 1) else some false) :
    ∀ (d k i : Nat), i + d = x0.length → d < k → F k i = some (decide (x0.drop i = x1.drop i)) := by
  intro d
  induction d with
  | zero =>
    intro k i hi hk
    obtain ⟨k, rfl⟩ : ∃ m, k = m + 1 := ⟨k - 1, by omega⟩
    obtain rfl : i = x0.length := by omega
    rw [hend]
    simp [hl]
  | succ d ih =>
    intro k i hi hk
    obtain ⟨k, rfl⟩ : ∃ m, k = m + 1 := ⟨k - 1, by omega⟩
    have h0 : i < x0.length := by omega
    have h1 : i < x1.length := by omega
    rw [hstep k i h0, ih k (i + 1) (by omega) (by omega), List.drop_eq_getElem_cons h0, List.drop_eq_getElem_cons h1]
    simp only [List.getD_eq_getElem?_getD, List.getElem?_eq_getElem h0, List.getElem?_eq_getElem h1, Option.getD_some, List.cons.injEq]
    by_cases e : x0[i] = x1[i] <;> simp [e]
theorem mark_loop {α : Type} (F : Nat → Nat → List α → Option (Int × List α)) (n : Nat) (val : Nat → α)
    (hend : ∀ k s, s.length = n → F (k + 1) n s = some (1 + (n : Int), s))
    (hstep : ∀ k i s, i < n → s.length = n → F (k + 1) i s = F k (i + 1) (s.set i (val i))) (dv : α) :
    ∀ (d k i : Nat) (s : List α), i + d = n → d < k → s.length = n → (∀ j, j < i → s.getD j dv = val j) → F k i s = some (1 + (n : Int), (List.range n).map val) := by
  intro d
  induction d with
  | zero =>
    intro k i s hi hk hs hj
    obtain ⟨k, rfl⟩ : ∃ m, k = m + 1 := ⟨k - 1, by omega⟩
    obtain rfl : i = n := by omega
    rw [hend k s hs]
    have e : s = (List.range i).map val := ext_getD s _ dv (by simpa using hs) fun j h => by
      have h' : j < i := by simpa using h
      rw [hj j h']
      simp [List.getD_eq_getElem?_getD, h']
    rw [← e]
  | succ d ih =>
    intro k i s hi hk hs hj
    obtain ⟨k, rfl⟩ : ∃ m, k = m + 1 := ⟨k - 1, by omega⟩
    rw [hstep k i s (by omega) hs]
    refine ih k (i + 1) _ (by omega) (by omega) (by simpa using hs) fun j h => ?_
    rw [getD_set_self]
    by_cases e : i = j
    · subst e
      rw [if_pos ⟨rfl, by omega⟩]
    · rw [if_neg (fun h => e h.1)]
      exact hj j (by omega)
theorem held_loop (F : Nat → Nat → Option Int) (n : Nat)
    (hend : ∀ k, F (k + 1) n = some (1 + (n : Int)))
    (hstep : ∀ k i, i < n → F (k + 1) i = F k (i + 1)) :
    ∀ (d k i : Nat), i + d = n → d < k → F k i = some (1 + (n : Int)) := by
  intro d
  induction d with
  | zero =>
    intro k i hi hk
    obtain ⟨k, rfl⟩ : ∃ m, k = m + 1 := ⟨k - 1, by omega⟩
    obtain rfl : i = n := by omega
    exact hend k
  | succ d ih =>
    intro k i hi hk
    obtain ⟨k, rfl⟩ : ∃ m, k = m + 1 := ⟨k - 1, by omega⟩
    rw [hstep k i (by omega)]
    exact ih k (i + 1) (by omega) (by omega)
/-- A loop that counts up, told by its step. -/
def runL {σ ρ : Type} (step : Nat → σ → ρ ⊕ σ) (fin : σ → ρ) : Nat → Nat → σ → ρ
  | 0, _, s => fin s
  | d + 1, i, s => match step i s with
    | .inl r => r
    | .inr s' => runL step fin d (i + 1) s'
theorem loop_run {σ ρ : Type} (F : Nat → Nat → σ → Option ρ) (n : Nat) (step : Nat → σ → ρ ⊕ σ) (fin : σ → ρ) (Inv : Nat → σ → Prop)
    (hend : ∀ k s, Inv n s → F (k + 1) n s = some (fin s))
    (hstep : ∀ k i s, i < n → Inv i s → F (k + 1) i s = match step i s with
      | .inl r => some r
      | .inr s' => F k (i + 1) s')
    (hinv : ∀ i s s', i < n → Inv i s → step i s = .inr s' → Inv (i + 1) s') :
    ∀ (d k i : Nat) (s : σ), i + d = n → d < k → Inv i s → F k i s = some (runL step fin d i s) := by
  intro d
  induction d with
  | zero =>
    intro k i s hi hk hs
    obtain ⟨k, rfl⟩ : ∃ m, k = m + 1 := ⟨k - 1, by omega⟩
    obtain rfl : i = n := by omega
    exact hend k s hs
  | succ d ih =>
    intro k i s hi hk hs
    obtain ⟨k, rfl⟩ : ∃ m, k = m + 1 := ⟨k - 1, by omega⟩
    rw [hstep k i s (by omega) hs]
    unfold runL
    cases e : step i s with
    | inl r => rfl
    | inr s' => exact ih k (i + 1) s' (by omega) (by omega) (hinv i s s' (by omega) hs e)
theorem one_neg (n : Nat) : (1 + (n : Int) < 0) = False := by
  simp
  omega
theorem u8_bds {n : Int} (h : (Lit.int .u8 n).wf = true) : 0 ≤ n ∧ n ≤ 255 := by
  simp [Lit.wf, IntKind.min, IntKind.max, IntKind.signed, IntKind.bits] at h
  omega
theorem i64_bds {n : Int} (h : (Lit.int .i64 n).wf = true) : -9223372036854775808 ≤ n ∧ n ≤ 9223372036854775807 := by
  simp [Lit.wf, IntKind.min, IntKind.max, IntKind.signed, IntKind.bits] at h
  omega
theorem toByteS (k : Nat) (l : List Int) (hl : l.length ≤ 4194304) (hk : l.length < k) : laws_toByteS.f k l = some l := by
  unfold laws_toByteS.f
  rw [if_pos (by omega), if_pos (by omega)]
  refine copy_loop (fun k i s => laws_toByteS.l0 k l s (i : Int)) l 0 (fun k s hs => ?_) (fun k i s hi hs => ?_) l.length k 0 _ (by omega) hk (by simp) (fun j h => by omega)
  · simp only [laws_toByteS.l0]
    rw [if_neg (by omega)]
  · simp only [laws_toByteS.l0]
    rw [if_pos (by omega), if_pos (by omega), if_pos (by omega), wrap_nat hi (by omega)]
    simp [rd]
theorem eqByteS (k : Nat) (a b : List Int) (ha : a.length ≤ 4194304) (hk : a.length < k) : laws_eqByteS.f k a b = some (decide (a = b)) := by
  unfold laws_eqByteS.f
  by_cases hl : a.length = b.length
  · rw [if_pos (by omega)]
    have h := eq_loop (fun k i => laws_eqByteS.l0 k a b (i : Int)) a b 0 hl (fun k => ?_) (fun k i hi => ?_) a.length k 0 (by omega) hk
    · simpa using h
    · simp only [laws_eqByteS.l0]
      rw [if_neg (by omega)]
    · simp only [laws_eqByteS.l0]
      rw [if_pos (by omega), if_pos (by omega), if_pos (by omega), wrap_nat hi (by omega)]
      simp [rd]
  · rw [if_neg (by omega)]
    have : ¬ a = b := fun e => hl (by rw [e])
    simp [this]
theorem eqIntS (k : Nat) (a b : List Int) (ha : a.length ≤ 4194304) (hk : a.length < k) : laws_eqIntS.f k a b = some (decide (a = b)) := by
  unfold laws_eqIntS.f
  by_cases hl : a.length = b.length
  · rw [if_pos (by omega)]
    have h := eq_loop (fun k i => laws_eqIntS.l0 k a b (i : Int)) a b 0 hl (fun k => ?_) (fun k i hi => ?_) a.length k 0 (by omega) hk
    · simpa using h
    · simp only [laws_eqIntS.l0]
      rw [if_neg (by omega)]
    · simp only [laws_eqIntS.l0]
      rw [if_pos (by omega), if_pos (by omega), if_pos (by omega), wrap_nat hi (by omega)]
      simp [rd]
  · rw [if_neg (by omega)]
    have : ¬ a = b := fun e => hl (by rw [e])
    simp [this]
theorem markByteS (k : Nat) (l : List Int) (hl : l.length ≤ 4194304) (hk : l.length < k) : laws_markByteS.f k l 1 = some (1 + (l.length : Int), (List.range l.length).map fun (j : Nat) => ((1+(j:Int))%256)) := by
  unfold laws_markByteS.f
  have h := mark_loop (fun k i s => laws_markByteS.l0 k s (1 + (i : Int)) (i : Int)) l.length (fun (j : Nat) => ((1+(j:Int))%256)) (fun k s hs => ?_) (fun k i s hi hs => ?_) 0 l.length k 0 l (by omega) hk rfl (fun j h => by omega)
  · simpa using h
  · simp only [laws_markByteS.l0]
    rw [if_neg (by omega)]
  · simp only [laws_markByteS.l0]
    rw [if_pos (by omega), if_pos (by omega), wrap_nat hi (by omega), show wrap64 (1 + (i : Int) + 1) = 1 + ((i + 1 : Nat) : Int) by unfold wrap64; omega]
    simp
theorem markIntS (k : Nat) (l : List Int) (hl : l.length ≤ 4194304) (hk : l.length < k) : laws_markIntS.f k l 1 = some (1 + (l.length : Int), (List.range l.length).map fun (j : Nat) => (1+(j:Int))) := by
  unfold laws_markIntS.f
  have h := mark_loop (fun k i s => laws_markIntS.l0 k s (1 + (i : Int)) (i : Int)) l.length (fun (j : Nat) => (1+(j:Int))) (fun k s hs => ?_) (fun k i s hi hs => ?_) 0 l.length k 0 l (by omega) hk rfl (fun j h => by omega)
  · simpa using h
  · simp only [laws_markIntS.l0]
    rw [if_neg (by omega)]
  · simp only [laws_markIntS.l0]
    rw [if_pos (by omega), if_pos (by omega), wrap_nat hi (by omega), show wrap64 (1 + (i : Int) + 1) = 1 + ((i + 1 : Nat) : Int) by unfold wrap64; omega]
    simp
theorem heldIntS (k n : Nat) (hl : n ≤ 4194304) (hk : n < k) : laws_heldIntS.f k ((List.range n).map fun (j : Nat) => (1+(j:Int))) 1 = some (1 + (n : Int)) := by
  unfold laws_heldIntS.f
  have h := held_loop (fun k i => laws_heldIntS.l0 k ((List.range n).map fun (j : Nat) => (1+(j:Int))) (1 + (i : Int)) (i : Int)) n (fun k => ?_) (fun k i hi => ?_) n k 0 (by omega) hk
  · simpa using h
  · simp only [laws_heldIntS.l0]
    rw [if_neg (by simp)]
  · simp only [laws_heldIntS.l0]
    rw [if_pos (by simp; omega), if_pos (by omega), wrap_nat hi (by omega), show wrap64 (1 + (i : Int) + 1) = 1 + ((i + 1 : Nat) : Int) by unfold wrap64; omega]
    rw [if_pos (by simp [rd, List.getD_eq_getElem?_getD, hi])]
def rdStep (l : List Int) (a : Int) (i : Nat) (n : Int) : (Int × Int × Bool) ⊕ Int :=
  if a + i ≥ l.length then .inl (0, 0, false)
  else if rd l (a + i) < 128 then
    if (0 < i ∧ rd l (a + i) = 0) ∨ Go.bits .or .i64 n (shl .i64 (Go.bits .and .i64 (rd l (a + i)) 127) (7 * i)) > 1000000000000 then .inl (0, 0, false)
    else .inl (Go.bits .or .i64 n (shl .i64 (Go.bits .and .i64 (rd l (a + i)) 127) (7 * i)), a + i + 1, true)
  else .inr (Go.bits .or .i64 n (shl .i64 (Go.bits .and .i64 (rd l (a + i)) 127) (7 * i)))
/-- What both ReadUvarint come to. -/
def readU (l : List Int) (a : Int) : Int × Int × Bool :=
  if 0 ≤ a ∧ a < l.length then runL (rdStep l a) (fun _ => (0, 0, false)) 6 0 0 else (0, 0, false)
theorem u8_bd {l : List Int} (h : ∀ x ∈ l, (Lit.int .u8 x).wf = true) (j : Int) : 0 ≤ rd l j ∧ rd l j ≤ 255 := by
  unfold rd
  rw [List.getD_eq_getElem?_getD]
  by_cases hj : j.toNat < l.length
  · rw [List.getElem?_eq_getElem hj]
    exact u8_bds (h _ (List.getElem_mem _))
  · rw [List.getElem?_eq_none (by omega)]
    exact ⟨Int.le_refl 0, by decide⟩
theorem b2i_loop (F : Nat → Nat → List Int → Option (List Int)) (l : List Int)
    (hend : ∀ k s, F (k + 1) l.length s = some s)
    (hstep : ∀ k i s, i < l.length → s.length = i + 1 → F (k + 1) i s = F k (i + 1) (s ++ [rd l i])) :
    ∀ (d k i : Nat) (s : List Int), i + d = l.length → d < k → s = (l.length : Int) :: l.take i → F k i s = some ((l.length : Int) :: l) := by
  intro d
  induction d with
  | zero =>
    intro k i s hi hk hs
    obtain ⟨k, rfl⟩ : ∃ m, k = m + 1 := ⟨k - 1, by omega⟩
    obtain rfl : i = l.length := by omega
    rw [hend, hs, List.take_length]
  | succ d ih =>
    intro k i s hi hk hs
    obtain ⟨k, rfl⟩ : ∃ m, k = m + 1 := ⟨k - 1, by omega⟩
    rw [hstep k i s (by omega) (by rw [hs]; simp; omega)]
    refine ih k (i + 1) _ (by omega) (by omega) ?_
    rw [hs, List.take_succ_eq_append_getElem (by omega)]
    simp [rd, List.getD_eq_getElem?_getD, List.getElem?_eq_getElem (show i < l.length by omega)]
theorem specB2I (k : Nat) (l : List Int) (hl : l.length ≤ 1048576) (hw : ∀ x ∈ l, (Lit.int .u8 x).wf = true) (hk : l.length < k) : spec_BytesToInts.f k l = some ((l.length : Int) :: l) := by
  unfold spec_BytesToInts.f
  refine b2i_loop (fun k i s => spec_BytesToInts.l0 k l s (i : Int)) l (fun k s => ?_) (fun k i s hi hs => ?_) l.length k 0 _ (by omega) hk (by simp)
  · simp only [spec_BytesToInts.l0]
    rw [if_neg (by omega)]
  · simp only [spec_BytesToInts.l0]
    have b := u8_bd hw i
    rw [if_pos (by omega), if_pos (by omega), if_pos (by omega), wrap_nat hi (by omega), show wrap64 (rd l i) = rd l i by unfold wrap64; omega]
theorem implB2I (k : Nat) (l : List Int) (hl : l.length ≤ 1048576) (hw : ∀ x ∈ l, (Lit.int .u8 x).wf = true) (hk : l.length < k) : impl_BytesToInts.f k l = some ((l.length : Int) :: l) := by
  unfold impl_BytesToInts.f
  refine b2i_loop (fun k i s => impl_BytesToInts.l0 k s l (l.length : Int) (i : Int)) l (fun k s => ?_) (fun k i s hi hs => ?_) l.length k 0 _ (by omega) hk (by simp)
  · simp only [impl_BytesToInts.l0]
    rw [if_neg (by omega)]
  · simp only [impl_BytesToInts.l0]
    have b := u8_bd hw i
    rw [if_pos (by omega), if_pos (by omega), if_pos (by omega), if_pos (by omega), wrap_nat hi (by omega), show wrap64 (rd l i) = rd l i by unfold wrap64; omega]
theorem FnExactBytesToInts : laws_FnExactBytesToInts.Pure := by
  intro l _ _ hw
  refine ⟨l.length + 20, ?_⟩
  unfold laws_FnExactBytesToInts.f
  by_cases hl : (l.length : Int) > 1048576
  · rw [if_pos hl]
  rw [if_neg hl]
  have K1 : l.length + 5 < l.length + 20 := by omega
  have K2 : l.length + 5 < l.length + 19 := by omega
  have hr : (((l.length : Int) :: l).length) ≤ l.length + 1 := by simp
  have A1 : ∀ k, l.length + 5 < k → laws_toByteS.f k l = some l := fun k h => toByteS k l (by omega) (by omega)
  have A2 : ∀ k, l.length + 5 < k → laws_eqByteS.f k l l = some (decide (l = l)) := fun k h => eqByteS k l l (by omega) (by omega)
  have A3 : ∀ k, l.length + 5 < k → spec_BytesToInts.f k l = some ((l.length : Int) :: l) := fun k h => specB2I k l (by omega) hw (by omega)
  have A4 : ∀ k, l.length + 5 < k → impl_BytesToInts.f k l = some ((l.length : Int) :: l) := fun k h => implB2I k l (by omega) hw (by omega)
  generalize hg : ((l.length : Int) :: l) = g at A3 A4 hr
  have A5 : ∀ k, l.length + 5 < k → laws_eqIntS.f k g g = some (decide (g = g)) := fun k h => eqIntS k g g (by omega) (by omega)
  have A6 := fun k (h : l.length + 5 < k) => markByteS k l (by omega) (by omega)
  have A7 := fun k (h : l.length + 5 < k) => markIntS k g (by omega) (by omega)
  have A8 := fun k (h : l.length + 5 < k) => heldIntS k g.length (by omega) (by omega)
  simp only [A1 _ K1, A2 _ K1, A3 _ K1, A4 _ K1, A5 _ K1, A6 _ K1, Option.bind_some, decide_true, if_true, one_neg, if_false, Bool.not_true, laws_FnExactBytesToInts.j0, A1 _ K2, A4 _ K2, A5 _ K2, A7 _ K2, A8 _ K2, Bool.false_eq_true]
end Go.Proofs.Ytoblbpgipkmljaa.Pure
