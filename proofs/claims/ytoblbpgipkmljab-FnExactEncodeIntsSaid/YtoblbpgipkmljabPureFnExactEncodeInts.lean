/- The law FnExactEncodeInts answers true for every slice of integers. No condition. -/
import Derived.Test.YtoblbpgipkmljabPFnExactEncodeIntsx2
namespace Go.Proofs.Ytoblbpgipkmljab.Pure
open Go.RowKit Go.Proofs.Ytoblbpgipkmljab.PFnExactEncodeInts Go.Proofs.YtoblbpgipkmljabW.PrintWords Go.Proofs.YtoblbpgipkmljabW.PrintLast Go.Proofs.YtoblbpgipkmljabW.PrintMore
set_option linter.unusedVariables false
set_option linter.unusedSimpArgs false
theorem wrap_nat {m n : Nat} (h : m < n) (hn : n ≤ 140737488351232) : wrap64 ((m : Int) + 1) = ((m + 1 : Nat) : Int) := by
  unfold wrap64
  omega
theorem getD_set_self {α : Type} (l : List α) (i j : Nat) (v d : α) : (l.set i v).getD j d = if i = j ∧ i < l.length then v else l.getD j d := by
  simp only [List.getD_eq_getElem?_getD, List.getElem?_set]
  by_cases h : i = j
  · subst h
    by_cases h2 : i < l.length
    · simp [h2]
    · simp [h2]
  · simp [h]
theorem ext_getD {α : Type} (a b : List α) (d : α) (hl : a.length = b.length) (h : ∀ j, j < b.length → a.getD j d = b.getD j d) : a = b := by
  refine List.ext_getElem hl fun j h1 h2 => ?_
  have := h j h2
  simpa [List.getD_eq_getElem?_getD, List.getElem?_eq_getElem h1, List.getElem?_eq_getElem h2] using this
theorem copy_loop {α : Type} (F : Nat → Nat → List α → Option (List α)) (x0 : List α) (dv : α)
    (hend : ∀ k s, s.length = x0.length → F (k + 1) x0.length s = some s)
    (hstep : ∀ k i s, i < x0.length → s.length = x0.length → F (k + 1) i s = F k (i + 1) (s.set i (x0.getD i dv))) :
    ∀ (d k i : Nat) (s : List α), i + d = x0.length → d < k → s.length = x0.length → (∀ j, j < i → s.getD j dv = x0.getD j dv) → F k i s = some x0 := by
  intro d
  induction d with
  | zero =>
    intro k i s hi hk hs hj
    obtain ⟨k, rfl⟩ : ∃ m, k = m + 1 := ⟨k - 1, by omega⟩
    obtain rfl : i = x0.length := by omega
    rw [hend k s hs, ext_getD s x0 dv hs hj]
  | succ d ih =>
    intro k i s hi hk hs hj
    obtain ⟨k, rfl⟩ : ∃ m, k = m + 1 := ⟨k - 1, by omega⟩
    rw [hstep k i s (by omega) hs]
    refine ih k (i + 1) _ (by omega) (by omega) (by simpa using hs) fun j h => ?_
    rw [getD_set_self]
    by_cases e : i = j
    · subst e
      rw [if_pos ⟨rfl, by omega⟩]
    · rw [if_neg (fun h => e h.1)]
      exact hj j (by omega)
theorem eq_loop {α : Type} [DecidableEq α] (F : Nat → Nat → Option Bool) (x0 x1 : List α) (dv : α) (hl : x0.length = x1.length)
    (hend : ∀ k, F (k + 1) x0.length = some true)
    (hstep : ∀ k i, i < x0.length → F (k + 1) i = if x0.getD i dv = x1.getD i dv then F k (i + 1) else some false) :
    ∀ (d k i : Nat), i + d = x0.length → d < k → F k i = some (decide (x0.drop i = x1.drop i)) := by
  intro d
  induction d with
  | zero =>
    intro k i hi hk
    obtain ⟨k, rfl⟩ : ∃ m, k = m + 1 := ⟨k - 1, by omega⟩
    obtain rfl : i = x0.length := by omega
    rw [hend]
    simp [hl]
  | succ d ih =>
    intro k i hi hk
    obtain ⟨k, rfl⟩ : ∃ m, k = m + 1 := ⟨k - 1, by omega⟩
    have h0 : i < x0.length := by omega
    have h1 : i < x1.length := by omega
    rw [hstep k i h0, ih k (i + 1) (by omega) (by omega), List.drop_eq_getElem_cons h0, List.drop_eq_getElem_cons h1]
    simp only [List.getD_eq_getElem?_getD, List.getElem?_eq_getElem h0, List.getElem?_eq_getElem h1, Option.getD_some, List.cons.injEq]
    by_cases e : x0[i] = x1[i] <;> simp [e]
theorem mark_loop {α : Type} (F : Nat → Nat → List α → Option (Int × List α)) (n : Nat) (val : Nat → α)
    (hend : ∀ k s, s.length = n → F (k + 1) n s = some (1 + (n : Int), s))
    (hstep : ∀ k i s, i < n → s.length = n → F (k + 1) i s = F k (i + 1) (s.set i (val i))) (dv : α) :
    ∀ (d k i : Nat) (s : List α), i + d = n → d < k → s.length = n → (∀ j, j < i → s.getD j dv = val j) → F k i s = some (1 + (n : Int), (List.range n).map val) := by
  intro d
  induction d with
  | zero =>
    intro k i s hi hk hs hj
    obtain ⟨k, rfl⟩ : ∃ m, k = m + 1 := ⟨k - 1, by omega⟩
    obtain rfl : i = n := by omega
    rw [hend k s hs]
    have e : s = (List.range i).map val := ext_getD s _ dv (by simpa using hs) fun j h => by
      have h' : j < i := by simpa using h
      rw [hj j h']
      simp [List.getD_eq_getElem?_getD, h']
    rw [← e]
  | succ d ih =>
    intro k i s hi hk hs hj
    obtain ⟨k, rfl⟩ : ∃ m, k = m + 1 := ⟨k - 1, by omega⟩
    rw [hstep k i s (by omega) hs]
    refine ih k (i + 1) _ (by omega) (by omega) (by simpa using hs) fun j h => ?_
    rw [getD_set_self]
    by_cases e : i = j
    · subst e
      rw [if_pos ⟨rfl, by omega⟩]
    · rw [if_neg (fun h => e h.1)]
      exact hj j (by omega)
theorem held_loop (F : Nat → Nat → Option Int) (n : Nat)
    (hend : ∀ k, F (k + 1) n = some (1 + (n : Int)))
    (hstep : ∀ k i, i < n → F (k + 1) i = F k (i + 1)) :
    ∀ (d k i : Nat), i + d = n → d < k → F k i = some (1 + (n : Int)) := by
  intro d
  induction d with
  | zero =>
    intro k i hi hk
    obtain ⟨k, rfl⟩ : ∃ m, k = m + 1 := ⟨k - 1, by omega⟩
    obtain rfl : i = n := by omega
    exact hend k
  | succ d ih =>
    intro k i hi hk
    obtain ⟨k, rfl⟩ : ∃ m, k = m + 1 := ⟨k - 1, by omega⟩
    rw [hstep k i (by omega)]
    exact ih k (i + 1) (by omega) (by omega)
/-- A loop that counts up, told by its step. -/
def runL {σ ρ : Type} (step : Nat → σ → ρ ⊕ σ) (fin : σ → ρ) : Nat → Nat → σ → ρ
  | 0, _, s => fin s
  | d + 1, i, s => match step i s with
    | .inl r => r
    | .inr s' => runL step fin d (i + 1) s'
theorem loop_run {σ ρ : Type} (F : Nat → Nat → σ → Option ρ) (n : Nat) (step : Nat → σ → ρ ⊕ σ) (fin : σ → ρ) (Inv : Nat → σ → Prop)
    (hend : ∀ k s, Inv n s → F (k + 1) n s = some (fin s))
    (hstep : ∀ k i s, i < n → Inv i s → F (k + 1) i s = match step i s with
      | .inl r => some r
      | .inr s' => F k (i + 1) s')
    (hinv : ∀ i s s', i < n → Inv i s → step i s = .inr s' → Inv (i + 1) s') :
    ∀ (d k i : Nat) (s : σ), i + d = n → d < k → Inv i s → F k i s = some (runL step fin d i s) := by
  intro d
  induction d with
  | zero =>
    intro k i s hi hk hs
    obtain ⟨k, rfl⟩ : ∃ m, k = m + 1 := ⟨k - 1, by omega⟩
    obtain rfl : i = n := by omega
    exact hend k s hs
  | succ d ih =>
    intro k i s hi hk hs
    obtain ⟨k, rfl⟩ : ∃ m, k = m + 1 := ⟨k - 1, by omega⟩
    rw [hstep k i s (by omega) hs]
    unfold runL
    cases e : step i s with
    | inl r => rfl
    | inr s' => exact ih k (i + 1) s' (by omega) (by omega) (hinv i s s' (by omega) hs e)
theorem one_neg (n : Nat) : (1 + (n : Int) < 0) = False := by
  simp
  omega
theorem u8_bds {n : Int} (h : (Lit.int .u8 n).wf = true) : 0 ≤ n ∧ n ≤ 255 := by
  simp [Lit.wf, IntKind.min, IntKind.max, IntKind.signed, IntKind.bits] at h
  omega
theorem i64_bds {n : Int} (h : (Lit.int .i64 n).wf = true) : -9223372036854775808 ≤ n ∧ n ≤ 9223372036854775807 := by
  simp [Lit.wf, IntKind.min, IntKind.max, IntKind.signed, IntKind.bits] at h
  omega
theorem toIntS (k : Nat) (l : List Int) (hl : l.length ≤ 1000000000000) (hk : l.length < k) : laws_toIntS.f k l = some l := by
  unfold laws_toIntS.f
  rw [if_pos (by omega), if_pos (by omega)]
  refine copy_loop (fun k i s => laws_toIntS.l0 k l s (i : Int)) l 0 (fun k s hs => ?_) (fun k i s hi hs => ?_) l.length k 0 _ (by omega) hk (by simp) (fun j h => by omega)
  · simp only [laws_toIntS.l0]
    rw [if_neg (by omega)]
  · simp only [laws_toIntS.l0]
    rw [if_pos (by omega), if_pos (by omega), if_pos (by omega), wrap_nat hi (by omega)]
    simp [rd]
theorem eqByteS (k : Nat) (a b : List Int) (ha : a.length ≤ 1000000000000) (hk : a.length < k) : laws_eqByteS.f k a b = some (decide (a = b)) := by
  unfold laws_eqByteS.f
  by_cases hl : a.length = b.length
  · rw [if_pos (by omega)]
    have h := eq_loop (fun k i => laws_eqByteS.l0 k a b (i : Int)) a b 0 hl (fun k => ?_) (fun k i hi => ?_) a.length k 0 (by omega) hk
    · simpa using h
    · simp only [laws_eqByteS.l0]
      rw [if_neg (by omega)]
    · simp only [laws_eqByteS.l0]
      rw [if_pos (by omega), if_pos (by omega), if_pos (by omega), wrap_nat hi (by omega)]
      simp [rd]
  · rw [if_neg (by omega)]
    have : ¬ a = b := fun e => hl (by rw [e])
    simp [this]
theorem eqIntS (k : Nat) (a b : List Int) (ha : a.length ≤ 1000000000000) (hk : a.length < k) : laws_eqIntS.f k a b = some (decide (a = b)) := by
  unfold laws_eqIntS.f
  by_cases hl : a.length = b.length
  · rw [if_pos (by omega)]
    have h := eq_loop (fun k i => laws_eqIntS.l0 k a b (i : Int)) a b 0 hl (fun k => ?_) (fun k i hi => ?_) a.length k 0 (by omega) hk
    · simpa using h
    · simp only [laws_eqIntS.l0]
      rw [if_neg (by omega)]
    · simp only [laws_eqIntS.l0]
      rw [if_pos (by omega), if_pos (by omega), if_pos (by omega), wrap_nat hi (by omega)]
      simp [rd]
  · rw [if_neg (by omega)]
    have : ¬ a = b := fun e => hl (by rw [e])
    simp [this]
theorem markByteS (k : Nat) (l : List Int) (hl : l.length ≤ 1000000000000) (hk : l.length < k) : laws_markByteS.f k l 1 = some (1 + (l.length : Int), (List.range l.length).map fun (j : Nat) => ((1+(j:Int))%256)) := by
  unfold laws_markByteS.f
  have h := mark_loop (fun k i s => laws_markByteS.l0 k s (1 + (i : Int)) (i : Int)) l.length (fun (j : Nat) => ((1+(j:Int))%256)) (fun k s hs => ?_) (fun k i s hi hs => ?_) 0 l.length k 0 l (by omega) hk rfl (fun j h => by omega)
  · simpa using h
  · simp only [laws_markByteS.l0]
    rw [if_neg (by omega)]
  · simp only [laws_markByteS.l0]
    rw [if_pos (by omega), if_pos (by omega), wrap_nat hi (by omega), show wrap64 (1 + (i : Int) + 1) = 1 + ((i + 1 : Nat) : Int) by unfold wrap64; omega]
    simp
theorem markIntS (k : Nat) (l : List Int) (hl : l.length ≤ 1000000000000) (hk : l.length < k) : laws_markIntS.f k l 1 = some (1 + (l.length : Int), (List.range l.length).map fun (j : Nat) => (1+(j:Int))) := by
  unfold laws_markIntS.f
  have h := mark_loop (fun k i s => laws_markIntS.l0 k s (1 + (i : Int)) (i : Int)) l.length (fun (j : Nat) => (1+(j:Int))) (fun k s hs => ?_) (fun k i s hi hs => ?_) 0 l.length k 0 l (by omega) hk rfl (fun j h => by omega)
  · simpa using h
  · simp only [laws_markIntS.l0]
    rw [if_neg (by omega)]
  · simp only [laws_markIntS.l0]
    rw [if_pos (by omega), if_pos (by omega), wrap_nat hi (by omega), show wrap64 (1 + (i : Int) + 1) = 1 + ((i + 1 : Nat) : Int) by unfold wrap64; omega]
    simp
theorem heldByteS (k n : Nat) (hl : n ≤ 1000000000000) (hk : n < k) : laws_heldByteS.f k ((List.range n).map fun (j : Nat) => ((1+(j:Int))%256)) 1 = some (1 + (n : Int)) := by
  unfold laws_heldByteS.f
  have h := held_loop (fun k i => laws_heldByteS.l0 k ((List.range n).map fun (j : Nat) => ((1+(j:Int))%256)) (1 + (i : Int)) (i : Int)) n (fun k => ?_) (fun k i hi => ?_) n k 0 (by omega) hk
  · simpa using h
  · simp only [laws_heldByteS.l0]
    rw [if_neg (by simp)]
  · simp only [laws_heldByteS.l0]
    rw [if_pos (by simp; omega), if_pos (by omega), wrap_nat hi (by omega), show wrap64 (1 + (i : Int) + 1) = 1 + ((i + 1 : Nat) : Int) by unfold wrap64; omega]
    rw [if_pos (by simp [rd, List.getD_eq_getElem?_getD, hi])]
/-- The bytes of a varint, d of them at most ahead of the last one. -/
def uv : Nat → Int → List Int
  | 0, n => [n % 256]
  | d + 1, n => if n > 127 then ((Go.bits .or .i64 (Go.bits .and .i64 n 127) 128) % 256) :: uv d (n / 128) else [n % 256]
theorem uv_len : ∀ (d : Nat) (n : Int), 1 ≤ (uv d n).length ∧ (uv d n).length ≤ d + 1
  | 0, n => by simp [uv]
  | d + 1, n => by
    have := uv_len d (n / 128)
    unfold uv
    split
    · simp
      omega
    · simp
/-- What both AppendUvarint come to. -/
def appU (l : List Int) (n : Int) : List Int := if 0 ≤ n ∧ n ≤ 1000000000000 then l ++ uv 5 n else l
theorem appU_len (l : List Int) (n : Int) : l.length ≤ (appU l n).length ∧ (appU l n).length ≤ l.length + 6 := by
  unfold appU
  have := uv_len 5 n
  split
  · simp
    omega
  · omega
theorem uv_loop (F : Nat → Int → List Int → Option (List Int))
    (hstep : ∀ k n s, s.length < 140737488355328 → F (k + 1) n s = if n > 127 then F k (n / 128) (s ++ [(Go.bits .or .i64 (Go.bits .and .i64 n 127) 128) % 256]) else some (s ++ [n % 256])) :
    ∀ (d k : Nat) (n : Int) (s : List Int), 0 ≤ n → n < 128 * 128 ^ d → d < k → s.length + d < 140737488355328 → F k n s = some (s ++ uv d n) := by
  intro d
  induction d with
  | zero =>
    intro k n s h0 hn hk hs
    obtain ⟨k, rfl⟩ : ∃ m, k = m + 1 := ⟨k - 1, by omega⟩
    rw [hstep k n s (by omega), if_neg (by simp at hn; omega)]
    rfl
  | succ d ih =>
    intro k n s h0 hn hk hs
    obtain ⟨k, rfl⟩ : ∃ m, k = m + 1 := ⟨k - 1, by omega⟩
    rw [hstep k n s (by omega)]
    unfold uv
    by_cases h : n > 127
    · rw [if_pos h, if_pos h, ih k (n / 128) _ (by omega) (by rw [Int.pow_succ] at hn; omega) (by omega) (by simp; omega)]
      simp
    · rw [if_neg h, if_neg h]
def encFrom (l : List Int) (acc : List Int) : List Int := l.foldl appU acc
def encV (l : List Int) : List Int := encFrom l []
theorem encFrom_len : ∀ (l acc : List Int), acc.length ≤ (encFrom l acc).length ∧ (encFrom l acc).length ≤ acc.length + 6 * l.length
  | [], acc => by simp [encFrom]
  | x :: l, acc => by
    have h := encFrom_len l (appU acc x)
    have h2 := appU_len acc x
    unfold encFrom at h ⊢
    rw [List.foldl_cons, List.length_cons]
    omega
theorem encV_len (l : List Int) : (encV l).length ≤ 6 * l.length := by
  have := encFrom_len l []
  unfold encV
  simp at this
  omega
theorem enc_loop (F : Nat → Nat → List Int → Option (List Int)) (l : List Int) (hl : l.length ≤ 100000000000)
    (hend : ∀ k s, F (k + 1) l.length s = some s)
    (hstep : ∀ k i s, i < l.length → 6 < k → s.length ≤ 6 * i → F (k + 1) i s = F k (i + 1) (appU s (rd l i))) :
    ∀ (d k i : Nat) (s : List Int), i + d = l.length → d + 7 < k → s.length ≤ 6 * i → F k i s = some (encFrom (l.drop i) s) := by
  intro d
  induction d with
  | zero =>
    intro k i s hi hk hs
    obtain ⟨k, rfl⟩ : ∃ m, k = m + 1 := ⟨k - 1, by omega⟩
    obtain rfl : i = l.length := by omega
    rw [hend]
    simp [encFrom]
  | succ d ih =>
    intro k i s hi hk hs
    obtain ⟨k, rfl⟩ : ∃ m, k = m + 1 := ⟨k - 1, by omega⟩
    have h0 : i < l.length := by omega
    have h2 := appU_len s (rd l i)
    rw [hstep k i s h0 (by omega) hs, ih k (i + 1) _ (by omega) (by omega) (by omega), List.drop_eq_getElem_cons h0]
    have e : rd l (i : Int) = l[i] := by simp [rd, List.getD_eq_getElem?_getD, List.getElem?_eq_getElem h0]
    rw [e]
    rfl
theorem inr (a b c : Int) : impl_InRange.f a b c = some (decide (b ≤ a ∧ a ≤ c)) := by
  unfold impl_InRange.f
  by_cases h : b ≤ a <;> simp [h]
theorem l1in (a b c : Int) : spec_l1In.f a b c = some (decide (b ≤ a ∧ a ≤ c)) := by
  unfold spec_l1In.f
  by_cases h : b ≤ a <;> simp [h]
theorem specApp (k : Nat) (l : List Int) (n : Int) (hl : l.length ≤ 1000000000000) (hk : 6 < k) : spec_AppendUvarint.f k l n = some (appU l n) := by
  unfold spec_AppendUvarint.f appU
  simp only [Option.bind_some, List.nil_append, l1in, List.length_nil]
  rw [if_pos (by omega)]
  by_cases h : 0 ≤ n ∧ n ≤ 1000000000000
  · rw [if_pos (by simpa using h), if_pos h]
    refine uv_loop (fun k n s => spec_AppendUvarint.l0 k n s) (fun k n s hs => ?_) 5 k n l h.1 (by omega) (by omega) (by omega)
    simp only [spec_AppendUvarint.l0]
    rw [if_pos hs, if_pos hs]
  · rw [if_neg (by simpa using h), if_neg h]
theorem specEnc (k : Nat) (l : List Int) (hl : l.length ≤ 100000000000) (hk : l.length + 8 < k) : spec_EncodeInts.f k l = some (encV l) := by
  unfold spec_EncodeInts.f encV
  have h := enc_loop (fun k i s => spec_EncodeInts.l0 k l s (i : Int)) l hl (fun k s => ?_) (fun k i s hi hk hs => ?_) l.length k 0 [] (by omega) (by omega) (by simp)
  · simpa using h
  · simp only [spec_EncodeInts.l0]
    rw [if_neg (by omega)]
  · simp only [spec_EncodeInts.l0]
    rw [if_pos (by omega), if_pos (by omega), wrap_nat hi (by omega), specApp k s _ (by omega) hk]
    rfl
theorem cloneB (l : List Int) (hl : l.length ≤ 2000000000000) : slices_Clone_byte_byte.f l = some l := by
  unfold slices_Clone_byte_byte.f
  rw [if_pos (by omega)]
theorem implApp (k : Nat) (l : List Int) (n : Int) (hl : l.length ≤ 1000000000000) (hk : 6 < k) : impl_AppendUvarint.f k l n = some (appU l n) := by
  unfold impl_AppendUvarint.f appU
  simp only [cloneB l (by omega), Option.bind_some, inr]
  by_cases h : 0 ≤ n ∧ n ≤ 1000000000000
  · rw [if_pos (by simpa using h), if_pos h]
    refine uv_loop (fun k n s => impl_AppendUvarint.l0 k n s) (fun k n s hs => ?_) 5 k n l h.1 (by omega) (by omega) (by omega)
    simp only [impl_AppendUvarint.l0]
    rw [if_pos hs, if_pos hs]
  · rw [if_neg (by simpa using h), if_neg h]
theorem implEnc (k : Nat) (l : List Int) (hl : l.length ≤ 100000000000) (hk : l.length + 8 < k) : impl_EncodeInts.f k l = some (encV l) := by
  unfold impl_EncodeInts.f encV
  have h := enc_loop (fun k i s => impl_EncodeInts.l0 k s l (l.length : Int) (i : Int)) l hl (fun k s => ?_) (fun k i s hi hk hs => ?_) l.length k 0 [] (by omega) (by omega) (by simp)
  · simpa using h
  · simp only [impl_EncodeInts.l0]
    rw [if_neg (by omega)]
  · simp only [impl_EncodeInts.l0]
    rw [if_pos (by omega), if_pos (by omega), if_pos (by omega), wrap_nat hi (by omega), implApp k s _ (by omega) hk]
    rfl
theorem FnExactEncodeInts : laws_FnExactEncodeInts.Pure := by
  intro l _ _ hw
  refine ⟨(l).length + (encV l).length + 30, ?_⟩
  unfold laws_FnExactEncodeInts.f
  by_cases hl : (l.length : Int) > 1048576
  · rw [if_pos hl]
  rw [if_neg hl]
  have K1 : (l).length + (encV l).length + 15 < (l).length + (encV l).length + 30 := by omega
  have K2 : (l).length + (encV l).length + 15 < (l).length + (encV l).length + 29 := by omega
  have hr : (encV l).length ≤ 6 * l.length := by have := encV_len l; omega
  have T0 : ∀ k, (l).length + (encV l).length + 15 < k → laws_toIntS.f k l = some l := fun k h => toIntS k l (by omega) (by omega)
  have E0 : ∀ k, (l).length + (encV l).length + 15 < k → laws_eqIntS.f k l l = some (decide (l = l)) := fun k h => eqIntS k l l (by omega) (by omega)
  have M0 := fun k (h : (l).length + (encV l).length + 15 < k) => markIntS k l (by omega) (by omega)
  have S : ∀ k, (l).length + (encV l).length + 15 < k → spec_EncodeInts.f k l = some (encV l) := fun k h => specEnc k l (by omega) (by omega)
  have I : ∀ k, (l).length + (encV l).length + 15 < k → impl_EncodeInts.f k l = some (encV l) := fun k h => implEnc k l (by omega) (by omega)
  generalize hg : (encV l) = g at *
  have EG : ∀ k, (l).length + g.length + 15 < k → laws_eqByteS.f k g g = some (decide (g = g)) := fun k h => eqByteS k g g (by omega) (by omega)
  have MG := fun k (h : (l).length + g.length + 15 < k) => markByteS k g (by omega) (by omega)
  have HG := fun k (h : (l).length + g.length + 15 < k) => heldByteS k g.length (by omega) (by omega)
  clear hg
  simp only [T0 _ K1, E0 _ K1, M0 _ K1, S _ K1, I _ K1, EG _ K1, Option.bind_some, decide_true, if_true, one_neg, if_false, Bool.not_true, laws_FnExactEncodeInts.j0, T0 _ K2, E0 _ K2, M0 _ K2, I _ K2, EG _ K2, MG _ K2, HG _ K2, Bool.false_eq_true]
end Go.Proofs.Ytoblbpgipkmljab.Pure
