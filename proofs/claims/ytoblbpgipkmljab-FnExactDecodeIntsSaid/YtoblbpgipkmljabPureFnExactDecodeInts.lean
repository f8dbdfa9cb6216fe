/- The law FnExactDecodeInts answers true for every byte slice, offset and count. No condition. -/
import Derived.Test.YtoblbpgipkmljabPFnExactDecodeIntsx4
namespace Go.Proofs.Ytoblbpgipkmljab.Pure
open Go.RowKit Go.Proofs.Ytoblbpgipkmljab.PFnExactDecodeInts Go.Proofs.YtoblbpgipkmljabW.PrintWords Go.Proofs.YtoblbpgipkmljabW.PrintLast Go.Proofs.YtoblbpgipkmljabW.PrintMore
set_option linter.unusedVariables false
set_option linter.unusedSimpArgs false
theorem inr (a b c : Int) : impl_InRange.f a b c = some (decide (b ≤ a ∧ a ≤ c)) := by
  unfold impl_InRange.f
  by_cases h : b ≤ a <;> simp [h]
theorem l1in (a b c : Int) : spec_l1In.f a b c = some (decide (b ≤ a ∧ a ≤ c)) := by
  unfold spec_l1In.f
  by_cases h : b ≤ a <;> simp [h]
theorem wrap_nat {m n : Nat} (h : m < n) (hn : n ≤ 140737488351232) : wrap64 ((m : Int) + 1) = ((m + 1 : Nat) : Int) := by
  unfold wrap64
  omega
theorem getD_set_self {α : Type} (l : List α) (i j : Nat) (v d : α) : (l.set i v).getD j d = if i = j ∧ i < l.length then v else l.getD j d := by
  simp only [List.getD_eq_getElem?_getD, List.getElem?_set]
  by_cases h : i = j
  · subst h
    by_cases h2 : i < l.length
    · simp [h2]
    · simp [h2]
  · simp [h]
theorem ext_getD {α : Type} (a b : List α) (d : α) (hl : a.length = b.length) (h : ∀ j, j < b.length → a.getD j d = b.getD j d) : a = b := by
  refine List.ext_getElem hl fun j h1 h2 => ?_
  have := h j h2
  simpa [List.getD_eq_getElem?_getD, List.getElem?_eq_getElem h1, List.getElem?_eq_getElem h2] using this
theorem copy_loop {α : Type} (F : Nat → Nat → List α → Option (List α)) (x0 : List α) (dv : α)
    (hend : ∀ k s, s.length = x0.length → F (k + 1) x0.length s = some s)
    (hstep : ∀ k i s, i < x0.length → s.length = x0.length → F (k + 1) i s = F k (i + 1) (s.set i (x0.getD i dv))) :
    ∀ (d k i : Nat) (s : List α), i + d = x0.length → d < k → s.length = x0.length → (∀ j, j < i → s.getD j dv = x0.getD j dv) → F k i s = some x0 := by
  intro d
  induction d with
  | zero =>
    intro k i s hi hk hs hj
    obtain ⟨k, rfl⟩ : ∃ m, k = m + 1 := ⟨k - 1, by omega⟩
    obtain rfl : i = x0.length := by omega
    rw [hend k s hs, ext_getD s x0 dv hs hj]
  | succ d ih =>
    intro k i s hi hk hs hj
    obtain ⟨k, rfl⟩ : ∃ m, k = m + 1 := ⟨k - 1, by omega⟩
    rw [hstep k i s (by omega) hs]
    refine ih k (i + 1) _ (by omega) (by omega) (by simpa using hs) fun j h => ?_
    rw [getD_set_self]
    by_cases e : i = j
    · subst e
      rw [if_pos ⟨rfl, by omega⟩]
    · rw [if_neg (fun h => e h.1)]
      exact hj j (by omega)
theorem eq_loop {α : Type} [DecidableEq α] (F : Nat → Nat → Option Bool) (x0 x1 : List α) (dv : α) (hl : x0.length = x1.length)
    (hend : ∀ k, F (k + 1) x0.length = some true)
    (hstep : ∀ k i, i < x0.length → F (k + 1) i = if x0.getD i dv = x1.getD i dv then F k (i + 1) else some false) :
    ∀ (d k i : Nat), i + d = x0.length → d < k → F k i = some (decide (x0.drop i = x1.drop i)) := by
  intro d
  induction d with
  | zero =>
    intro k i hi hk
    obtain ⟨k, rfl⟩ : ∃ m, k = m + 1 := ⟨k - 1, by omega⟩
    obtain rfl : i = x0.length := by omega
    rw [hend]
    simp [hl]
  | succ d ih =>
    intro k i hi hk
    obtain ⟨k, rfl⟩ : ∃ m, k = m + 1 := ⟨k - 1, by omega⟩
    have h0 : i < x0.length := by omega
    have h1 : i < x1.length := by omega
    rw [hstep k i h0, ih k (i + 1) (by omega) (by omega), List.drop_eq_getElem_cons h0, List.drop_eq_getElem_cons h1]
    simp only [List.getD_eq_getElem?_getD, List.getElem?_eq_getElem h0, List.getElem?_eq_getElem h1, Option.getD_some, List.cons.injEq]
    by_cases e : x0[i] = x1[i] <;> simp [e]
theorem mark_loop {α : Type} (F : Nat → Nat → List α → Option (Int × List α)) (n : Nat) (val : Nat → α)
    (hend : ∀ k s, s.length = n → F (k + 1) n s = some (1 + (n : Int), s))
    (hstep : ∀ k i s, i < n → s.length = n → F (k + 1) i s = F k (i + 1) (s.set i (val i))) (dv : α) :
    ∀ (d k i : Nat) (s : List α), i + d = n → d < k → s.length = n → (∀ j, j < i → s.getD j dv = val j) → F k i s = some (1 + (n : Int), (List.range n).map val) := by
  intro d
  induction d with
  | zero =>
    intro k i s hi hk hs hj
    obtain ⟨k, rfl⟩ : ∃ m, k = m + 1 := ⟨k - 1, by omega⟩
    obtain rfl : i = n := by omega
    rw [hend k s hs]
    have e : s = (List.range i).map val := ext_getD s _ dv (by simpa using hs) fun j h => by
      have h' : j < i := by simpa using h
      rw [hj j h']
      simp [List.getD_eq_getElem?_getD, h']
    rw [← e]
  | succ d ih =>
    intro k i s hi hk hs hj
    obtain ⟨k, rfl⟩ : ∃ m, k = m + 1 := ⟨k - 1, by omega⟩
    rw [hstep k i s (by omega) hs]
    refine ih k (i + 1) _ (by omega) (by omega) (by simpa using hs) fun j h => ?_
    rw [getD_set_self]
    by_cases e : i = j
    · subst e
      rw [if_pos ⟨rfl, by omega⟩]
    · rw [if_neg (fun h => e h.1)]
      exact hj j (by omega)
theorem held_loop (F : Nat → Nat → Option Int) (n : Nat)
    (hend : ∀ k, F (k + 1) n = some (1 + (n : Int)))
    (hstep : ∀ k i, i < n → F (k + 1) i = F k (i + 1)) :
    ∀ (d k i : Nat), i + d = n → d < k → F k i = some (1 + (n : Int)) := by
  intro d
  induction d with
  | zero =>
    intro k i hi hk
    obtain ⟨k, rfl⟩ : ∃ m, k = m + 1 := ⟨k - 1, by omega⟩
    obtain rfl : i = n := by omega
    exact hend k
  | succ d ih =>
    intro k i hi hk
    obtain ⟨k, rfl⟩ : ∃ m, k = m + 1 := ⟨k - 1, by omega⟩
    rw [hstep k i (by omega)]
    exact ih k (i + 1) (by omega) (by omega)
/-- A loop that counts up, told by its step. -/
def runL {σ ρ : Type} (step : Nat → σ → ρ ⊕ σ) (fin : σ → ρ) : Nat → Nat → σ → ρ
  | 0, _, s => fin s
  | d + 1, i, s => match step i s with
    | .inl r => r
    | .inr s' => runL step fin d (i + 1) s'
theorem loop_run {σ ρ : Type} (F : Nat → Nat → σ → Option ρ) (n : Nat) (step : Nat → σ → ρ ⊕ σ) (fin : σ → ρ) (Inv : Nat → σ → Prop)
    (hend : ∀ k s, Inv n s → F (k + 1) n s = some (fin s))
    (hstep : ∀ k i s, i < n → Inv i s → F (k + 1) i s = match step i s with
      | .inl r => some r
      | .inr s' => F k (i + 1) s')
    (hinv : ∀ i s s', i < n → Inv i s → step i s = .inr s' → Inv (i + 1) s') :
    ∀ (d k i : Nat) (s : σ), i + d = n → d < k → Inv i s → F k i s = some (runL step fin d i s) := by
  intro d
  induction d with
  | zero =>
    intro k i s hi hk hs
    obtain ⟨k, rfl⟩ : ∃ m, k = m + 1 := ⟨k - 1, by omega⟩
    obtain rfl : i = n := by omega
    exact hend k s hs
  | succ d ih =>
    intro k i s hi hk hs
    obtain ⟨k, rfl⟩ : ∃ m, k = m + 1 := ⟨k - 1, by omega⟩
    rw [hstep k i s (by omega) hs]
    unfold runL
    cases e : step i s with
    | inl r => rfl
    | inr s' => exact ih k (i + 1) s' (by omega) (by omega) (hinv i s s' (by omega) hs e)
theorem one_neg (n : Nat) : (1 + (n : Int) < 0) = False := by
  simp
  omega
theorem u8_bds {n : Int} (h : (Lit.int .u8 n).wf = true) : 0 ≤ n ∧ n ≤ 255 := by
  simp [Lit.wf, IntKind.min, IntKind.max, IntKind.signed, IntKind.bits] at h
  omega
theorem i64_bds {n : Int} (h : (Lit.int .i64 n).wf = true) : -9223372036854775808 ≤ n ∧ n ≤ 9223372036854775807 := by
  simp [Lit.wf, IntKind.min, IntKind.max, IntKind.signed, IntKind.bits] at h
  omega
theorem tmod_bd (a : Int) {b : Int} (hb : 0 < b) : -b < Int.tmod a b ∧ Int.tmod a b < b := by
  by_cases h : 0 ≤ a
  · rw [Int.tmod_eq_emod_of_nonneg h]
    have := Int.emod_nonneg a (show b ≠ 0 by omega)
    have := Int.emod_lt_of_pos a hb
    omega
  · have e : Int.tmod a b = -(Int.tmod (-a) b) := by rw [Int.neg_tmod]; omega
    rw [e, Int.tmod_eq_emod_of_nonneg (by omega)]
    have := Int.emod_nonneg (-a) (show b ≠ 0 by omega)
    have := Int.emod_lt_of_pos (-a) hb
    omega
theorem toByteS (k : Nat) (l : List Int) (hl : l.length ≤ 1000000000000) (hk : l.length < k) : laws_toByteS.f k l = some l := by
  unfold laws_toByteS.f
  rw [if_pos (by omega), if_pos (by omega)]
  refine copy_loop (fun k i s => laws_toByteS.l0 k l s (i : Int)) l 0 (fun k s hs => ?_) (fun k i s hi hs => ?_) l.length k 0 _ (by omega) hk (by simp) (fun j h => by omega)
  · simp only [laws_toByteS.l0]
    rw [if_neg (by omega)]
  · simp only [laws_toByteS.l0]
    rw [if_pos (by omega), if_pos (by omega), if_pos (by omega), wrap_nat hi (by omega)]
    simp [rd]
theorem eqByteS (k : Nat) (a b : List Int) (ha : a.length ≤ 1000000000000) (hk : a.length < k) : laws_eqByteS.f k a b = some (decide (a = b)) := by
  unfold laws_eqByteS.f
  by_cases hl : a.length = b.length
  · rw [if_pos (by omega)]
    have h := eq_loop (fun k i => laws_eqByteS.l0 k a b (i : Int)) a b 0 hl (fun k => ?_) (fun k i hi => ?_) a.length k 0 (by omega) hk
    · simpa using h
    · simp only [laws_eqByteS.l0]
      rw [if_neg (by omega)]
    · simp only [laws_eqByteS.l0]
      rw [if_pos (by omega), if_pos (by omega), if_pos (by omega), wrap_nat hi (by omega)]
      simp [rd]
  · rw [if_neg (by omega)]
    have : ¬ a = b := fun e => hl (by rw [e])
    simp [this]
theorem eqIntS (k : Nat) (a b : List Int) (ha : a.length ≤ 1000000000000) (hk : a.length < k) : laws_eqIntS.f k a b = some (decide (a = b)) := by
  unfold laws_eqIntS.f
  by_cases hl : a.length = b.length
  · rw [if_pos (by omega)]
    have h := eq_loop (fun k i => laws_eqIntS.l0 k a b (i : Int)) a b 0 hl (fun k => ?_) (fun k i hi => ?_) a.length k 0 (by omega) hk
    · simpa using h
    · simp only [laws_eqIntS.l0]
      rw [if_neg (by omega)]
    · simp only [laws_eqIntS.l0]
      rw [if_pos (by omega), if_pos (by omega), if_pos (by omega), wrap_nat hi (by omega)]
      simp [rd]
  · rw [if_neg (by omega)]
    have : ¬ a = b := fun e => hl (by rw [e])
    simp [this]
theorem markByteS (k : Nat) (l : List Int) (hl : l.length ≤ 1000000000000) (hk : l.length < k) : laws_markByteS.f k l 1 = some (1 + (l.length : Int), (List.range l.length).map fun (j : Nat) => ((1+(j:Int))%256)) := by
  unfold laws_markByteS.f
  have h := mark_loop (fun k i s => laws_markByteS.l0 k s (1 + (i : Int)) (i : Int)) l.length (fun (j : Nat) => ((1+(j:Int))%256)) (fun k s hs => ?_) (fun k i s hi hs => ?_) 0 l.length k 0 l (by omega) hk rfl (fun j h => by omega)
  · simpa using h
  · simp only [laws_markByteS.l0]
    rw [if_neg (by omega)]
  · simp only [laws_markByteS.l0]
    rw [if_pos (by omega), if_pos (by omega), wrap_nat hi (by omega), show wrap64 (1 + (i : Int) + 1) = 1 + ((i + 1 : Nat) : Int) by unfold wrap64; omega]
    simp
theorem markIntS (k : Nat) (l : List Int) (hl : l.length ≤ 1000000000000) (hk : l.length < k) : laws_markIntS.f k l 1 = some (1 + (l.length : Int), (List.range l.length).map fun (j : Nat) => (1+(j:Int))) := by
  unfold laws_markIntS.f
  have h := mark_loop (fun k i s => laws_markIntS.l0 k s (1 + (i : Int)) (i : Int)) l.length (fun (j : Nat) => (1+(j:Int))) (fun k s hs => ?_) (fun k i s hi hs => ?_) 0 l.length k 0 l (by omega) hk rfl (fun j h => by omega)
  · simpa using h
  · simp only [laws_markIntS.l0]
    rw [if_neg (by omega)]
  · simp only [laws_markIntS.l0]
    rw [if_pos (by omega), if_pos (by omega), wrap_nat hi (by omega), show wrap64 (1 + (i : Int) + 1) = 1 + ((i + 1 : Nat) : Int) by unfold wrap64; omega]
    simp
theorem heldIntS (k n : Nat) (hl : n ≤ 1000000000000) (hk : n < k) : laws_heldIntS.f k ((List.range n).map fun (j : Nat) => (1+(j:Int))) 1 = some (1 + (n : Int)) := by
  unfold laws_heldIntS.f
  have h := held_loop (fun k i => laws_heldIntS.l0 k ((List.range n).map fun (j : Nat) => (1+(j:Int))) (1 + (i : Int)) (i : Int)) n (fun k => ?_) (fun k i hi => ?_) n k 0 (by omega) hk
  · simpa using h
  · simp only [laws_heldIntS.l0]
    rw [if_neg (by simp)]
  · simp only [laws_heldIntS.l0]
    rw [if_pos (by simp; omega), if_pos (by omega), wrap_nat hi (by omega), show wrap64 (1 + (i : Int) + 1) = 1 + ((i + 1 : Nat) : Int) by unfold wrap64; omega]
    rw [if_pos (by simp [rd, List.getD_eq_getElem?_getD, hi])]
def rdStep (l : List Int) (a : Int) (i : Nat) (n : Int) : (Int × Int × Bool) ⊕ Int :=
  if a + i ≥ l.length then .inl (0, 0, false)
  else if rd l (a + i) < 128 then
    if (0 < i ∧ rd l (a + i) = 0) ∨ Go.bits .or .i64 n (shl .i64 (Go.bits .and .i64 (rd l (a + i)) 127) (7 * i)) > 1000000000000 then .inl (0, 0, false)
    else .inl (Go.bits .or .i64 n (shl .i64 (Go.bits .and .i64 (rd l (a + i)) 127) (7 * i)), a + i + 1, true)
  else .inr (Go.bits .or .i64 n (shl .i64 (Go.bits .and .i64 (rd l (a + i)) 127) (7 * i)))
/-- What both ReadUvarint come to. -/
def readU (l : List Int) (a : Int) : Int × Int × Bool :=
  if 0 ≤ a ∧ a < l.length then runL (rdStep l a) (fun _ => (0, 0, false)) 6 0 0 else (0, 0, false)
theorem u8_bd {l : List Int} (h : ∀ x ∈ l, (Lit.int .u8 x).wf = true) (j : Int) : 0 ≤ rd l j ∧ rd l j ≤ 255 := by
  unfold rd
  rw [List.getD_eq_getElem?_getD]
  by_cases hj : j.toNat < l.length
  · rw [List.getElem?_eq_getElem hj]
    exact u8_bds (h _ (List.getElem_mem _))
  · rw [List.getElem?_eq_none (by omega)]
    exact ⟨Int.le_refl 0, by decide⟩
theorem wraps62 (n : Int) (h0 : 0 ≤ n) (h1 : n < 2 ^ 62) : IntKind.i64.wrap n = n := by
  rw [IntKind.wrap_i64]
  omega
theorem and127 (c : Int) (h0 : 0 ≤ c) (h1 : c < 2 ^ 62) : Go.bits .and .i64 c 127 = c % 128 := bits_mask .i64 62 (by decide) wraps62 7 (by decide) c h0 h1
theorem or_low (n s : Int) (j : Nat) (hj : j ≤ 62) (h0 : 0 ≤ n) (h1 : n < 2 ^ j) (hs0 : 0 ≤ s) (hs : s % 2 ^ j = 0) (hs1 : s < 2 ^ 62) : Go.bits .or .i64 n s = n + s := by
  have hn : n < 2 ^ 62 := Int.lt_of_lt_of_le h1 (by have h := Nat.pow_le_pow_right (show 0 < 2 by decide) hj; exact_mod_cast h)
  have e := bits_join .i64 62 (by decide) wraps62 j s n hs0 hs hs1 h0 h1 hn
  obtain ⟨a, rfl⟩ := Int.eq_ofNat_of_zero_le h0
  obtain ⟨b, rfl⟩ := Int.eq_ofNat_of_zero_le hs0
  have ha : a < 2 ^ 62 := by exact_mod_cast hn
  have hb : b < 2 ^ 62 := by exact_mod_cast hs1
  rw [(bits_nat .i64 62 (by decide) wraps62 a b ha hb).2]
  rw [(bits_nat .i64 62 (by decide) wraps62 b a hb ha).2] at e
  rw [Nat.or_comm, e]
  omega
/-- What a byte adds to a varint's number. -/
theorem comb_eq (n c : Int) (i : Nat) (hi : i < 6) (h0 : 0 ≤ n) (h1 : n < 2 ^ (7 * i)) (hc : 0 ≤ c ∧ c ≤ 255) :
    Go.bits .or .i64 n (shl .i64 (Go.bits .and .i64 c 127) (7 * (i : Int))) = n + c % 128 * 2 ^ (7 * i) := by
  rw [and127 c hc.1 (by omega)]
  have hm : 0 ≤ c % 128 ∧ c % 128 < 128 := ⟨by omega, by omega⟩
  generalize c % 128 = m at hm
  have e : shl .i64 m (7 * (i : Int)) = m * 2 ^ (7 * i) := by
    unfold shl
    have : min (7 * (i : Int)).toNat IntKind.i64.bits = 7 * i := by
      show min (7 * (i : Int)).toNat 64 = 7 * i
      omega
    rw [this]
    have hi' : i = 0 ∨ i = 1 ∨ i = 2 ∨ i = 3 ∨ i = 4 ∨ i = 5 := by omega
    rcases hi' with rfl | rfl | rfl | rfl | rfl | rfl <;> exact wraps62 _ (by simp; omega) (by simp; omega)
  rw [e]
  have hi' : i = 0 ∨ i = 1 ∨ i = 2 ∨ i = 3 ∨ i = 4 ∨ i = 5 := by omega
  refine or_low n _ (7 * i) (by omega) h0 h1 (by rcases hi' with rfl | rfl | rfl | rfl | rfl | rfl <;> simp <;> omega) (Int.mul_emod_left _ _) ?_
  rcases hi' with rfl | rfl | rfl | rfl | rfl | rfl <;> simp <;> omega
theorem and_mask (x : Int) (m : Nat) (hm : m < 2 ^ 31) : 0 ≤ Go.bits .and .i64 x m ∧ Go.bits .and .i64 x m ≤ m := by
  have h : (BitVec.ofInt 64 x &&& BitVec.ofInt 64 (m : Int)).toNat ≤ m := by
    rw [BitVec.toNat_and]
    refine Nat.le_trans Nat.and_le_right ?_
    rw [BitVec.ofInt_natCast, BitVec.toNat_ofNat]
    exact Nat.mod_le _ _
  have e : Go.bits .and .i64 x m = (((BitVec.ofInt 64 x &&& BitVec.ofInt 64 (m : Int)).toNat : Nat) : Int) := by
    simp only [Go.bits]
    show IntKind.i64.wrap (((BitVec.ofInt 64 x &&& BitVec.ofInt 64 (m : Int)).toNat : Nat) : Int) = _
    exact wraps62 _ (by omega) (by omega)
  rw [e]
  omega
theorem read_loop (l : List Int) (a : Int) (hw : ∀ x ∈ l, (Lit.int .u8 x).wf = true) (h0 : 0 ≤ a) : ∀ (d i : Nat) (n : Int), i + d = 6 → 0 ≤ n → n < 2 ^ (7 * i) →
    ∀ v nx, runL (rdStep l a) (fun _ => (0, 0, false)) d i n = (v, nx, true) → 0 ≤ v ∧ v ≤ 1000000000000 ∧ a < nx ∧ nx ≤ l.length ∧ nx ≤ a + 6 := by
  intro d
  induction d with
  | zero => intro i n _ _ _ v nx h; simp [runL] at h
  | succ d ih =>
    intro i n hi hn0 hn1 v nx h
    have b := u8_bd hw (a + i)
    have e := comb_eq n (rd l (a + i)) i (by omega) hn0 hn1 b
    have hp : (0 : Int) < 2 ^ (7 * i) := Int.pow_pos (by decide)
    have hm : 0 ≤ rd l (a + i) % 128 ∧ rd l (a + i) % 128 < 128 := ⟨by omega, by omega⟩
    have hv0 : 0 ≤ n + rd l (a + i) % 128 * 2 ^ (7 * i) := Int.add_nonneg hn0 (Int.mul_nonneg hm.1 (Int.le_of_lt hp))
    have hv1 : n + rd l (a + i) % 128 * 2 ^ (7 * i) < 2 ^ (7 * (i + 1)) := by
      have h2 : (2 : Int) ^ (7 * (i + 1)) = 128 * 2 ^ (7 * i) := by rw [Nat.mul_add, Int.pow_add]; omega
      have h3 : rd l (a + i) % 128 * 2 ^ (7 * i) ≤ 127 * 2 ^ (7 * i) := Int.mul_le_mul_of_nonneg_right (by omega) (Int.le_of_lt hp)
      omega
    unfold runL rdStep at h
    rw [e] at h
    by_cases h1 : a + i ≥ l.length
    · rw [if_pos h1] at h
      simp at h
    · rw [if_neg h1] at h
      by_cases h2 : rd l (a + i) < 128
      · rw [if_pos h2] at h
        by_cases h3 : (0 < i ∧ rd l (a + i) = 0) ∨ n + rd l (a + i) % 128 * 2 ^ (7 * i) > 1000000000000
        · rw [if_pos h3] at h
          simp at h
        · rw [if_neg h3] at h
          simp only [Prod.mk.injEq] at h
          obtain ⟨rfl, rfl, _⟩ := h
          have : ¬ n + rd l (a + i) % 128 * 2 ^ (7 * i) > 1000000000000 := fun h => h3 (Or.inr h)
          exact ⟨hv0, by omega, by omega, by omega, by omega⟩
      · rw [if_neg h2] at h
        exact ih (i + 1) _ (by omega) hv0 hv1 v nx h
theorem readU_ok (l : List Int) (a : Int) (hw : ∀ x ∈ l, (Lit.int .u8 x).wf = true) (h : (readU l a).2.2 = true) :
    0 ≤ (readU l a).1 ∧ (readU l a).1 ≤ 1000000000000 ∧ 0 ≤ a ∧ a < (readU l a).2.1 ∧ (readU l a).2.1 ≤ l.length := by
  unfold readU at h ⊢
  by_cases h0 : 0 ≤ a ∧ a < l.length
  · rw [if_pos h0] at h ⊢
    have := read_loop l a hw h0.1 6 0 0 rfl (by decide) (by decide) _ _ (Prod.ext rfl (Prod.ext rfl h))
    exact ⟨this.1, this.2.1, h0.1, this.2.2.1, this.2.2.2.1⟩
  · rw [if_neg h0] at h
    simp at h
theorem readU_no (l : List Int) (a : Int) (h : (readU l a).2.2 = false) : readU l a = (0, 0, false) := by
  unfold readU at h ⊢
  by_cases h0 : 0 ≤ a ∧ a < l.length
  · rw [if_pos h0] at h ⊢
    have key : ∀ (d i : Nat) (n : Int), (runL (rdStep l a) (fun _ => ((0 : Int), (0 : Int), false)) d i n).2.2 = false → runL (rdStep l a) (fun _ => (0, 0, false)) d i n = (0, 0, false) := by
      intro d
      induction d with
      | zero => intro i n _; rfl
      | succ d ih =>
        intro i n h
        unfold runL rdStep at h ⊢
        by_cases h1 : a + i ≥ l.length
        · rw [if_pos h1]
        · rw [if_neg h1] at h ⊢
          by_cases h2 : rd l (a + i) < 128
          · rw [if_pos h2] at h ⊢
            by_cases h3 : (0 < i ∧ rd l (a + i) = 0) ∨ Go.bits .or .i64 n (shl .i64 (Go.bits .and .i64 (rd l (a + i)) 127) (7 * i)) > 1000000000000
            · rw [if_pos h3]
            · rw [if_neg h3] at h
              simp at h
          · rw [if_neg h2] at h ⊢
            exact ih _ _ h
    exact key 6 0 0 h
  · rw [if_neg h0]
/-- What both ReadBytes come to. -/
def readB (l : List Int) (a m : Int) : List Int × Int × Bool :=
  if (readU l a).2.2 = true ∧ (readU l a).1 ≤ m ∧ (readU l a).1 ≤ l.length - (readU l a).2.1 then
    ((l.take ((readU l a).2.1 + (readU l a).1).toNat).drop (readU l a).2.1.toNat, (readU l a).2.1 + (readU l a).1, true)
  else ([], 0, false)
theorem readB_len (l : List Int) (a m : Int) : (readB l a m).1.length ≤ l.length := by
  unfold readB
  split
  · simp
    omega
  · simp
/-- One step of both DecodeInts: the offset, what has been read. -/
def decStep (l : List Int) (_ : Nat) (s : Int × List Int) : (List Int × Int × Bool) ⊕ (Int × List Int) :=
  if (readU l s.1).2.2 = true then .inr ((readU l s.1).2.1, s.2 ++ [(readU l s.1).1]) else .inl ([], 0, false)
def decV (l : List Int) (a c : Int) : List Int × Int × Bool :=
  if (0 ≤ c ∧ c ≤ 100) ∧ (0 ≤ a ∧ a ≤ l.length) then runL (decStep l) (fun s => (s.2, s.1, true)) c.toNat 0 (a, []) else ([], 0, false)
theorem dec_loop (F : Nat → Nat → Int × List Int → Option (List Int × Int × Bool)) (l : List Int) (n : Nat) (hn : n ≤ 100) (hl : l.length ≤ 1000000000000) (hw : ∀ x ∈ l, (Lit.int .u8 x).wf = true)
    (hend : ∀ k s, F (k + 1) n s = some (s.2, s.1, true))
    (hstep : ∀ k i s, i < n → 20 < k → 0 ≤ s.1 → s.1 ≤ (l.length : Int) → s.2.length = i → F (k + 1) i s = match decStep l i s with
      | .inl r => some r
      | .inr s' => F k (i + 1) s') :
    ∀ (d k i : Nat) (s : Int × List Int), i + d = n → d + 21 < k → 0 ≤ s.1 → s.1 ≤ (l.length : Int) → s.2.length = i → F k i s = some (runL (decStep l) (fun s => (s.2, s.1, true)) d i s) := by
  intro d
  induction d with
  | zero =>
    intro k i s hi hk h0 h1 h2
    obtain ⟨k, rfl⟩ : ∃ m, k = m + 1 := ⟨k - 1, by omega⟩
    obtain rfl : i = n := by omega
    exact hend k s
  | succ d ih =>
    intro k i s hi hk h0 h1 h2
    obtain ⟨k, rfl⟩ : ∃ m, k = m + 1 := ⟨k - 1, by omega⟩
    rw [hstep k i s (by omega) (by omega) h0 h1 h2]
    have ok := readU_ok l s.1 hw
    unfold runL decStep
    by_cases h : (readU l s.1).2.2 = true
    · have o := ok h
      rw [if_pos h]
      exact ih k (i + 1) _ (by omega) (by omega) (by show 0 ≤ (readU l s.1).2.1; omega) (by show (readU l s.1).2.1 ≤ (l.length : Int); omega) (by simp [h2])
    · rw [if_neg h]
theorem dec_range (l : List Int) : ∀ (d i : Nat) (s : Int × List Int), s.2.length ≤ i → (runL (decStep l) (fun s => (s.2, s.1, true)) d i s).1.length ≤ i + d
  | 0, i, s, h => by simpa [runL] using h
  | d + 1, i, s, h => by
    unfold runL decStep
    by_cases h1 : (readU l s.1).2.2 = true
    · rw [if_pos h1]
      have := dec_range l d (i + 1) ((readU l s.1).2.1, s.2 ++ [(readU l s.1).1]) (by simpa using h)
      show (runL (decStep l) (fun s => (s.2, s.1, true)) d (i + 1) ((readU l s.1).2.1, s.2 ++ [(readU l s.1).1])).1.length ≤ _
      omega
    · rw [if_neg h1]
      simp
theorem decV_len (l : List Int) (a c : Int) : (decV l a c).1.length ≤ 100 := by
  unfold decV
  by_cases h : (0 ≤ c ∧ c ≤ 100) ∧ (0 ≤ a ∧ a ≤ l.length)
  · rw [if_pos h]
    have := dec_range l c.toNat 0 (a, []) (by simp)
    omega
  · rw [if_neg h]
    simp
theorem specRead (l : List Int) (hl : l.length ≤ 140737488351232) (hw : ∀ x ∈ l, (Lit.int .u8 x).wf = true) (a : Int) (ha : (Lit.int .i64 a).wf = true) (k : Nat) (hk : 14 < k) : spec_ReadUvarint.f k l a = some (readU l a) := by
  have hab := i64_bds ha
  refine at_rounds (g := fun k => spec_ReadUvarint.f k l a) (spec_ReadUvarint.mono l a) (k := 2 * 7) (by omega) ?_
  show spec_ReadUvarint.l0 (2 * 7) l a 0 0 = _
  unfold readU
  by_cases h : 0 ≤ a ∧ a < l.length
  · rw [if_pos h]
    refine loop_run (fun k i s => spec_ReadUvarint.l0 (2 * k) l a s (i : Int)) 6 (rdStep l a) (fun _ => (0, 0, false)) (fun _ _ => True) (fun k s _ => ?_) (fun k i s hi _ => ?_) (fun _ _ _ _ _ _ => trivial) 6 7 0 0 rfl (by omega) trivial
    · show spec_ReadUvarint.l0 (2 * k + 1 + 1) l a s _ = _
      simp [spec_ReadUvarint.l0]
    · show spec_ReadUvarint.l0 (2 * k + 1 + 1) l a s _ = _
      simp only [spec_ReadUvarint.l0, spec_ReadUvarint.j1]
      have e1 : wrap64 (a + i) = a + i := by unfold wrap64; omega
      have e2 : wrap64 ((i : Int) + 1) = ((i + 1 : Nat) : Int) := by unfold wrap64; omega
      have e3 : wrap64 (7 * (i : Int)) = 7 * (i : Int) := by unfold wrap64; omega
      have b := u8_bd hw (a + i)
      have e4 : wrap64 (rd l (a + i)) = rd l (a + i) := by unfold wrap64; omega
      have e5 : wrap64 (a + i + 1) = a + i + 1 := by unfold wrap64; omega
      have e6 : wrap64 ((l.length : Int) - i) = l.length - i := by unfold wrap64; omega
      rw [if_pos (by omega), if_neg (by omega)]
      simp only [e1, e2, e3, e4, e5, e6]
      unfold rdStep
      by_cases h1 : a + i ≥ l.length
      · rw [if_pos h1, if_pos (by simp; omega)]
      · rw [if_neg h1, if_neg (by simp; omega), if_pos (by omega), if_pos (by omega), if_pos (by omega)]
        by_cases h2 : rd l (a + i) < 128
        · rw [if_pos h2, if_pos h2]
          by_cases h4 : rd l (a + i) = 0
          · rw [if_pos h4]
            by_cases h3 : (i : Int) > 0
            · rw [if_pos h3, if_pos (Or.inl ⟨by omega, h4⟩)]
            · rw [if_neg h3]
              by_cases h5 : Go.bits .or .i64 s (shl .i64 (Go.bits .and .i64 (rd l (a + i)) 127) (7 * i)) > 1000000000000
              · rw [if_pos h5, if_pos (Or.inr h5)]
              · rw [if_neg h5, if_neg (by rintro (h | h); exact h3 (by omega); exact h5 h)]
          · rw [if_neg h4]
            by_cases h5 : Go.bits .or .i64 s (shl .i64 (Go.bits .and .i64 (rd l (a + i)) 127) (7 * i)) > 1000000000000
            · rw [if_pos h5, if_pos (Or.inr h5)]
            · rw [if_neg h5, if_neg (by rintro (h | h); exact h4 h.2; exact h5 h)]
        · rw [if_neg h2, if_neg h2]
  · rw [if_neg h]
    show spec_ReadUvarint.l0 (12 + 1 + 1) l a 0 0 = _
    simp only [spec_ReadUvarint.l0, spec_ReadUvarint.j1]
    have e6 : wrap64 ((l.length : Int) - 0) = l.length := by unfold wrap64; omega
    rw [if_pos (by omega), e6]
    by_cases h1 : a < 0
    · rw [if_pos h1]
      simp
    · rw [if_neg h1, if_pos (by simp; omega)]
theorem specDec (k : Nat) (l : List Int) (a c : Int) (hl : l.length ≤ 1000000000000) (hw : ∀ x ∈ l, (Lit.int .u8 x).wf = true) (hk : 130 < k) : spec_DecodeInts.f k l a c = some (decV l a c) := by
  unfold spec_DecodeInts.f decV
  obtain ⟨k, rfl⟩ : ∃ m, k = m + 1 := ⟨k - 1, by omega⟩
  simp only [Option.bind_some, l1in]
  by_cases h1 : 0 ≤ c ∧ c ≤ 100
  · rw [if_pos (by simpa using h1)]
    by_cases h2 : 0 ≤ a ∧ a ≤ l.length
    · rw [if_pos ⟨h1, h2⟩]
      simp only [h2, and_self, decide_true, Bool.not_true, spec_DecodeInts.j0]
      rw [if_neg (by decide)]
      obtain ⟨n, rfl⟩ := Int.eq_ofNat_of_zero_le h1.1
      refine dec_loop (fun k i s => spec_DecodeInts.l0 k l s.1 (n : Int) s.2 (i : Int)) l n (by omega) hl hw (fun k s => ?_) (fun k i s hi hk h0 h1 h2 => ?_) n k 0 (a, []) (by omega) (by omega) h2.1 h2.2 rfl
      · simp only [spec_DecodeInts.l0]
        rw [if_neg (by omega)]
      · simp only [spec_DecodeInts.l0]
        rw [if_pos (by omega), specRead l (by omega) hw s.1 (by simp [Lit.wf, IntKind.min, IntKind.max, IntKind.signed, IntKind.bits]; omega) k (by omega), wrap_nat hi (by omega)]
        unfold decStep
        simp only [Option.bind_some]
        by_cases h : (readU l s.1).2.2 = true
        · rw [if_pos h, if_pos h, if_pos (by omega)]
        · rw [if_neg h, if_neg h]
    · rw [if_neg (fun h => h2 h.2)]
      simp [h2, spec_DecodeInts.j0]
  · rw [if_neg (by simpa using h1), if_neg (fun h => h1 h.1)]
    simp [spec_DecodeInts.j0]
theorem implRead (l : List Int) (hl : l.length ≤ 140737488351232) (hw : ∀ x ∈ l, (Lit.int .u8 x).wf = true) (a : Int) (k : Nat) (hk : 6 < k) : impl_ReadUvarint.f k l a = some (readU l a) := by
  unfold impl_ReadUvarint.f readU impl_at.f
  by_cases h : 0 ≤ a ∧ a < l.length
  · rw [if_pos h, if_pos h.1]
    simp only [Option.bind_some, decide_eq_true_eq]
    rw [if_pos h.2]
    refine loop_run (fun k i s => impl_ReadUvarint.l0 k l a s (i : Int)) 6 (rdStep l a) (fun _ => (0, 0, false)) (fun _ _ => True) (fun k s _ => ?_) (fun k i s hi _ => ?_) (fun _ _ _ _ _ _ => trivial) 6 k 0 0 rfl hk trivial
    · simp [impl_ReadUvarint.l0]
    · simp only [impl_ReadUvarint.l0]
      have e1 : wrap64 (a + i) = a + i := by unfold wrap64; omega
      have e2 : wrap64 ((i : Int) + 1) = ((i + 1 : Nat) : Int) := by unfold wrap64; omega
      have e3 : wrap64 (7 * (i : Int)) = 7 * (i : Int) := by unfold wrap64; omega
      have b := u8_bd hw (a + i)
      have e4 : wrap64 (rd l (a + i)) = rd l (a + i) := by unfold wrap64; omega
      have e5 : wrap64 (a + i + 1) = a + i + 1 := by unfold wrap64; omega
      rw [if_pos (by omega)]
      simp only [e1, e2, e3, e4, e5]
      unfold rdStep
      by_cases h1 : a + i ≥ l.length
      · rw [if_pos h1, if_pos h1]
      · rw [if_neg h1, if_neg h1, if_pos (by omega), if_pos (by omega), if_pos (by omega)]
        by_cases h2 : rd l (a + i) < 128
        · rw [if_pos h2, if_pos h2]
          by_cases h3 : (i : Int) > 0
          · rw [if_pos h3]
            by_cases h4 : rd l (a + i) = 0
            · rw [if_pos h4, if_pos (Or.inl ⟨by omega, h4⟩)]
            · rw [if_neg h4]
              by_cases h5 : Go.bits .or .i64 s (shl .i64 (Go.bits .and .i64 (rd l (a + i)) 127) (7 * i)) > 1000000000000
              · rw [if_pos h5, if_pos (Or.inr h5)]
              · rw [if_neg h5, if_neg (by rintro (h | h); exact h4 h.2; exact h5 h)]
          · rw [if_neg h3]
            by_cases h5 : Go.bits .or .i64 s (shl .i64 (Go.bits .and .i64 (rd l (a + i)) 127) (7 * i)) > 1000000000000
            · rw [if_pos h5, if_pos (Or.inr h5)]
            · rw [if_neg h5, if_neg (by rintro (h | h); exact h3 (by omega); exact h5 h)]
        · rw [if_neg h2, if_neg h2]
  · rw [if_neg h]
    by_cases h1 : a ≥ 0
    · rw [if_pos h1]
      have : ¬ a < l.length := fun e => h ⟨h1, e⟩
      simp [this]
    · rw [if_neg h1]
      simp
theorem implDec (k : Nat) (l : List Int) (a c : Int) (hl : l.length ≤ 1000000000000) (hw : ∀ x ∈ l, (Lit.int .u8 x).wf = true) (hk : 130 < k) : impl_DecodeInts.f k l a c = some (decV l a c) := by
  unfold impl_DecodeInts.f decV
  obtain ⟨k, rfl⟩ : ∃ m, k = m + 1 := ⟨k - 1, by omega⟩
  simp only [Option.bind_some, inr]
  by_cases h1 : 0 ≤ c ∧ c ≤ 100
  · rw [if_pos (by simpa using h1)]
    by_cases h2 : 0 ≤ a ∧ a ≤ l.length
    · rw [if_pos ⟨h1, h2⟩]
      simp only [h2, and_self, decide_true, Bool.not_true, impl_DecodeInts.j0]
      rw [if_neg (by decide)]
      obtain ⟨n, rfl⟩ := Int.eq_ofNat_of_zero_le h1.1
      refine dec_loop (fun k i s => impl_DecodeInts.l0 k l s.1 s.2 (n : Int) (i : Int)) l n (by omega) hl hw (fun k s => ?_) (fun k i s hi hk h0 h1 h2 => ?_) n k 0 (a, []) (by omega) (by omega) h2.1 h2.2 rfl
      · simp only [impl_DecodeInts.l0]
        rw [if_neg (by omega)]
      · simp only [impl_DecodeInts.l0]
        rw [if_pos (by omega), implRead l (by omega) hw s.1 k (by omega), wrap_nat hi (by omega)]
        unfold decStep
        simp only [Option.bind_some]
        by_cases h : (readU l s.1).2.2 = true
        · rw [if_pos h, if_pos h, if_pos (by omega)]
        · rw [if_neg h, if_neg h]
    · rw [if_neg (fun h => h2 h.2)]
      simp [h2, impl_DecodeInts.j0]
  · rw [if_neg (by simpa using h1), if_neg (fun h => h1 h.1)]
    simp [impl_DecodeInts.j0]
theorem FnExactDecodeInts : laws_FnExactDecodeInts.Pure := by
  intro l a m _ _ hw ha _
  refine ⟨l.length + 140, ?_⟩
  unfold laws_FnExactDecodeInts.f
  by_cases hl : (l.length : Int) > 1048576
  · rw [if_pos hl]
  rw [if_neg hl]
  have K1 : l.length + 131 < l.length + 140 := by omega
  have K2 : l.length + 131 < l.length + 139 := by omega
  have K3 : l.length + 131 < l.length + 138 := by omega
  have K4 : l.length + 131 < l.length + 137 := by omega
  have hr := decV_len l a m
  have A1 : ∀ k, l.length + 131 < k → laws_toByteS.f k l = some l := fun k h => toByteS k l (by omega) (by omega)
  have A2 : ∀ k, l.length + 131 < k → laws_eqByteS.f k l l = some (decide (l = l)) := fun k h => eqByteS k l l (by omega) (by omega)
  have A3 : ∀ k, l.length + 131 < k → spec_DecodeInts.f k l a m = some (decV l a m) := fun k h => specDec k l a m (by omega) hw (by omega)
  have A4 : ∀ k, l.length + 131 < k → impl_DecodeInts.f k l a m = some (decV l a m) := fun k h => implDec k l a m (by omega) hw (by omega)
  generalize decV l a m = g at A3 A4 hr
  have A5 : ∀ k, l.length + 131 < k → laws_eqIntS.f k g.1 g.1 = some (decide (g.1 = g.1)) := fun k h => eqIntS k g.1 g.1 (by omega) (by omega)
  have A6 := fun k (h : l.length + 131 < k) => markByteS k l (by omega) (by omega)
  have A7 := fun k (h : l.length + 131 < k) => markIntS k g.1 (by omega) (by omega)
  have A8 := fun k (h : l.length + 131 < k) => heldIntS k g.1.length (by omega) (by omega)
  simp only [A1 _ K1, A2 _ K1, A3 _ K1, A4 _ K1, A5 _ K1, Option.bind_some, decide_true, if_true, bne_self_eq_false, laws_FnExactDecodeInts.j0, A1 _ K2, A2 _ K2, A5 _ K2, A6 _ K2, one_neg, if_false, Bool.false_eq_true, laws_FnExactDecodeInts.j1, A7 _ K3, A8 _ K3, A1 _ K3, A4 _ K3, A5 _ K3, laws_FnExactDecodeInts.j2, A8 _ K4]
end Go.Proofs.Ytoblbpgipkmljab.Pure
