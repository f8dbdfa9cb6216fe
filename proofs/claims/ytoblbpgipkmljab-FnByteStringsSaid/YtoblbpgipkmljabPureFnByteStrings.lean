/- The law FnByteStrings answers true for every byte slice: byte strings and lists of integers are decoded from their encodings. No condition. -/
import Derived.Test.YtoblbpgipkmljabPFnByteStringsx3
namespace Go.Proofs.Ytoblbpgipkmljab.Pure
open Go.RowKit Go.Proofs.Ytoblbpgipkmljab.PFnByteStrings Go.Proofs.YtoblbpgipkmljabW.PrintWords Go.Proofs.YtoblbpgipkmljabW.PrintLast Go.Proofs.YtoblbpgipkmljabW.PrintMore
set_option linter.unusedVariables false
set_option linter.unusedSimpArgs false
theorem inr (a b c : Int) : impl_InRange.f a b c = some (decide (b ≤ a ∧ a ≤ c)) := by
  unfold impl_InRange.f
  by_cases h : b ≤ a <;> simp [h]
theorem wrap_nat {m n : Nat} (h : m < n) (hn : n ≤ 140737488351232) : wrap64 ((m : Int) + 1) = ((m + 1 : Nat) : Int) := by
  unfold wrap64
  omega
theorem getD_set_self {α : Type} (l : List α) (i j : Nat) (v d : α) : (l.set i v).getD j d = if i = j ∧ i < l.length then v else l.getD j d := by
  simp only [List.getD_eq_getElem?_getD, List.getElem?_set]
  by_cases h : i = j
  · subst h
    by_cases h2 : i < l.length
    · simp [h2]
    · simp [h2]
  · simp [h]
theorem ext_getD {α : Type} (a b : List α) (d : α) (hl : a.length = b.length) (h : ∀ j, j < b.length → a.getD j d = b.getD j d) : a = b := by
  refine List.ext_getElem hl fun j h1 h2 => ?_
  have := h j h2
  simpa [List.getD_eq_getElem?_getD, List.getElem?_eq_getElem h1, List.getElem?_eq_getElem h2] using this
theorem copy_loop {α : Type} (F : Nat → Nat → List α → Option (List α)) (x0 : List α) (dv : α)
    (hend : ∀ k s, s.length = x0.length → F (k + 1) x0.length s = some s)
    (hstep : ∀ k i s, i < x0.length → s.length = x0.length → F (k + 1) i s = F k (i + 1) (s.set i (x0.getD i dv))) :
    ∀ (d k i : Nat) (s : List α), i + d = x0.length → d < k → s.length = x0.length → (∀ j, j < i → s.getD j dv = x0.getD j dv) → F k i s = some x0 := by
  intro d
  induction d with
  | zero =>
    intro k i s hi hk hs hj
    obtain ⟨k, rfl⟩ : ∃ m, k = m + 1 := ⟨k - 1, by omega⟩
    obtain rfl : i = x0.length := by omega
    rw [hend k s hs, ext_getD s x0 dv hs hj]
  | succ d ih =>
    intro k i s hi hk hs hj
    obtain ⟨k, rfl⟩ : ∃ m, k = m + 1 := ⟨k - 1, by omega⟩
    rw [hstep k i s (by omega) hs]
    refine ih k (i + 1) _ (by omega) (by omega) (by simpa using hs) fun j h => ?_
    rw [getD_set_self]
    by_cases e : i = j
    · subst e
      rw [if_pos ⟨rfl, by omega⟩]
    · rw [if_neg (fun h => e h.1)]
      exact hj j (by omega)
theorem eq_loop {α : Type} [DecidableEq α] (F : Nat → Nat → Option Bool) (x0 x1 : List α) (dv : α) (hl : x0.length = x1.length)
    (hend : ∀ k, F (k + 1) x0.length = some true)
    (hstep : ∀ k i, i < x0.length → F (k + 1) i = if x0.getD i dv = x1.getD i dv then F k (i + 1) else some false) :
    ∀ (d k i : Nat), i + d = x0.length → d < k → F k i = some (decide (x0.drop i = x1.drop i)) := by
  intro d
  induction d with
  | zero =>
    intro k i hi hk
    obtain ⟨k, rfl⟩ : ∃ m, k = m + 1 := ⟨k - 1, by omega⟩
    obtain rfl : i = x0.length := by omega
    rw [hend]
    simp [hl]
  | succ d ih =>
    intro k i hi hk
    obtain ⟨k, rfl⟩ : ∃ m, k = m + 1 := ⟨k - 1, by omega⟩
    have h0 : i < x0.length := by omega
    have h1 : i < x1.length := by omega
    rw [hstep k i h0, ih k (i + 1) (by omega) (by omega), List.drop_eq_getElem_cons h0, List.drop_eq_getElem_cons h1]
    simp only [List.getD_eq_getElem?_getD, List.getElem?_eq_getElem h0, List.getElem?_eq_getElem h1, Option.getD_some, List.cons.injEq]
    by_cases e : x0[i] = x1[i] <;> simp [e]
theorem mark_loop {α : Type} (F : Nat → Nat → List α → Option (Int × List α)) (n : Nat) (val : Nat → α)
    (hend : ∀ k s, s.length = n → F (k + 1) n s = some (1 + (n : Int), s))
    (hstep : ∀ k i s, i < n → s.length = n → F (k + 1) i s = F k (i + 1) (s.set i (val i))) (dv : α) :
    ∀ (d k i : Nat) (s : List α), i + d = n → d < k → s.length = n → (∀ j, j < i → s.getD j dv = val j) → F k i s = some (1 + (n : Int), (List.range n).map val) := by
  intro d
  induction d with
  | zero =>
    intro k i s hi hk hs hj
    obtain ⟨k, rfl⟩ : ∃ m, k = m + 1 := ⟨k - 1, by omega⟩
    obtain rfl : i = n := by omega
    rw [hend k s hs]
    have e : s = (List.range i).map val := ext_getD s _ dv (by simpa using hs) fun j h => by
      have h' : j < i := by simpa using h
      rw [hj j h']
      simp [List.getD_eq_getElem?_getD, h']
    rw [← e]
  | succ d ih =>
    intro k i s hi hk hs hj
    obtain ⟨k, rfl⟩ : ∃ m, k = m + 1 := ⟨k - 1, by omega⟩
    rw [hstep k i s (by omega) hs]
    refine ih k (i + 1) _ (by omega) (by omega) (by simpa using hs) fun j h => ?_
    rw [getD_set_self]
    by_cases e : i = j
    · subst e
      rw [if_pos ⟨rfl, by omega⟩]
    · rw [if_neg (fun h => e h.1)]
      exact hj j (by omega)
theorem held_loop (F : Nat → Nat → Option Int) (n : Nat)
    (hend : ∀ k, F (k + 1) n = some (1 + (n : Int)))
    (hstep : ∀ k i, i < n → F (k + 1) i = F k (i + 1)) :
    ∀ (d k i : Nat), i + d = n → d < k → F k i = some (1 + (n : Int)) := by
  intro d
  induction d with
  | zero =>
    intro k i hi hk
    obtain ⟨k, rfl⟩ : ∃ m, k = m + 1 := ⟨k - 1, by omega⟩
    obtain rfl : i = n := by omega
    exact hend k
  | succ d ih =>
    intro k i hi hk
    obtain ⟨k, rfl⟩ : ∃ m, k = m + 1 := ⟨k - 1, by omega⟩
    rw [hstep k i (by omega)]
    exact ih k (i + 1) (by omega) (by omega)
/-- A loop that counts up, told by its step. -/
def runL {σ ρ : Type} (step : Nat → σ → ρ ⊕ σ) (fin : σ → ρ) : Nat → Nat → σ → ρ
  | 0, _, s => fin s
  | d + 1, i, s => match step i s with
    | .inl r => r
    | .inr s' => runL step fin d (i + 1) s'
theorem loop_run {σ ρ : Type} (F : Nat → Nat → σ → Option ρ) (n : Nat) (step : Nat → σ → ρ ⊕ σ) (fin : σ → ρ) (Inv : Nat → σ → Prop)
    (hend : ∀ k s, Inv n s → F (k + 1) n s = some (fin s))
    (hstep : ∀ k i s, i < n → Inv i s → F (k + 1) i s = match step i s with
      | .inl r => some r
      | .inr s' => F k (i + 1) s')
    (hinv : ∀ i s s', i < n → Inv i s → step i s = .inr s' → Inv (i + 1) s') :
    ∀ (d k i : Nat) (s : σ), i + d = n → d < k → Inv i s → F k i s = some (runL step fin d i s) := by
  intro d
  induction d with
  | zero =>
    intro k i s hi hk hs
    obtain ⟨k, rfl⟩ : ∃ m, k = m + 1 := ⟨k - 1, by omega⟩
    obtain rfl : i = n := by omega
    exact hend k s hs
  | succ d ih =>
    intro k i s hi hk hs
    obtain ⟨k, rfl⟩ : ∃ m, k = m + 1 := ⟨k - 1, by omega⟩
    rw [hstep k i s (by omega) hs]
    unfold runL
    cases e : step i s with
    | inl r => rfl
    | inr s' => exact ih k (i + 1) s' (by omega) (by omega) (hinv i s s' (by omega) hs e)
theorem one_neg (n : Nat) : (1 + (n : Int) < 0) = False := by
  simp
  omega
theorem u8_bds {n : Int} (h : (Lit.int .u8 n).wf = true) : 0 ≤ n ∧ n ≤ 255 := by
  simp [Lit.wf, IntKind.min, IntKind.max, IntKind.signed, IntKind.bits] at h
  omega
theorem i64_bds {n : Int} (h : (Lit.int .i64 n).wf = true) : -9223372036854775808 ≤ n ∧ n ≤ 9223372036854775807 := by
  simp [Lit.wf, IntKind.min, IntKind.max, IntKind.signed, IntKind.bits] at h
  omega
theorem tmod_bd (a : Int) {b : Int} (hb : 0 < b) : -b < Int.tmod a b ∧ Int.tmod a b < b := by
  by_cases h : 0 ≤ a
  · rw [Int.tmod_eq_emod_of_nonneg h]
    have := Int.emod_nonneg a (show b ≠ 0 by omega)
    have := Int.emod_lt_of_pos a hb
    omega
  · have e : Int.tmod a b = -(Int.tmod (-a) b) := by rw [Int.neg_tmod]; omega
    rw [e, Int.tmod_eq_emod_of_nonneg (by omega)]
    have := Int.emod_nonneg (-a) (show b ≠ 0 by omega)
    have := Int.emod_lt_of_pos (-a) hb
    omega
theorem wraps62 (n : Int) (h0 : 0 ≤ n) (h1 : n < 2 ^ 62) : IntKind.i64.wrap n = n := by
  rw [IntKind.wrap_i64]
  omega
theorem and127 (c : Int) (h0 : 0 ≤ c) (h1 : c < 2 ^ 62) : Go.bits .and .i64 c 127 = c % 128 := bits_mask .i64 62 (by decide) wraps62 7 (by decide) c h0 h1
theorem or_low (n s : Int) (j : Nat) (hj : j ≤ 62) (h0 : 0 ≤ n) (h1 : n < 2 ^ j) (hs0 : 0 ≤ s) (hs : s % 2 ^ j = 0) (hs1 : s < 2 ^ 62) : Go.bits .or .i64 n s = n + s := by
  have hn : n < 2 ^ 62 := Int.lt_of_lt_of_le h1 (by have h := Nat.pow_le_pow_right (show 0 < 2 by decide) hj; exact_mod_cast h)
  have e := bits_join .i64 62 (by decide) wraps62 j s n hs0 hs hs1 h0 h1 hn
  obtain ⟨a, rfl⟩ := Int.eq_ofNat_of_zero_le h0
  obtain ⟨b, rfl⟩ := Int.eq_ofNat_of_zero_le hs0
  have ha : a < 2 ^ 62 := by exact_mod_cast hn
  have hb : b < 2 ^ 62 := by exact_mod_cast hs1
  rw [(bits_nat .i64 62 (by decide) wraps62 a b ha hb).2]
  rw [(bits_nat .i64 62 (by decide) wraps62 b a hb ha).2] at e
  rw [Nat.or_comm, e]
  omega
/-- What a byte adds to a varint's number. -/
theorem comb_eq (n c : Int) (i : Nat) (hi : i < 6) (h0 : 0 ≤ n) (h1 : n < 2 ^ (7 * i)) (hc : 0 ≤ c ∧ c ≤ 255) :
    Go.bits .or .i64 n (shl .i64 (Go.bits .and .i64 c 127) (7 * (i : Int))) = n + c % 128 * 2 ^ (7 * i) := by
  rw [and127 c hc.1 (by omega)]
  have hm : 0 ≤ c % 128 ∧ c % 128 < 128 := ⟨by omega, by omega⟩
  generalize c % 128 = m at hm
  have e : shl .i64 m (7 * (i : Int)) = m * 2 ^ (7 * i) := by
    unfold shl
    have : min (7 * (i : Int)).toNat IntKind.i64.bits = 7 * i := by
      show min (7 * (i : Int)).toNat 64 = 7 * i
      omega
    rw [this]
    have hi' : i = 0 ∨ i = 1 ∨ i = 2 ∨ i = 3 ∨ i = 4 ∨ i = 5 := by omega
    rcases hi' with rfl | rfl | rfl | rfl | rfl | rfl <;> exact wraps62 _ (by simp; omega) (by simp; omega)
  rw [e]
  have hi' : i = 0 ∨ i = 1 ∨ i = 2 ∨ i = 3 ∨ i = 4 ∨ i = 5 := by omega
  refine or_low n _ (7 * i) (by omega) h0 h1 (by rcases hi' with rfl | rfl | rfl | rfl | rfl | rfl <;> simp <;> omega) (Int.mul_emod_left _ _) ?_
  rcases hi' with rfl | rfl | rfl | rfl | rfl | rfl <;> simp <;> omega
theorem and_mask (x : Int) (m : Nat) (hm : m < 2 ^ 31) : 0 ≤ Go.bits .and .i64 x m ∧ Go.bits .and .i64 x m ≤ m := by
  have h : (BitVec.ofInt 64 x &&& BitVec.ofInt 64 (m : Int)).toNat ≤ m := by
    rw [BitVec.toNat_and]
    refine Nat.le_trans Nat.and_le_right ?_
    rw [BitVec.ofInt_natCast, BitVec.toNat_ofNat]
    exact Nat.mod_le _ _
  have e : Go.bits .and .i64 x m = (((BitVec.ofInt 64 x &&& BitVec.ofInt 64 (m : Int)).toNat : Nat) : Int) := by
    simp only [Go.bits]
    show IntKind.i64.wrap (((BitVec.ofInt 64 x &&& BitVec.ofInt 64 (m : Int)).toNat : Nat) : Int) = _
    exact wraps62 _ (by omega) (by omega)
  rw [e]
  omega
def rdStep (l : List Int) (a : Int) (i : Nat) (n : Int) : (Int × Int × Bool) ⊕ Int :=
  if a + i ≥ l.length then .inl (0, 0, false)
  else if rd l (a + i) < 128 then
    if (0 < i ∧ rd l (a + i) = 0) ∨ Go.bits .or .i64 n (shl .i64 (Go.bits .and .i64 (rd l (a + i)) 127) (7 * i)) > 1000000000000 then .inl (0, 0, false)
    else .inl (Go.bits .or .i64 n (shl .i64 (Go.bits .and .i64 (rd l (a + i)) 127) (7 * i)), a + i + 1, true)
  else .inr (Go.bits .or .i64 n (shl .i64 (Go.bits .and .i64 (rd l (a + i)) 127) (7 * i)))
/-- What both ReadUvarint come to. -/
def readU (l : List Int) (a : Int) : Int × Int × Bool :=
  if 0 ≤ a ∧ a < l.length then runL (rdStep l a) (fun _ => (0, 0, false)) 6 0 0 else (0, 0, false)
theorem u8_bd {l : List Int} (h : ∀ x ∈ l, (Lit.int .u8 x).wf = true) (j : Int) : 0 ≤ rd l j ∧ rd l j ≤ 255 := by
  unfold rd
  rw [List.getD_eq_getElem?_getD]
  by_cases hj : j.toNat < l.length
  · rw [List.getElem?_eq_getElem hj]
    exact u8_bds (h _ (List.getElem_mem _))
  · rw [List.getElem?_eq_none (by omega)]
    exact ⟨Int.le_refl 0, by decide⟩
/-- The cursor: what it reads, where it stands. -/
theorem byte_ok (b : List Int) (hb : b.length ≤ 140737488351232) (i h : Int) (hi : 0 ≤ i) : ∃ v i' h', spec_l1Byte.f b i h = some (v, i', h') ∧ 0 ≤ v ∧ v ≤ 255 ∧ 0 ≤ i' := by
  unfold spec_l1Byte.f
  by_cases h1 : i < b.length
  · rw [if_pos h1, if_pos hi]
    refine ⟨_, _, _, rfl, (and_mask _ 255 (by decide)).1, (and_mask _ 255 (by decide)).2, ?_⟩
    unfold wrap64
    omega
  · rw [if_neg h1]
    exact ⟨_, _, _, rfl, (and_mask _ 255 (by decide)).1, (and_mask _ 255 (by decide)).2, hi⟩
theorem below_ok (b : List Int) (hb : b.length ≤ 140737488351232) (i h n : Int) (hi : 0 ≤ i) : ∃ v i' h', spec_l1Below.f b i h n = some (v, i', h') ∧ 0 ≤ v ∧ (0 < n → v < n) ∧ (n ≤ 0 → v = 0) ∧ 0 ≤ i' := by
  unfold spec_l1Below.f
  by_cases h1 : n ≤ 0
  · rw [if_pos h1]
    exact ⟨_, _, _, rfl, Int.le_refl _, fun h => by omega, fun _ => rfl, hi⟩
  · rw [if_neg h1]
    by_cases h2 : n ≤ 256
    · rw [if_pos h2]
      obtain ⟨v, i', h', e, v0, v1, i0⟩ := byte_ok b hb i h hi
      rw [e]
      simp only [Option.bind_some]
      rw [if_neg (by omega)]
      have t := tmod_bd v (b := n) (by omega)
      exact ⟨_, _, _, rfl, by rw [Int.tmod_eq_emod_of_nonneg v0]; exact Int.emod_nonneg _ (by omega), fun _ => t.2, fun h => by omega, i0⟩
    · rw [if_neg h2]
      obtain ⟨x, i1, h1', e1, x0, x1, j1⟩ := byte_ok b hb i h hi
      rw [e1]
      simp only [Option.bind_some]
      obtain ⟨y, i2, h2', e2, y0, y1, j2⟩ := byte_ok b hb i1 h1' j1
      rw [e2]
      simp only [Option.bind_some]
      obtain ⟨z, i3, h3', e3, z0, z1, j3⟩ := byte_ok b hb i2 h2' j2
      rw [e3]
      simp only [Option.bind_some]
      rw [if_neg (by omega)]
      have q : wrap64 (wrap64 (wrap64 (x * 65536) + wrap64 (y * 256)) + z) = x * 65536 + y * 256 + z := by
        have q1 : wrap64 (x * 65536) = x * 65536 := by unfold wrap64; omega
        have q2 : wrap64 (y * 256) = y * 256 := by unfold wrap64; omega
        rw [q1, q2]
        have q3 : wrap64 (x * 65536 + y * 256) = x * 65536 + y * 256 := by unfold wrap64; omega
        rw [q3]
        unfold wrap64
        omega
      rw [q]
      have t := tmod_bd (x * 65536 + y * 256 + z) (b := n) (by omega)
      exact ⟨_, _, _, rfl, by rw [Int.tmod_eq_emod_of_nonneg (by omega)]; exact Int.emod_nonneg _ (by omega), fun _ => t.2, fun h => by omega, j3⟩
theorem new_loop (b : List Int) (hb : b.length ≤ 140737488351232) : ∀ (d k : Nat) (i : Nat) (h : Int), (b.length - i : Nat) = d → i ≤ b.length → d < k → ∃ h', spec_l1New.l0 k b h (i : Int) = some (b, 0, h') := by
  intro d
  induction d with
  | zero =>
    intro k i h hd hi hk
    obtain ⟨k, rfl⟩ : ∃ m, k = m + 1 := ⟨k - 1, by omega⟩
    simp only [spec_l1New.l0]
    rw [if_neg (by omega)]
    exact ⟨_, rfl⟩
  | succ d ih =>
    intro k i h hd hi hk
    obtain ⟨k, rfl⟩ : ∃ m, k = m + 1 := ⟨k - 1, by omega⟩
    simp only [spec_l1New.l0]
    rw [if_pos (by omega)]
    by_cases h4 : (i : Int) < 4000
    · rw [if_pos h4, if_pos (by omega), wrap_nat (n := b.length) (by omega) hb]
      exact ih k (i + 1) _ (by omega) (by omega) (by omega)
    · rw [if_neg h4]
      exact ⟨_, rfl⟩
theorem new_ok (k : Nat) (b : List Int) (hb : b.length ≤ 140737488351232) (hk : b.length < k) : ∃ h, spec_l1New.f k b = some (b, 0, h) := by
  unfold spec_l1New.f
  exact new_loop b hb b.length k 0 _ (by omega) (by omega) hk
theorem bytes_loop (b : List Int) (hb : b.length ≤ 140737488351232) (n : Int) (hn : n ≤ 1000000000) : ∀ (d k j : Nat) (s : List Int) (i h : Int), (n - j).toNat = d → d < k → s.length = j → (∀ x ∈ s, (Lit.int .u8 x).wf = true) → 0 ≤ i →
    ∃ r i' h', spec_l1Bytes.l0 k n s (j : Int) b i h = some (r, i', h') ∧ (∀ x ∈ r, (Lit.int .u8 x).wf = true) ∧ r.length = j + d ∧ 0 ≤ i' := by
  intro d
  induction d with
  | zero =>
    intro k j s i h hd hk hs hw hi
    obtain ⟨k, rfl⟩ : ∃ m, k = m + 1 := ⟨k - 1, by omega⟩
    simp only [spec_l1Bytes.l0]
    rw [if_neg (by omega)]
    exact ⟨_, _, _, rfl, hw, by omega, hi⟩
  | succ d ih =>
    intro k j s i h hd hk hs hw hi
    obtain ⟨k, rfl⟩ : ∃ m, k = m + 1 := ⟨k - 1, by omega⟩
    simp only [spec_l1Bytes.l0]
    rw [if_pos (by omega)]
    obtain ⟨v, i', h', e, v0, v1, i0⟩ := byte_ok b hb i h hi
    rw [e]
    simp only [Option.bind_some]
    rw [if_pos (by omega), show wrap64 ((j : Int) + 1) = ((j + 1 : Nat) : Int) by unfold wrap64; omega]
    obtain ⟨r, i2, h2, e2, w2, l2, j2⟩ := ih k (j + 1) (s ++ [v % 256]) i' h' (by omega) (by omega) (by simp [hs]) (by
      intro x hx
      rcases List.mem_append.1 hx with hx | hx
      · exact hw x hx
      · obtain rfl := List.mem_singleton.1 hx
        simp [Lit.wf, IntKind.min, IntKind.max, IntKind.signed, IntKind.bits]
        omega) i0
    exact ⟨r, i2, h2, e2, w2, by omega, j2⟩
theorem bytes_ok (k : Nat) (b : List Int) (hb : b.length ≤ 140737488351232) (i h n : Int) (hn : n ≤ 1000000000) (hk : n.toNat < k) (hi : 0 ≤ i) : ∃ r i' h', spec_l1Bytes.f k b i h n = some (r, i', h') ∧ (∀ x ∈ r, (Lit.int .u8 x).wf = true) ∧ r.length = n.toNat ∧ 0 ≤ i' := by
  unfold spec_l1Bytes.f
  obtain ⟨r, i', h', e, w, l, j⟩ := bytes_loop b hb n hn n.toNat k 0 [] i h (by omega) hk rfl (by simp) hi
  exact ⟨r, i', h', e, w, by omega, j⟩
theorem read_loop (l : List Int) (a : Int) (hw : ∀ x ∈ l, (Lit.int .u8 x).wf = true) (h0 : 0 ≤ a) : ∀ (d i : Nat) (n : Int), i + d = 6 → 0 ≤ n → n < 2 ^ (7 * i) →
    ∀ v nx, runL (rdStep l a) (fun _ => (0, 0, false)) d i n = (v, nx, true) → 0 ≤ v ∧ v ≤ 1000000000000 ∧ a < nx ∧ nx ≤ l.length ∧ nx ≤ a + 6 := by
  intro d
  induction d with
  | zero => intro i n _ _ _ v nx h; simp [runL] at h
  | succ d ih =>
    intro i n hi hn0 hn1 v nx h
    have b := u8_bd hw (a + i)
    have e := comb_eq n (rd l (a + i)) i (by omega) hn0 hn1 b
    have hp : (0 : Int) < 2 ^ (7 * i) := Int.pow_pos (by decide)
    have hm : 0 ≤ rd l (a + i) % 128 ∧ rd l (a + i) % 128 < 128 := ⟨by omega, by omega⟩
    have hv0 : 0 ≤ n + rd l (a + i) % 128 * 2 ^ (7 * i) := Int.add_nonneg hn0 (Int.mul_nonneg hm.1 (Int.le_of_lt hp))
    have hv1 : n + rd l (a + i) % 128 * 2 ^ (7 * i) < 2 ^ (7 * (i + 1)) := by
      have h2 : (2 : Int) ^ (7 * (i + 1)) = 128 * 2 ^ (7 * i) := by rw [Nat.mul_add, Int.pow_add]; omega
      have h3 : rd l (a + i) % 128 * 2 ^ (7 * i) ≤ 127 * 2 ^ (7 * i) := Int.mul_le_mul_of_nonneg_right (by omega) (Int.le_of_lt hp)
      omega
    unfold runL rdStep at h
    rw [e] at h
    by_cases h1 : a + i ≥ l.length
    · rw [if_pos h1] at h
      simp at h
    · rw [if_neg h1] at h
      by_cases h2 : rd l (a + i) < 128
      · rw [if_pos h2] at h
        by_cases h3 : (0 < i ∧ rd l (a + i) = 0) ∨ n + rd l (a + i) % 128 * 2 ^ (7 * i) > 1000000000000
        · rw [if_pos h3] at h
          simp at h
        · rw [if_neg h3] at h
          simp only [Prod.mk.injEq] at h
          obtain ⟨rfl, rfl, _⟩ := h
          have : ¬ n + rd l (a + i) % 128 * 2 ^ (7 * i) > 1000000000000 := fun h => h3 (Or.inr h)
          exact ⟨hv0, by omega, by omega, by omega, by omega⟩
      · rw [if_neg h2] at h
        exact ih (i + 1) _ (by omega) hv0 hv1 v nx h
theorem readU_ok (l : List Int) (a : Int) (hw : ∀ x ∈ l, (Lit.int .u8 x).wf = true) (h : (readU l a).2.2 = true) :
    0 ≤ (readU l a).1 ∧ (readU l a).1 ≤ 1000000000000 ∧ 0 ≤ a ∧ a < (readU l a).2.1 ∧ (readU l a).2.1 ≤ l.length := by
  unfold readU at h ⊢
  by_cases h0 : 0 ≤ a ∧ a < l.length
  · rw [if_pos h0] at h ⊢
    have := read_loop l a hw h0.1 6 0 0 rfl (by decide) (by decide) _ _ (Prod.ext rfl (Prod.ext rfl h))
    exact ⟨this.1, this.2.1, h0.1, this.2.2.1, this.2.2.2.1⟩
  · rw [if_neg h0] at h
    simp at h
theorem readU_no (l : List Int) (a : Int) (h : (readU l a).2.2 = false) : readU l a = (0, 0, false) := by
  unfold readU at h ⊢
  by_cases h0 : 0 ≤ a ∧ a < l.length
  · rw [if_pos h0] at h ⊢
    have key : ∀ (d i : Nat) (n : Int), (runL (rdStep l a) (fun _ => ((0 : Int), (0 : Int), false)) d i n).2.2 = false → runL (rdStep l a) (fun _ => (0, 0, false)) d i n = (0, 0, false) := by
      intro d
      induction d with
      | zero => intro i n _; rfl
      | succ d ih =>
        intro i n h
        unfold runL rdStep at h ⊢
        by_cases h1 : a + i ≥ l.length
        · rw [if_pos h1]
        · rw [if_neg h1] at h ⊢
          by_cases h2 : rd l (a + i) < 128
          · rw [if_pos h2] at h ⊢
            by_cases h3 : (0 < i ∧ rd l (a + i) = 0) ∨ Go.bits .or .i64 n (shl .i64 (Go.bits .and .i64 (rd l (a + i)) 127) (7 * i)) > 1000000000000
            · rw [if_pos h3]
            · rw [if_neg h3] at h
              simp at h
          · rw [if_neg h2] at h ⊢
            exact ih _ _ h
    exact key 6 0 0 h
  · rw [if_neg h0]
/-- What both ReadBytes come to. -/
def readB (l : List Int) (a m : Int) : List Int × Int × Bool :=
  if (readU l a).2.2 = true ∧ (readU l a).1 ≤ m ∧ (readU l a).1 ≤ l.length - (readU l a).2.1 then
    ((l.take ((readU l a).2.1 + (readU l a).1).toNat).drop (readU l a).2.1.toNat, (readU l a).2.1 + (readU l a).1, true)
  else ([], 0, false)
theorem readB_len (l : List Int) (a m : Int) : (readB l a m).1.length ≤ l.length := by
  unfold readB
  split
  · simp
    omega
  · simp
/-- The bytes of a varint, d of them at most ahead of the last one. -/
def uv : Nat → Int → List Int
  | 0, n => [n % 256]
  | d + 1, n => if n > 127 then ((Go.bits .or .i64 (Go.bits .and .i64 n 127) 128) % 256) :: uv d (n / 128) else [n % 256]
theorem uv_len : ∀ (d : Nat) (n : Int), 1 ≤ (uv d n).length ∧ (uv d n).length ≤ d + 1
  | 0, n => by simp [uv]
  | d + 1, n => by
    have := uv_len d (n / 128)
    unfold uv
    split
    · simp
      omega
    · simp
/-- What both AppendUvarint come to. -/
def appU (l : List Int) (n : Int) : List Int := if 0 ≤ n ∧ n ≤ 1000000000000 then l ++ uv 5 n else l
theorem appU_len (l : List Int) (n : Int) : l.length ≤ (appU l n).length ∧ (appU l n).length ≤ l.length + 6 := by
  unfold appU
  have := uv_len 5 n
  split
  · simp
    omega
  · omega
theorem uv_loop (F : Nat → Int → List Int → Option (List Int))
    (hstep : ∀ k n s, s.length < 140737488355328 → F (k + 1) n s = if n > 127 then F k (n / 128) (s ++ [(Go.bits .or .i64 (Go.bits .and .i64 n 127) 128) % 256]) else some (s ++ [n % 256])) :
    ∀ (d k : Nat) (n : Int) (s : List Int), 0 ≤ n → n < 128 * 128 ^ d → d < k → s.length + d < 140737488355328 → F k n s = some (s ++ uv d n) := by
  intro d
  induction d with
  | zero =>
    intro k n s h0 hn hk hs
    obtain ⟨k, rfl⟩ : ∃ m, k = m + 1 := ⟨k - 1, by omega⟩
    rw [hstep k n s (by omega), if_neg (by simp at hn; omega)]
    rfl
  | succ d ih =>
    intro k n s h0 hn hk hs
    obtain ⟨k, rfl⟩ : ∃ m, k = m + 1 := ⟨k - 1, by omega⟩
    rw [hstep k n s (by omega)]
    unfold uv
    by_cases h : n > 127
    · rw [if_pos h, if_pos h, ih k (n / 128) _ (by omega) (by rw [Int.pow_succ] at hn; omega) (by omega) (by simp; omega)]
      simp
    · rw [if_neg h, if_neg h]
theorem or128 (m : Int) (h0 : 0 ≤ m) (h1 : m < 2 ^ 62) : (Go.bits .or .i64 (Go.bits .and .i64 m 127) 128) % 256 = m % 128 + 128 := by
  rw [and127 m h0 h1, or_low (m % 128) 128 7 (by decide) (by omega) (by simp; omega) (by decide) (by decide) (by decide)]
  omega
theorem pow7 (i : Nat) : (2 : Int) ^ (7 * (i + 1)) = 128 * 2 ^ (7 * i) := by
  rw [Nat.mul_add, Int.pow_add]
  omega
/-- Decoding what has been encoded, from the byte at a + i on. -/
theorem dec_uv (l : List Int) (a : Nat) (hw : ∀ x ∈ l, (Lit.int .u8 x).wf = true) : ∀ (d i : Nat) (m acc : Int), i + d = 5 → 0 ≤ m → m < 128 * 128 ^ d → 0 ≤ acc → acc < 2 ^ (7 * i) → (0 < i → 0 < m) → acc + m * 2 ^ (7 * i) ≤ 1000000000000 →
    a + i + (uv d m).length ≤ l.length → (∀ j, j < (uv d m).length → l.getD (a + i + j) 0 = (uv d m).getD j 0) →
    runL (rdStep l a) (fun _ => (0, 0, false)) (d + 1) i acc = (acc + m * 2 ^ (7 * i), ((a + i + (uv d m).length : Nat) : Int), true) := by
  intro d
  induction d with
  | zero =>
    intro i m acc hi h0 h1 a0 a1 hpos hmax hlen hb
    have e : uv 0 m = [m] := by
      simp only [uv]
      congr 1
      simp at h1
      omega
    rw [e] at hlen hb ⊢
    have hc : rd l ((a : Int) + i) = m := by
      have := hb 0 (by simp)
      have t : ((a : Int) + i).toNat = a + i := by omega
      simpa [rd, t] using this
    simp at h1 hlen
    have b := u8_bd hw ((a : Int) + i)
    have ec := comb_eq acc (rd l ((a : Int) + i)) i (by omega) a0 a1 b
    unfold runL rdStep
    rw [ec, hc, show m % 128 = m by omega, if_neg (by omega), if_pos (by omega), if_neg (by
      rintro (h | h)
      · have := hpos h.1
        omega
      · omega)]
    simp
  | succ d ih =>
    intro i m acc hi h0 h1 a0 a1 hpos hmax hlen hb
    have hp : (0 : Int) < 2 ^ (7 * i) := Int.pow_pos (by decide)
    by_cases hm : m > 127
    · have hm62 : m < 2 ^ 62 := by
        have : m * 1 ≤ m * 2 ^ (7 * i) := Int.mul_le_mul_of_nonneg_left (by omega) h0
        omega
      have e : uv (d + 1) m = (m % 128 + 128) :: uv d (m / 128) := by
        rw [uv, if_pos hm, or128 m h0 hm62]
      rw [e] at hlen hb ⊢
      simp only [List.length_cons] at hlen hb ⊢
      have hc : rd l ((a : Int) + i) = m % 128 + 128 := by
        have := hb 0 (by omega)
        have t : ((a : Int) + i).toNat = a + i := by omega
        simpa [rd, t] using this
      have b := u8_bd hw ((a : Int) + i)
      have ec := comb_eq acc (rd l ((a : Int) + i)) i (by omega) a0 a1 b
      have hq : m = 128 * (m / 128) + m % 128 := by omega
      have hr : m % 128 * 2 ^ (7 * i) ≤ 127 * 2 ^ (7 * i) := Int.mul_le_mul_of_nonneg_right (by omega) (Int.le_of_lt hp)
      have hr0 : 0 ≤ m % 128 * 2 ^ (7 * i) := Int.mul_nonneg (by omega) (Int.le_of_lt hp)
      have hsum : acc + m % 128 * 2 ^ (7 * i) + m / 128 * 2 ^ (7 * (i + 1)) = acc + m * 2 ^ (7 * i) := by
        rw [pow7]
        have : m * 2 ^ (7 * i) = (128 * (m / 128) + m % 128) * 2 ^ (7 * i) := by rw [← hq]
        rw [this, Int.add_mul, Int.mul_assoc, Int.mul_left_comm (m / 128)]
        omega
      unfold runL rdStep
      rw [ec, hc, show (m % 128 + 128) % 128 = m % 128 by omega, if_neg (by omega), if_neg (by omega)]
      show runL (rdStep l a) (fun _ => (0, 0, false)) (d + 1) (i + 1) (acc + m % 128 * 2 ^ (7 * i)) = _
      rw [ih (i + 1) (m / 128) _ (by omega) (by omega) (by rw [Int.pow_succ] at h1; omega) (by omega) (by rw [pow7]; omega) (fun _ => by omega) (by rw [hsum]; exact hmax) (by omega) (fun j hj => by
        have := hb (j + 1) (by omega)
        rw [List.getD_cons_succ] at this
        rw [← this, show a + (i + 1) + j = a + i + (j + 1) by omega])]
      rw [hsum, show a + (i + 1) + (uv d (m / 128)).length = a + i + ((uv d (m / 128)).length + 1) by omega]
    · have e : uv (d + 1) m = [m] := by
        rw [uv, if_neg hm]
        congr 1
        omega
      rw [e] at hlen hb ⊢
      have hc : rd l ((a : Int) + i) = m := by
        have := hb 0 (by simp)
        have t : ((a : Int) + i).toNat = a + i := by omega
        simpa [rd, t] using this
      simp at hlen
      have b := u8_bd hw ((a : Int) + i)
      have ec := comb_eq acc (rd l ((a : Int) + i)) i (by omega) a0 a1 b
      unfold runL rdStep
      rw [ec, hc, show m % 128 = m by omega, if_neg (by omega), if_pos (by omega), if_neg (by
        rintro (h | h)
        · have := hpos h.1
          omega
        · omega)]
      simp
/-- Reading a varint that stands behind p. -/
theorem readU_app (p q : List Int) (n : Int) (h0 : 0 ≤ n) (h1 : n ≤ 1000000000000) (hw : ∀ x ∈ p ++ uv 5 n ++ q, (Lit.int .u8 x).wf = true) :
    readU (p ++ uv 5 n ++ q) p.length = (n, ((p.length + (uv 5 n).length : Nat) : Int), true) := by
  have hl := (uv_len 5 n).1
  unfold readU
  rw [if_pos ⟨by omega, by simp; omega⟩]
  have h := dec_uv (p ++ uv 5 n ++ q) p.length hw 5 0 n 0 rfl h0 (by omega) (by decide) (by decide) (fun h => by omega) (by omega) (by simp only [List.length_append]; omega) (fun j hj => by
    simp only [List.getD_eq_getElem?_getD, Nat.add_zero]
    rw [List.getElem?_append_left (by simp; omega), List.getElem?_append_right (by omega), Nat.add_sub_cancel_left])
  simpa using h
theorem uv_wf : ∀ (d : Nat) (n : Int), ∀ x ∈ uv d n, (Lit.int .u8 x).wf = true
  | 0, n, x, h => by
    simp only [uv, List.mem_singleton] at h
    subst h
    simp [Lit.wf, IntKind.min, IntKind.max, IntKind.signed, IntKind.bits]
    omega
  | d + 1, n, x, h => by
    unfold uv at h
    split at h
    · rcases List.mem_cons.1 h with rfl | h
      · simp [Lit.wf, IntKind.min, IntKind.max, IntKind.signed, IntKind.bits]
        omega
      · exact uv_wf d _ x h
    · simp only [List.mem_singleton] at h
      subst h
      simp [Lit.wf, IntKind.min, IntKind.max, IntKind.signed, IntKind.bits]
      omega
theorem appU_wf (l : List Int) (n : Int) (h : ∀ x ∈ l, (Lit.int .u8 x).wf = true) : ∀ x ∈ appU l n, (Lit.int .u8 x).wf = true := by
  intro x hx
  unfold appU at hx
  split at hx
  · rcases List.mem_append.1 hx with hx | hx
    · exact h x hx
    · exact uv_wf 5 n x hx
  · exact h x hx
def encFrom (l : List Int) (acc : List Int) : List Int := l.foldl appU acc
def encV (l : List Int) : List Int := encFrom l []
theorem encFrom_len : ∀ (l acc : List Int), acc.length ≤ (encFrom l acc).length ∧ (encFrom l acc).length ≤ acc.length + 6 * l.length
  | [], acc => by simp [encFrom]
  | x :: l, acc => by
    have h := encFrom_len l (appU acc x)
    have h2 := appU_len acc x
    unfold encFrom at h ⊢
    rw [List.foldl_cons, List.length_cons]
    omega
theorem encV_len (l : List Int) : (encV l).length ≤ 6 * l.length := by
  have := encFrom_len l []
  unfold encV
  simp at this
  omega
theorem enc_loop (F : Nat → Nat → List Int → Option (List Int)) (l : List Int) (hl : l.length ≤ 100000000000)
    (hend : ∀ k s, F (k + 1) l.length s = some s)
    (hstep : ∀ k i s, i < l.length → 6 < k → s.length ≤ 6 * i → F (k + 1) i s = F k (i + 1) (appU s (rd l i))) :
    ∀ (d k i : Nat) (s : List Int), i + d = l.length → d + 7 < k → s.length ≤ 6 * i → F k i s = some (encFrom (l.drop i) s) := by
  intro d
  induction d with
  | zero =>
    intro k i s hi hk hs
    obtain ⟨k, rfl⟩ : ∃ m, k = m + 1 := ⟨k - 1, by omega⟩
    obtain rfl : i = l.length := by omega
    rw [hend]
    simp [encFrom]
  | succ d ih =>
    intro k i s hi hk hs
    obtain ⟨k, rfl⟩ : ∃ m, k = m + 1 := ⟨k - 1, by omega⟩
    have h0 : i < l.length := by omega
    have h2 := appU_len s (rd l i)
    rw [hstep k i s h0 (by omega) hs, ih k (i + 1) _ (by omega) (by omega) (by omega), List.drop_eq_getElem_cons h0]
    have e : rd l (i : Int) = l[i] := by simp [rd, List.getD_eq_getElem?_getD, List.getElem?_eq_getElem h0]
    rw [e]
    rfl
/-- One step of both DecodeInts: the offset, what has been read. -/
def decStep (l : List Int) (_ : Nat) (s : Int × List Int) : (List Int × Int × Bool) ⊕ (Int × List Int) :=
  if (readU l s.1).2.2 = true then .inr ((readU l s.1).2.1, s.2 ++ [(readU l s.1).1]) else .inl ([], 0, false)
def decV (l : List Int) (a c : Int) : List Int × Int × Bool :=
  if (0 ≤ c ∧ c ≤ 100) ∧ (0 ≤ a ∧ a ≤ l.length) then runL (decStep l) (fun s => (s.2, s.1, true)) c.toNat 0 (a, []) else ([], 0, false)
theorem dec_loop (F : Nat → Nat → Int × List Int → Option (List Int × Int × Bool)) (l : List Int) (n : Nat) (hn : n ≤ 100) (hl : l.length ≤ 1000000000000) (hw : ∀ x ∈ l, (Lit.int .u8 x).wf = true)
    (hend : ∀ k s, F (k + 1) n s = some (s.2, s.1, true))
    (hstep : ∀ k i s, i < n → 20 < k → 0 ≤ s.1 → s.1 ≤ (l.length : Int) → s.2.length = i → F (k + 1) i s = match decStep l i s with
      | .inl r => some r
      | .inr s' => F k (i + 1) s') :
    ∀ (d k i : Nat) (s : Int × List Int), i + d = n → d + 21 < k → 0 ≤ s.1 → s.1 ≤ (l.length : Int) → s.2.length = i → F k i s = some (runL (decStep l) (fun s => (s.2, s.1, true)) d i s) := by
  intro d
  induction d with
  | zero =>
    intro k i s hi hk h0 h1 h2
    obtain ⟨k, rfl⟩ : ∃ m, k = m + 1 := ⟨k - 1, by omega⟩
    obtain rfl : i = n := by omega
    exact hend k s
  | succ d ih =>
    intro k i s hi hk h0 h1 h2
    obtain ⟨k, rfl⟩ : ∃ m, k = m + 1 := ⟨k - 1, by omega⟩
    rw [hstep k i s (by omega) (by omega) h0 h1 h2]
    have ok := readU_ok l s.1 hw
    unfold runL decStep
    by_cases h : (readU l s.1).2.2 = true
    · have o := ok h
      rw [if_pos h]
      exact ih k (i + 1) _ (by omega) (by omega) (by show 0 ≤ (readU l s.1).2.1; omega) (by show (readU l s.1).2.1 ≤ (l.length : Int); omega) (by simp [h2])
    · rw [if_neg h]
theorem dec_range (l : List Int) : ∀ (d i : Nat) (s : Int × List Int), s.2.length ≤ i → (runL (decStep l) (fun s => (s.2, s.1, true)) d i s).1.length ≤ i + d
  | 0, i, s, h => by simpa [runL] using h
  | d + 1, i, s, h => by
    unfold runL decStep
    by_cases h1 : (readU l s.1).2.2 = true
    · rw [if_pos h1]
      have := dec_range l d (i + 1) ((readU l s.1).2.1, s.2 ++ [(readU l s.1).1]) (by simpa using h)
      show (runL (decStep l) (fun s => (s.2, s.1, true)) d (i + 1) ((readU l s.1).2.1, s.2 ++ [(readU l s.1).1])).1.length ≤ _
      omega
    · rw [if_neg h1]
      simp
theorem decV_len (l : List Int) (a c : Int) : (decV l a c).1.length ≤ 100 := by
  unfold decV
  by_cases h : (0 ≤ c ∧ c ≤ 100) ∧ (0 ≤ a ∧ a ≤ l.length)
  · rw [if_pos h]
    have := dec_range l c.toNat 0 (a, []) (by simp)
    omega
  · rw [if_neg h]
    simp
theorem cloneB (l : List Int) (hl : l.length ≤ 2000000000000) : slices_Clone_byte_byte.f l = some l := by
  unfold slices_Clone_byte_byte.f
  rw [if_pos (by omega)]
theorem implApp (k : Nat) (l : List Int) (n : Int) (hl : l.length ≤ 1000000000000) (hk : 6 < k) : impl_AppendUvarint.f k l n = some (appU l n) := by
  unfold impl_AppendUvarint.f appU
  simp only [cloneB l (by omega), Option.bind_some, inr]
  by_cases h : 0 ≤ n ∧ n ≤ 1000000000000
  · rw [if_pos (by simpa using h), if_pos h]
    refine uv_loop (fun k n s => impl_AppendUvarint.l0 k n s) (fun k n s hs => ?_) 5 k n l h.1 (by omega) (by omega) (by omega)
    simp only [impl_AppendUvarint.l0]
    rw [if_pos hs, if_pos hs]
  · rw [if_neg (by simpa using h), if_neg h]
def appB (l s : List Int) : List Int := appU l s.length ++ s
theorem implAppB (k : Nat) (l s : List Int) (hl : l.length ≤ 1000000000000) (hs : s.length ≤ 1000000000000) (hk : 6 < k) : impl_AppendBytes.f k l s = some (appB l s) := by
  unfold impl_AppendBytes.f appB
  have := appU_len l s.length
  rw [implApp k l _ hl hk]
  simp only [Option.bind_some]
  rw [if_pos (by omega)]
theorem implRead (l : List Int) (hl : l.length ≤ 140737488351232) (hw : ∀ x ∈ l, (Lit.int .u8 x).wf = true) (a : Int) (k : Nat) (hk : 6 < k) : impl_ReadUvarint.f k l a = some (readU l a) := by
  unfold impl_ReadUvarint.f readU impl_at.f
  by_cases h : 0 ≤ a ∧ a < l.length
  · rw [if_pos h, if_pos h.1]
    simp only [Option.bind_some, decide_eq_true_eq]
    rw [if_pos h.2]
    refine loop_run (fun k i s => impl_ReadUvarint.l0 k l a s (i : Int)) 6 (rdStep l a) (fun _ => (0, 0, false)) (fun _ _ => True) (fun k s _ => ?_) (fun k i s hi _ => ?_) (fun _ _ _ _ _ _ => trivial) 6 k 0 0 rfl hk trivial
    · simp [impl_ReadUvarint.l0]
    · simp only [impl_ReadUvarint.l0]
      have e1 : wrap64 (a + i) = a + i := by unfold wrap64; omega
      have e2 : wrap64 ((i : Int) + 1) = ((i + 1 : Nat) : Int) := by unfold wrap64; omega
      have e3 : wrap64 (7 * (i : Int)) = 7 * (i : Int) := by unfold wrap64; omega
      have b := u8_bd hw (a + i)
      have e4 : wrap64 (rd l (a + i)) = rd l (a + i) := by unfold wrap64; omega
      have e5 : wrap64 (a + i + 1) = a + i + 1 := by unfold wrap64; omega
      rw [if_pos (by omega)]
      simp only [e1, e2, e3, e4, e5]
      unfold rdStep
      by_cases h1 : a + i ≥ l.length
      · rw [if_pos h1, if_pos h1]
      · rw [if_neg h1, if_neg h1, if_pos (by omega), if_pos (by omega), if_pos (by omega)]
        by_cases h2 : rd l (a + i) < 128
        · rw [if_pos h2, if_pos h2]
          by_cases h3 : (i : Int) > 0
          · rw [if_pos h3]
            by_cases h4 : rd l (a + i) = 0
            · rw [if_pos h4, if_pos (Or.inl ⟨by omega, h4⟩)]
            · rw [if_neg h4]
              by_cases h5 : Go.bits .or .i64 s (shl .i64 (Go.bits .and .i64 (rd l (a + i)) 127) (7 * i)) > 1000000000000
              · rw [if_pos h5, if_pos (Or.inr h5)]
              · rw [if_neg h5, if_neg (by rintro (h | h); exact h4 h.2; exact h5 h)]
          · rw [if_neg h3]
            by_cases h5 : Go.bits .or .i64 s (shl .i64 (Go.bits .and .i64 (rd l (a + i)) 127) (7 * i)) > 1000000000000
            · rw [if_pos h5, if_pos (Or.inr h5)]
            · rw [if_neg h5, if_neg (by rintro (h | h); exact h3 (by omega); exact h5 h)]
        · rw [if_neg h2, if_neg h2]
  · rw [if_neg h]
    by_cases h1 : a ≥ 0
    · rw [if_pos h1]
      have : ¬ a < l.length := fun e => h ⟨h1, e⟩
      simp [this]
    · rw [if_neg h1]
      simp
theorem implReadB (k : Nat) (l : List Int) (a m : Int) (hl : l.length ≤ 1000000000000) (hw : ∀ x ∈ l, (Lit.int .u8 x).wf = true) (ha : (Lit.int .i64 a).wf = true) (hk : 20 < k) : impl_ReadBytes.f k l a m = some (readB l a m) := by
  unfold impl_ReadBytes.f readB
  rw [implRead l (by omega) hw a k (by omega)]
  have ok := readU_ok l a hw
  have no := readU_no l a
  generalize readU l a = r at ok no
  simp only [Option.bind_some]
  by_cases h1 : r.2.2 = true
  · obtain ⟨o1, o2, o3, o4, o5⟩ := ok h1
    rw [if_pos h1]
    by_cases h2 : r.1 > m
    · rw [if_pos h2, if_neg (by omega)]
    · have e1 : wrap64 ((l.length : Int) - r.2.1) = l.length - r.2.1 := by unfold wrap64; omega
      rw [if_neg h2, e1]
      by_cases h3 : r.1 > (l.length : Int) - r.2.1
      · rw [if_pos h3, if_neg (by omega)]
      · have e2 : wrap64 (r.2.1 + r.1) = r.2.1 + r.1 := by unfold wrap64; omega
        have hc : r.2.2 = true ∧ r.1 ≤ m ∧ r.1 ≤ (l.length : Int) - r.2.1 := ⟨h1, by omega, by omega⟩
        rw [if_neg h3, if_pos hc]
        simp only [e2, Option.bind_some]
        rw [if_pos (by omega), if_pos (by omega), if_pos (by omega), cloneB _ (by simp; omega)]
        rfl
  · rw [if_neg h1, if_neg (fun h => h1 h.1)]
theorem implEnc (k : Nat) (l : List Int) (hl : l.length ≤ 100000000000) (hk : l.length + 8 < k) : impl_EncodeInts.f k l = some (encV l) := by
  unfold impl_EncodeInts.f encV
  have h := enc_loop (fun k i s => impl_EncodeInts.l0 k s l (l.length : Int) (i : Int)) l hl (fun k s => ?_) (fun k i s hi hk hs => ?_) l.length k 0 [] (by omega) (by omega) (by simp)
  · simpa using h
  · simp only [impl_EncodeInts.l0]
    rw [if_neg (by omega)]
  · simp only [impl_EncodeInts.l0]
    rw [if_pos (by omega), if_pos (by omega), if_pos (by omega), wrap_nat hi (by omega), implApp k s _ (by omega) hk]
    rfl
theorem implDec (k : Nat) (l : List Int) (a c : Int) (hl : l.length ≤ 1000000000000) (hw : ∀ x ∈ l, (Lit.int .u8 x).wf = true) (hk : 130 < k) : impl_DecodeInts.f k l a c = some (decV l a c) := by
  unfold impl_DecodeInts.f decV
  obtain ⟨k, rfl⟩ : ∃ m, k = m + 1 := ⟨k - 1, by omega⟩
  simp only [Option.bind_some, inr]
  by_cases h1 : 0 ≤ c ∧ c ≤ 100
  · rw [if_pos (by simpa using h1)]
    by_cases h2 : 0 ≤ a ∧ a ≤ l.length
    · rw [if_pos ⟨h1, h2⟩]
      simp only [h2, and_self, decide_true, Bool.not_true, impl_DecodeInts.j0]
      rw [if_neg (by decide)]
      obtain ⟨n, rfl⟩ := Int.eq_ofNat_of_zero_le h1.1
      refine dec_loop (fun k i s => impl_DecodeInts.l0 k l s.1 s.2 (n : Int) (i : Int)) l n (by omega) hl hw (fun k s => ?_) (fun k i s hi hk h0 h1 h2 => ?_) n k 0 (a, []) (by omega) (by omega) h2.1 h2.2 rfl
      · simp only [impl_DecodeInts.l0]
        rw [if_neg (by omega)]
      · simp only [impl_DecodeInts.l0]
        rw [if_pos (by omega), implRead l (by omega) hw s.1 k (by omega), wrap_nat hi (by omega)]
        unfold decStep
        simp only [Option.bind_some]
        by_cases h : (readU l s.1).2.2 = true
        · rw [if_pos h, if_pos h, if_pos (by omega)]
        · rw [if_neg h, if_neg h]
    · rw [if_neg (fun h => h2 h.2)]
      simp [h2, impl_DecodeInts.j0]
  · rw [if_neg (by simpa using h1), if_neg (fun h => h1 h.1)]
    simp [impl_DecodeInts.j0]
theorem sameBytes (k : Nat) (a b : List Int) (ha : a.length ≤ 1000000000000) (hk : a.length < k) : laws_sameBytes.f k a b = some (decide (a = b)) := by
  unfold laws_sameBytes.f
  by_cases hl : a.length = b.length
  · rw [if_pos (by omega)]
    have h := eq_loop (fun k i => laws_sameBytes.l0 k a b (i : Int)) a b 0 hl (fun k => ?_) (fun k i hi => ?_) a.length k 0 (by omega) hk
    · simpa using h
    · simp only [laws_sameBytes.l0]
      rw [if_neg (by omega)]
    · simp only [laws_sameBytes.l0]
      rw [if_pos (by omega), if_pos (by omega), if_pos (by omega), wrap_nat hi (by omega)]
      simp [rd]
  · rw [if_neg (by omega)]
    have : ¬ a = b := fun e => hl (by rw [e])
    simp [this]
theorem sameInts (k : Nat) (a b : List Int) (ha : a.length ≤ 1000000000000) (hk : a.length < k) : laws_sameInts.f k a b = some (decide (a = b)) := by
  unfold laws_sameInts.f
  by_cases hl : a.length = b.length
  · rw [if_pos (by omega)]
    have h := eq_loop (fun k i => laws_sameInts.l0 k a b (i : Int)) a b 0 hl (fun k => ?_) (fun k i hi => ?_) a.length k 0 (by omega) hk
    · simpa using h
    · simp only [laws_sameInts.l0]
      rw [if_neg (by omega)]
    · simp only [laws_sameInts.l0]
      rw [if_pos (by omega), if_pos (by omega), if_pos (by omega), wrap_nat hi (by omega)]
      simp [rd]
  · rw [if_neg (by omega)]
    have : ¬ a = b := fun e => hl (by rw [e])
    simp [this]
theorem readU_end (l : List Int) : readU l l.length = (0, 0, false) := by
  unfold readU
  rw [if_neg (by omega)]
theorem appB_eq (b s : List Int) (hs : s.length ≤ 1000000) : appB b s = b ++ uv 5 s.length ++ s := by
  unfold appB appU
  rw [if_pos ⟨by omega, by omega⟩]
theorem appB_wf (b s : List Int) (hb : ∀ x ∈ b, (Lit.int .u8 x).wf = true) (hs : ∀ x ∈ s, (Lit.int .u8 x).wf = true) : ∀ x ∈ appB b s, (Lit.int .u8 x).wf = true := by
  intro x hx
  rcases List.mem_append.1 hx with hx | hx
  · exact appU_wf b _ hb x hx
  · exact hs x hx
theorem readB_app (b s : List Int) (hs : s.length ≤ 1000000) (hbw : ∀ x ∈ b, (Lit.int .u8 x).wf = true) (hsw : ∀ x ∈ s, (Lit.int .u8 x).wf = true) :
    readB (appB b s) b.length s.length = (s, ((appB b s).length : Int), true) ∧ readB (appB b s) b.length ((s.length : Int) - 1) = ([], 0, false) := by
  have w := appB_wf b s hbw hsw
  rw [appB_eq b s hs] at w ⊢
  have e := readU_app b s s.length (by omega) (by omega) w
  unfold readB
  rw [e]
  constructor
  · rw [if_pos ⟨rfl, Int.le_refl _, by simp only [List.length_append]; omega⟩]
    have t1 : (((b.length + (uv 5 (s.length : Int)).length : Nat) : Int) + (s.length : Int)).toNat = (b ++ uv 5 (s.length : Int) ++ s).length := by
      simp only [List.length_append]
      omega
    have t2 : (((b.length + (uv 5 (s.length : Int)).length : Nat) : Int)).toNat = (b ++ uv 5 (s.length : Int)).length := by
      simp only [List.length_append]
      omega
    simp only [t1, t2, List.take_length, List.drop_left]
    simp only [List.length_append]
    congr 2
  · rw [if_neg (by intro h; have := h.2.1; simp at this; omega)]
def flat (l : List Int) : List Int := (l.map (uv 5)).flatten
theorem enc_flat : ∀ (l acc : List Int), (∀ x ∈ l, 0 ≤ x ∧ x ≤ 1000000000000) → encFrom l acc = acc ++ flat l
  | [], acc, _ => by simp [encFrom, flat]
  | x :: l, acc, h => by
    have hx := h x (List.mem_cons_self ..)
    have e : appU acc x = acc ++ uv 5 x := by
      unfold appU
      rw [if_pos hx]
    have := enc_flat l (appU acc x) (fun y hy => h y (List.mem_cons_of_mem _ hy))
    unfold encFrom at this ⊢
    rw [List.foldl_cons, this, e]
    simp [flat]
theorem flat_wf (l : List Int) : ∀ x ∈ flat l, (Lit.int .u8 x).wf = true := by
  intro x hx
  obtain ⟨s, hs, hx⟩ := List.mem_flatten.1 hx
  obtain ⟨y, _, rfl⟩ := List.mem_map.1 hs
  exact uv_wf 5 y x hx
theorem dec_flat : ∀ (l p : List Int) (i : Nat) (out : List Int), (∀ x ∈ l, 0 ≤ x ∧ x ≤ 1000000000000) → (∀ x ∈ p, (Lit.int .u8 x).wf = true) →
    runL (decStep (p ++ flat l)) (fun s => (s.2, s.1, true)) l.length i ((p.length : Int), out) = (out ++ l, ((p ++ flat l).length : Int), true) ∧
    runL (decStep (p ++ flat l)) (fun s => (s.2, s.1, true)) (l.length + 1) i ((p.length : Int), out) = ([], 0, false)
  | [], p, i, out, _, _ => by
    simp only [flat, List.map_nil, List.flatten_nil, List.append_nil, List.length_nil, runL]
    refine ⟨trivial, ?_⟩
    unfold decStep
    rw [readU_end, if_neg (by simp)]
  | x :: l, p, i, out, h, hp => by
    have hx := h x (List.mem_cons_self ..)
    have ef : flat (x :: l) = uv 5 x ++ flat l := by simp [flat]
    have e0 : p ++ flat (x :: l) = p ++ uv 5 x ++ flat l := by rw [ef, List.append_assoc]
    have w : ∀ y ∈ p ++ uv 5 x ++ flat l, (Lit.int .u8 y).wf = true := by
      intro y hy
      rcases List.mem_append.1 hy with hy | hy
      · rcases List.mem_append.1 hy with hy | hy
        · exact hp y hy
        · exact uv_wf 5 x y hy
      · exact flat_wf l y hy
    have er := readU_app p (flat l) x hx.1 hx.2 w
    have ih := dec_flat l (p ++ uv 5 x) (i + 1) (out ++ [x]) (fun y hy => h y (List.mem_cons_of_mem _ hy)) (fun y hy => w y (List.mem_append_left _ hy))
    have el : (((p ++ uv 5 x).length : Nat) : Int) = ((p.length + (uv 5 x).length : Nat) : Int) := by simp
    have step : decStep (p ++ uv 5 x ++ flat l) i ((p.length : Int), out) = .inr (((p ++ uv 5 x).length : Int), out ++ [x]) := by
      unfold decStep
      rw [er, if_pos rfl, el]
    rw [e0]
    constructor
    · show runL _ _ (l.length + 1) i _ = _
      unfold runL
      rw [step]
      have := ih.1
      simp only at this ⊢
      rw [this]
      simp
    · show runL _ _ (l.length + 1 + 1) i _ = _
      unfold runL
      rw [step]
      exact ih.2
theorem decV_enc (s : List Int) (hs : ∀ x ∈ s, 0 ≤ x ∧ x ≤ 1000000000000) (hn : s.length ≤ 99) : (∀ x ∈ encV s, (Lit.int .u8 x).wf = true) ∧ decV (encV s) 0 s.length = (s, ((encV s).length : Int), true) ∧ decV (encV s) 0 ((s.length : Int) + 1) = ([], 0, false) := by
  have ef : encV s = flat s := by
    have := enc_flat s [] hs
    simpa [encV] using this
  have df := dec_flat s [] 0 [] hs (by simp)
  simp only [List.nil_append, List.length_nil] at df
  rw [ef]
  refine ⟨flat_wf s, ?_, ?_⟩
  · unfold decV
    rw [if_pos ⟨⟨by omega, by omega⟩, Int.le_refl 0, by omega⟩, Int.toNat_natCast]
    exact df.1
  · unfold decV
    rw [if_pos ⟨⟨by omega, by omega⟩, Int.le_refl 0, by omega⟩, show ((s.length : Int) + 1).toNat = s.length + 1 by omega]
    exact df.2
theorem at_ok (l : List Int) (hl : l.length ≤ 1048576) (hw : ∀ x ∈ l, (Lit.int .u8 x).wf = true) (a : Int) (h0 : 0 ≤ a) (h1 : a ≤ 1000) : ∃ v, laws_at.f l a = some v ∧ 0 ≤ v ∧ v ≤ 255 := by
  unfold laws_at.f
  by_cases h : a < (l.length : Int)
  · rw [if_pos h, if_pos h0]
    have b := u8_bd hw a
    refine ⟨_, rfl, ?_⟩
    unfold wrap64
    omega
  · rw [if_neg h]
    have q : wrap64 (wrap64 (a * 31) + wrap64 ((l.length : Int) * 7)) = a * 31 + l.length * 7 := by
      have q1 : wrap64 (a * 31) = a * 31 := by unfold wrap64; omega
      have q2 : wrap64 ((l.length : Int) * 7) = l.length * 7 := by unfold wrap64; omega
      rw [q1, q2]
      unfold wrap64
      omega
    refine ⟨_, rfl, ?_⟩
    rw [q, Int.tmod_eq_emod_of_nonneg (by omega)]
    omega
theorem prod3 (x y z : Int) (x0 : 0 ≤ x) (x1 : x ≤ 255) (y0 : 0 ≤ y) (y1 : y ≤ 255) (z0 : 0 ≤ z) (z1 : z ≤ 255) : wrap64 (x * y) = x * y ∧ wrap64 (x * y * z) = x * y * z ∧ 0 ≤ x * y * z ∧ x * y * z ≤ 20000000 := by
  have p1 : 0 ≤ x * y ∧ x * y ≤ 255 * 255 := ⟨Int.mul_nonneg x0 y0, Int.mul_le_mul x1 y1 y0 (by omega)⟩
  have p2 : 0 ≤ x * y * z ∧ x * y * z ≤ 255 * 255 * 255 := ⟨Int.mul_nonneg p1.1 z0, Int.mul_le_mul p1.2 z1 z0 (by omega)⟩
  unfold wrap64
  omega
theorem tail_end (k : Nat) (l s : List Int) (t : Int) (ht : laws_at.f l 0 = some t) (hge : ¬ (s.length : Int) < Int.tmod t 6) (hn : s.length ≤ 99) (hs : ∀ x ∈ s, 0 ≤ x ∧ x ≤ 1000000000000) (hk : 180 < k) : laws_FnByteStrings.l0 (k + 1) l s (s.length : Int) = some true := by
  have lf := encV_len s
  obtain ⟨wf, d1, d2⟩ := decV_enc s hs hn
  have e0 := implEnc k s (by omega) (by omega)
  have e1 := implDec k (encV s) 0 s.length (by omega) wf (by omega)
  have e2 := implDec k (encV s) 0 ((s.length : Int) + 1) (by omega) wf (by omega)
  have e3 : wrap64 ((s.length : Int) + 1) = s.length + 1 := by
    unfold wrap64
    omega
  have e4 := sameInts k s s (by omega) (by omega)
  rw [d1] at e1
  rw [d2] at e2
  generalize encV s = g at e0 e1 e2
  simp only [laws_FnByteStrings.l0, ht, Option.bind_some]
  rw [if_neg hge, e0, e3]
  simp only [Option.bind_some, e1, e2, if_true, e4, decide_true, Bool.not_false]
theorem tail_ok (k : Nat) (l : List Int) (hl : l.length ≤ 1048576) (hw : ∀ x ∈ l, (Lit.int .u8 x).wf = true) (t : Int) (ht : laws_at.f l 0 = some t) (ht0 : 0 ≤ t) : ∀ (d : Nat) (k : Nat) (s : List Int), (d : Int) = Int.tmod t 6 - s.length → d + 200 < k → (∀ x ∈ s, 0 ≤ x ∧ x ≤ 1000000000000) →
    laws_FnByteStrings.l0 k l s (s.length : Int) = some true := by
  have t6 := tmod_bd t (b := 6) (by omega)
  intro d
  induction d with
  | zero =>
    intro k s hd hk hs
    obtain ⟨k, rfl⟩ : ∃ m, k = m + 1 := ⟨k - 1, by omega⟩
    exact tail_end k l s t ht (by omega) (by omega) hs (by omega)
  | succ d ih =>
    intro k s hd hk hs
    obtain ⟨k, rfl⟩ : ∃ m, k = m + 1 := ⟨k - 1, by omega⟩
    simp only [laws_FnByteStrings.l0, ht, Option.bind_some]
    have e1 : wrap64 ((s.length : Int) + 1) = s.length + 1 := by unfold wrap64; omega
    have e2 : wrap64 ((s.length : Int) + 2) = s.length + 2 := by unfold wrap64; omega
    have e3 : wrap64 ((s.length : Int) + 3) = s.length + 3 := by unfold wrap64; omega
    obtain ⟨x, ex, x0, x1⟩ := at_ok l hl hw (s.length + 1) (by omega) (by omega)
    obtain ⟨y, ey, y0, y1⟩ := at_ok l hl hw (s.length + 2) (by omega) (by omega)
    obtain ⟨z, ez, z0, z1⟩ := at_ok l hl hw (s.length + 3) (by omega) (by omega)
    rw [if_pos (by omega), e1, e2, e3, ex]
    simp only [Option.bind_some]
    rw [ey]
    simp only [Option.bind_some]
    rw [ez]
    simp only [Option.bind_some]
    rw [if_pos (by omega)]
    obtain ⟨w1, w2, p0, p2⟩ := prod3 x y z x0 x1 y0 y1 z0 z1
    rw [w1, w2]
    have h := ih k (s ++ [x * y * z]) (by simp; omega) (by omega) (by
      intro v hv
      rcases List.mem_append.1 hv with hv | hv
      · exact hs v hv
      · obtain rfl := List.mem_singleton.1 hv
        omega)
    rw [List.length_append, List.length_singleton] at h
    exact h
theorem FnByteStrings : laws_FnByteStrings.Pure := by
  intro l _ hb hw
  refine ⟨l.length + 600, ?_⟩
  unfold laws_FnByteStrings.f laws_big.f
  simp only [Option.bind_some, decide_eq_true_eq]
  by_cases h : (l.length : Int) > 1048576
  · rw [if_pos h]
  rw [if_neg h]
  unfold spec_DrawAppendBytes.f
  obtain ⟨h0, e⟩ := new_ok (l.length + 600) l (by omega) (by omega)
  rw [e]
  simp only [Option.bind_some]
  obtain ⟨c, i1, h1, e, c0, c1, _, j1⟩ := below_ok l (by omega) 0 h0 3 (by omega)
  have := c1 (by decide)
  rw [e]
  simp only [Option.bind_some]
  obtain ⟨b, i2, h2, e, wb, lb, j2⟩ := bytes_ok (l.length + 600) l (by omega) i1 h1 c (by omega) (by omega) j1
  rw [e]
  simp only [Option.bind_some]
  obtain ⟨c', i3, h3, e, c0', c1', _, j3⟩ := below_ok l (by omega) i2 h2 6 j2
  have := c1' (by decide)
  rw [e]
  simp only [Option.bind_some]
  obtain ⟨s, i4, h4, e, ws, ls, j4⟩ := bytes_ok (l.length + 600) l (by omega) i3 h3 c' (by omega) (by omega) j3
  rw [e]
  simp only [Option.bind_some]
  have la := appU_len b s.length
  have lap : (appB b s).length = (appU b s.length).length + s.length := by simp [appB]
  have wa := appB_wf b s wb ws
  have rb := readB_app b s (by omega) wb ws
  rw [implAppB _ b s (by omega) (by omega) (by omega)]
  simp only [Option.bind_some]
  have wf1 : (Lit.int .i64 (b.length : Int)).wf = true := by simp [Lit.wf, IntKind.min, IntKind.max, IntKind.signed, IntKind.bits]; omega
  rw [implReadB _ (appB b s) _ _ (by omega) wa wf1 (by omega), rb.1]
  simp only [Option.bind_some]
  rw [implReadB _ (appB b s) _ _ (by omega) wa wf1 (by omega), show wrap64 ((s.length : Int) - 1) = s.length - 1 by unfold wrap64; omega, rb.2]
  simp only [Option.bind_some, if_true]
  rw [sameBytes _ s s (by omega) (by omega)]
  simp only [Option.bind_some, decide_true, if_true, laws_FnByteStrings.j0, Bool.false_eq_true, if_false]
  obtain ⟨t, et, t0, t1⟩ := at_ok l (by omega) hw 0 (by omega) (by omega)
  have t6 := tmod_bd t (b := 6) (by omega)
  have tn : 0 ≤ Int.tmod t 6 := by rw [Int.tmod_eq_emod_of_nonneg t0]; omega
  exact tail_ok 0 l (by omega) hw t et t0 (Int.tmod t 6).toNat (l.length + 599) [] (by simp; omega) (by omega) (by simp)
end Go.Proofs.Ytoblbpgipkmljab.Pure
