/- The law FnVarints answers true for every byte slice: an integer is decoded from its varint, and a decoded varint is the encoding of its integer. No condition. -/
import Derived.Test.YtoblbpgipkmljabPFnVarintsx4
namespace Go.Proofs.Ytoblbpgipkmljab.Pure
open Go.RowKit Go.Proofs.Ytoblbpgipkmljab.PFnVarints Go.Proofs.YtoblbpgipkmljabW.PrintWords Go.Proofs.YtoblbpgipkmljabW.PrintLast Go.Proofs.YtoblbpgipkmljabW.PrintMore
set_option linter.unusedVariables false
set_option linter.unusedSimpArgs false
theorem wrap_nat {m n : Nat} (h : m < n) (hn : n ≤ 140737488351232) : wrap64 ((m : Int) + 1) = ((m + 1 : Nat) : Int) := by
  unfold wrap64
  omega
theorem getD_set_self {α : Type} (l : List α) (i j : Nat) (v d : α) : (l.set i v).getD j d = if i = j ∧ i < l.length then v else l.getD j d := by
  simp only [List.getD_eq_getElem?_getD, List.getElem?_set]
  by_cases h : i = j
  · subst h
    by_cases h2 : i < l.length
    · simp [h2]
    · simp [h2]
  · simp [h]
theorem ext_getD {α : Type} (a b : List α) (d : α) (hl : a.length = b.length) (h : ∀ j, j < b.length → a.getD j d = b.getD j d) : a = b := by
  refine List.ext_getElem hl fun j h1 h2 => ?_
  have := h j h2
  simpa [List.getD_eq_getElem?_getD, List.getElem?_eq_getElem h1, List.getElem?_eq_getElem h2] using this
theorem copy_loop {α : Type} (F : Nat → Nat → List α → Option (List α)) (x0 : List α) (dv : α)
    (hend : ∀ k s, s.length = x0.length → F (k + 1) x0.length s = some s)
    (hstep : ∀ k i s, i < x0.length → s.length = x0.length → F (k + 1) i s = F k (i + 1) (s.set i (x0.getD i dv))) :
    ∀ (d k i : Nat) (s : List α), i + d = x0.length → d < k → s.length = x0.length → (∀ j, j < i → s.getD j dv = x0.getD j dv) → F k i s = some x0 := by
  intro d
  induction d with
  | zero =>
    intro k i s hi hk hs hj
    obtain ⟨k, rfl⟩ : ∃ m, k = m + 1 := ⟨k - 1, by omega⟩
    obtain rfl : i = x0.length := by omega
    rw [hend k s hs, ext_getD s x0 dv hs hj]
  | succ d ih =>
    intro k i s hi hk hs hj
    obtain ⟨k, rfl⟩ : ∃ m, k = m + 1 := ⟨k - 1, by omega⟩
    rw [hstep k i s (by omega) hs]
    refine ih k (i + 1) _ (by omega) (by omega) (by simpa using hs) fun j h => ?_
    rw [getD_set_self]
    by_cases e : i = j
    · subst e
      rw [if_pos ⟨rfl, by omega⟩]
    · rw [if_neg (fun h => e h.1)]
      exact hj j (by omega)
theorem eq_loop {α : Type} [DecidableEq α] (F : Nat → Nat → Option Bool) (x0 x1 : List α) (dv : α) (hl : x0.length = x1.length)
    (hend : ∀ k, F (k + 1) x0.length = some true)
    (hstep : ∀ k i, i < x0.length → F (k + 1) i = if x0.getD i dv = x1.getD i dv then F k (i + 1) else some false) :
    ∀ (d k i : Nat), i + d = x0.length → d < k → F k i = some (decide (x0.drop i = x1.drop i)) := by
  intro d
  induction d with
  | zero =>
    intro k i hi hk
    obtain ⟨k, rfl⟩ : ∃ m, k = m + 1 := ⟨k - 1, by omega⟩
    obtain rfl : i = x0.length := by omega
    rw [hend]
    simp [hl]
  | succ d ih =>
    intro k i hi hk
    obtain ⟨k, rfl⟩ : ∃ m, k = m + 1 := ⟨k - 1, by omega⟩
    have h0 : i < x0.length := by omega
    have h1 : i < x1.length := by omega
    rw [hstep k i h0, ih k (i + 1) (by omega) (by omega), List.drop_eq_getElem_cons h0, List.drop_eq_getElem_cons h1]
    simp only [List.getD_eq_getElem?_getD, List.getElem?_eq_getElem h0, List.getElem?_eq_getElem h1, Option.getD_some, List.cons.injEq]
    by_cases e : x0[i] = x1[i] <;> simp [e]
theorem mark_loop {α : Type} (F : Nat → Nat → List α → Option (Int × List α)) (n : Nat) (val : Nat → α)
    (hend : ∀ k s, s.length = n → F (k + 1) n s = some (1 + (n : Int), s))
    (hstep : ∀ k i s, i < n → s.length = n → F (k + 1) i s = F k (i + 1) (s.set i (val i))) (dv : α) :
    ∀ (d k i : Nat) (s : List α), i + d = n → d < k → s.length = n → (∀ j, j < i → s.getD j dv = val j) → F k i s = some (1 + (n : Int), (List.range n).map val) := by
  intro d
  induction d with
  | zero =>
    intro k i s hi hk hs hj
    obtain ⟨k, rfl⟩ : ∃ m, k = m + 1 := ⟨k - 1, by omega⟩
    obtain rfl : i = n := by omega
    rw [hend k s hs]
    have e : s = (List.range i).map val := ext_getD s _ dv (by simpa using hs) fun j h => by
      have h' : j < i := by simpa using h
      rw [hj j h']
      simp [List.getD_eq_getElem?_getD, h']
    rw [← e]
  | succ d ih =>
    intro k i s hi hk hs hj
    obtain ⟨k, rfl⟩ : ∃ m, k = m + 1 := ⟨k - 1, by omega⟩
    rw [hstep k i s (by omega) hs]
    refine ih k (i + 1) _ (by omega) (by omega) (by simpa using hs) fun j h => ?_
    rw [getD_set_self]
    by_cases e : i = j
    · subst e
      rw [if_pos ⟨rfl, by omega⟩]
    · rw [if_neg (fun h => e h.1)]
      exact hj j (by omega)
theorem held_loop (F : Nat → Nat → Option Int) (n : Nat)
    (hend : ∀ k, F (k + 1) n = some (1 + (n : Int)))
    (hstep : ∀ k i, i < n → F (k + 1) i = F k (i + 1)) :
    ∀ (d k i : Nat), i + d = n → d < k → F k i = some (1 + (n : Int)) := by
  intro d
  induction d with
  | zero =>
    intro k i hi hk
    obtain ⟨k, rfl⟩ : ∃ m, k = m + 1 := ⟨k - 1, by omega⟩
    obtain rfl : i = n := by omega
    exact hend k
  | succ d ih =>
    intro k i hi hk
    obtain ⟨k, rfl⟩ : ∃ m, k = m + 1 := ⟨k - 1, by omega⟩
    rw [hstep k i (by omega)]
    exact ih k (i + 1) (by omega) (by omega)
/-- A loop that counts up, told by its step. -/
def runL {σ ρ : Type} (step : Nat → σ → ρ ⊕ σ) (fin : σ → ρ) : Nat → Nat → σ → ρ
  | 0, _, s => fin s
  | d + 1, i, s => match step i s with
    | .inl r => r
    | .inr s' => runL step fin d (i + 1) s'
theorem loop_run {σ ρ : Type} (F : Nat → Nat → σ → Option ρ) (n : Nat) (step : Nat → σ → ρ ⊕ σ) (fin : σ → ρ) (Inv : Nat → σ → Prop)
    (hend : ∀ k s, Inv n s → F (k + 1) n s = some (fin s))
    (hstep : ∀ k i s, i < n → Inv i s → F (k + 1) i s = match step i s with
      | .inl r => some r
      | .inr s' => F k (i + 1) s')
    (hinv : ∀ i s s', i < n → Inv i s → step i s = .inr s' → Inv (i + 1) s') :
    ∀ (d k i : Nat) (s : σ), i + d = n → d < k → Inv i s → F k i s = some (runL step fin d i s) := by
  intro d
  induction d with
  | zero =>
    intro k i s hi hk hs
    obtain ⟨k, rfl⟩ : ∃ m, k = m + 1 := ⟨k - 1, by omega⟩
    obtain rfl : i = n := by omega
    exact hend k s hs
  | succ d ih =>
    intro k i s hi hk hs
    obtain ⟨k, rfl⟩ : ∃ m, k = m + 1 := ⟨k - 1, by omega⟩
    rw [hstep k i s (by omega) hs]
    unfold runL
    cases e : step i s with
    | inl r => rfl
    | inr s' => exact ih k (i + 1) s' (by omega) (by omega) (hinv i s s' (by omega) hs e)
theorem one_neg (n : Nat) : (1 + (n : Int) < 0) = False := by
  simp
  omega
theorem u8_bds {n : Int} (h : (Lit.int .u8 n).wf = true) : 0 ≤ n ∧ n ≤ 255 := by
  simp [Lit.wf, IntKind.min, IntKind.max, IntKind.signed, IntKind.bits] at h
  omega
theorem i64_bds {n : Int} (h : (Lit.int .i64 n).wf = true) : -9223372036854775808 ≤ n ∧ n ≤ 9223372036854775807 := by
  simp [Lit.wf, IntKind.min, IntKind.max, IntKind.signed, IntKind.bits] at h
  omega
theorem tmod_bd (a : Int) {b : Int} (hb : 0 < b) : -b < Int.tmod a b ∧ Int.tmod a b < b := by
  by_cases h : 0 ≤ a
  · rw [Int.tmod_eq_emod_of_nonneg h]
    have := Int.emod_nonneg a (show b ≠ 0 by omega)
    have := Int.emod_lt_of_pos a hb
    omega
  · have e : Int.tmod a b = -(Int.tmod (-a) b) := by rw [Int.neg_tmod]; omega
    rw [e, Int.tmod_eq_emod_of_nonneg (by omega)]
    have := Int.emod_nonneg (-a) (show b ≠ 0 by omega)
    have := Int.emod_lt_of_pos (-a) hb
    omega
theorem wraps62 (n : Int) (h0 : 0 ≤ n) (h1 : n < 2 ^ 62) : IntKind.i64.wrap n = n := by
  rw [IntKind.wrap_i64]
  omega
theorem and127 (c : Int) (h0 : 0 ≤ c) (h1 : c < 2 ^ 62) : Go.bits .and .i64 c 127 = c % 128 := bits_mask .i64 62 (by decide) wraps62 7 (by decide) c h0 h1
theorem or_low (n s : Int) (j : Nat) (hj : j ≤ 62) (h0 : 0 ≤ n) (h1 : n < 2 ^ j) (hs0 : 0 ≤ s) (hs : s % 2 ^ j = 0) (hs1 : s < 2 ^ 62) : Go.bits .or .i64 n s = n + s := by
  have hn : n < 2 ^ 62 := Int.lt_of_lt_of_le h1 (by have h := Nat.pow_le_pow_right (show 0 < 2 by decide) hj; exact_mod_cast h)
  have e := bits_join .i64 62 (by decide) wraps62 j s n hs0 hs hs1 h0 h1 hn
  obtain ⟨a, rfl⟩ := Int.eq_ofNat_of_zero_le h0
  obtain ⟨b, rfl⟩ := Int.eq_ofNat_of_zero_le hs0
  have ha : a < 2 ^ 62 := by exact_mod_cast hn
  have hb : b < 2 ^ 62 := by exact_mod_cast hs1
  rw [(bits_nat .i64 62 (by decide) wraps62 a b ha hb).2]
  rw [(bits_nat .i64 62 (by decide) wraps62 b a hb ha).2] at e
  rw [Nat.or_comm, e]
  omega
/-- What a byte adds to a varint's number. -/
theorem comb_eq (n c : Int) (i : Nat) (hi : i < 6) (h0 : 0 ≤ n) (h1 : n < 2 ^ (7 * i)) (hc : 0 ≤ c ∧ c ≤ 255) :
    Go.bits .or .i64 n (shl .i64 (Go.bits .and .i64 c 127) (7 * (i : Int))) = n + c % 128 * 2 ^ (7 * i) := by
  rw [and127 c hc.1 (by omega)]
  have hm : 0 ≤ c % 128 ∧ c % 128 < 128 := ⟨by omega, by omega⟩
  generalize c % 128 = m at hm
  have e : shl .i64 m (7 * (i : Int)) = m * 2 ^ (7 * i) := by
    unfold shl
    have : min (7 * (i : Int)).toNat IntKind.i64.bits = 7 * i := by
      show min (7 * (i : Int)).toNat 64 = 7 * i
      omega
    rw [this]
    have hi' : i = 0 ∨ i = 1 ∨ i = 2 ∨ i = 3 ∨ i = 4 ∨ i = 5 := by omega
    rcases hi' with rfl | rfl | rfl | rfl | rfl | rfl <;> exact wraps62 _ (by simp; omega) (by simp; omega)
  rw [e]
  have hi' : i = 0 ∨ i = 1 ∨ i = 2 ∨ i = 3 ∨ i = 4 ∨ i = 5 := by omega
  refine or_low n _ (7 * i) (by omega) h0 h1 (by rcases hi' with rfl | rfl | rfl | rfl | rfl | rfl <;> simp <;> omega) (Int.mul_emod_left _ _) ?_
  rcases hi' with rfl | rfl | rfl | rfl | rfl | rfl <;> simp <;> omega
theorem and_mask (x : Int) (m : Nat) (hm : m < 2 ^ 31) : 0 ≤ Go.bits .and .i64 x m ∧ Go.bits .and .i64 x m ≤ m := by
  have h : (BitVec.ofInt 64 x &&& BitVec.ofInt 64 (m : Int)).toNat ≤ m := by
    rw [BitVec.toNat_and]
    refine Nat.le_trans Nat.and_le_right ?_
    rw [BitVec.ofInt_natCast, BitVec.toNat_ofNat]
    exact Nat.mod_le _ _
  have e : Go.bits .and .i64 x m = (((BitVec.ofInt 64 x &&& BitVec.ofInt 64 (m : Int)).toNat : Nat) : Int) := by
    simp only [Go.bits]
    show IntKind.i64.wrap (((BitVec.ofInt 64 x &&& BitVec.ofInt 64 (m : Int)).toNat : Nat) : Int) = _
    exact wraps62 _ (by omega) (by omega)
  rw [e]
  omega
def rdStep (l : List Int) (a : Int) (i : Nat) (n : Int) : (Int × Int × Bool) ⊕ Int :=
  if a + i ≥ l.length then .inl (0, 0, false)
  else if rd l (a + i) < 128 then
    if (0 < i ∧ rd l (a + i) = 0) ∨ Go.bits .or .i64 n (shl .i64 (Go.bits .and .i64 (rd l (a + i)) 127) (7 * i)) > 1000000000000 then .inl (0, 0, false)
    else .inl (Go.bits .or .i64 n (shl .i64 (Go.bits .and .i64 (rd l (a + i)) 127) (7 * i)), a + i + 1, true)
  else .inr (Go.bits .or .i64 n (shl .i64 (Go.bits .and .i64 (rd l (a + i)) 127) (7 * i)))
/-- What both ReadUvarint come to. -/
def readU (l : List Int) (a : Int) : Int × Int × Bool :=
  if 0 ≤ a ∧ a < l.length then runL (rdStep l a) (fun _ => (0, 0, false)) 6 0 0 else (0, 0, false)
theorem u8_bd {l : List Int} (h : ∀ x ∈ l, (Lit.int .u8 x).wf = true) (j : Int) : 0 ≤ rd l j ∧ rd l j ≤ 255 := by
  unfold rd
  rw [List.getD_eq_getElem?_getD]
  by_cases hj : j.toNat < l.length
  · rw [List.getElem?_eq_getElem hj]
    exact u8_bds (h _ (List.getElem_mem _))
  · rw [List.getElem?_eq_none (by omega)]
    exact ⟨Int.le_refl 0, by decide⟩
/-- The cursor: what it reads, where it stands. -/
theorem byte_ok (b : List Int) (hb : b.length ≤ 140737488351232) (i h : Int) (hi : 0 ≤ i) : ∃ v i' h', spec_l1Byte.f b i h = some (v, i', h') ∧ 0 ≤ v ∧ v ≤ 255 ∧ 0 ≤ i' := by
  unfold spec_l1Byte.f
  by_cases h1 : i < b.length
  · rw [if_pos h1, if_pos hi]
    refine ⟨_, _, _, rfl, (and_mask _ 255 (by decide)).1, (and_mask _ 255 (by decide)).2, ?_⟩
    unfold wrap64
    omega
  · rw [if_neg h1]
    exact ⟨_, _, _, rfl, (and_mask _ 255 (by decide)).1, (and_mask _ 255 (by decide)).2, hi⟩
theorem below_ok (b : List Int) (hb : b.length ≤ 140737488351232) (i h n : Int) (hi : 0 ≤ i) : ∃ v i' h', spec_l1Below.f b i h n = some (v, i', h') ∧ 0 ≤ v ∧ (0 < n → v < n) ∧ (n ≤ 0 → v = 0) ∧ 0 ≤ i' := by
  unfold spec_l1Below.f
  by_cases h1 : n ≤ 0
  · rw [if_pos h1]
    exact ⟨_, _, _, rfl, Int.le_refl _, fun h => by omega, fun _ => rfl, hi⟩
  · rw [if_neg h1]
    by_cases h2 : n ≤ 256
    · rw [if_pos h2]
      obtain ⟨v, i', h', e, v0, v1, i0⟩ := byte_ok b hb i h hi
      rw [e]
      simp only [Option.bind_some]
      rw [if_neg (by omega)]
      have t := tmod_bd v (b := n) (by omega)
      exact ⟨_, _, _, rfl, by rw [Int.tmod_eq_emod_of_nonneg v0]; exact Int.emod_nonneg _ (by omega), fun _ => t.2, fun h => by omega, i0⟩
    · rw [if_neg h2]
      obtain ⟨x, i1, h1', e1, x0, x1, j1⟩ := byte_ok b hb i h hi
      rw [e1]
      simp only [Option.bind_some]
      obtain ⟨y, i2, h2', e2, y0, y1, j2⟩ := byte_ok b hb i1 h1' j1
      rw [e2]
      simp only [Option.bind_some]
      obtain ⟨z, i3, h3', e3, z0, z1, j3⟩ := byte_ok b hb i2 h2' j2
      rw [e3]
      simp only [Option.bind_some]
      rw [if_neg (by omega)]
      have q : wrap64 (wrap64 (wrap64 (x * 65536) + wrap64 (y * 256)) + z) = x * 65536 + y * 256 + z := by
        have q1 : wrap64 (x * 65536) = x * 65536 := by unfold wrap64; omega
        have q2 : wrap64 (y * 256) = y * 256 := by unfold wrap64; omega
        rw [q1, q2]
        have q3 : wrap64 (x * 65536 + y * 256) = x * 65536 + y * 256 := by unfold wrap64; omega
        rw [q3]
        unfold wrap64
        omega
      rw [q]
      have t := tmod_bd (x * 65536 + y * 256 + z) (b := n) (by omega)
      exact ⟨_, _, _, rfl, by rw [Int.tmod_eq_emod_of_nonneg (by omega)]; exact Int.emod_nonneg _ (by omega), fun _ => t.2, fun h => by omega, j3⟩
theorem new_loop (b : List Int) (hb : b.length ≤ 140737488351232) : ∀ (d k : Nat) (i : Nat) (h : Int), (b.length - i : Nat) = d → i ≤ b.length → d < k → ∃ h', spec_l1New.l0 k b h (i : Int) = some (b, 0, h') := by
  intro d
  induction d with
  | zero =>
    intro k i h hd hi hk
    obtain ⟨k, rfl⟩ : ∃ m, k = m + 1 := ⟨k - 1, by omega⟩
    simp only [spec_l1New.l0]
    rw [if_neg (by omega)]
    exact ⟨_, rfl⟩
  | succ d ih =>
    intro k i h hd hi hk
    obtain ⟨k, rfl⟩ : ∃ m, k = m + 1 := ⟨k - 1, by omega⟩
    simp only [spec_l1New.l0]
    rw [if_pos (by omega)]
    by_cases h4 : (i : Int) < 4000
    · rw [if_pos h4, if_pos (by omega), wrap_nat (n := b.length) (by omega) hb]
      exact ih k (i + 1) _ (by omega) (by omega) (by omega)
    · rw [if_neg h4]
      exact ⟨_, rfl⟩
theorem new_ok (k : Nat) (b : List Int) (hb : b.length ≤ 140737488351232) (hk : b.length < k) : ∃ h, spec_l1New.f k b = some (b, 0, h) := by
  unfold spec_l1New.f
  exact new_loop b hb b.length k 0 _ (by omega) (by omega) hk
theorem bytes_loop (b : List Int) (hb : b.length ≤ 140737488351232) (n : Int) (hn : n ≤ 1000000000) : ∀ (d k j : Nat) (s : List Int) (i h : Int), (n - j).toNat = d → d < k → s.length = j → (∀ x ∈ s, (Lit.int .u8 x).wf = true) → 0 ≤ i →
    ∃ r i' h', spec_l1Bytes.l0 k n s (j : Int) b i h = some (r, i', h') ∧ (∀ x ∈ r, (Lit.int .u8 x).wf = true) ∧ r.length = j + d ∧ 0 ≤ i' := by
  intro d
  induction d with
  | zero =>
    intro k j s i h hd hk hs hw hi
    obtain ⟨k, rfl⟩ : ∃ m, k = m + 1 := ⟨k - 1, by omega⟩
    simp only [spec_l1Bytes.l0]
    rw [if_neg (by omega)]
    exact ⟨_, _, _, rfl, hw, by omega, hi⟩
  | succ d ih =>
    intro k j s i h hd hk hs hw hi
    obtain ⟨k, rfl⟩ : ∃ m, k = m + 1 := ⟨k - 1, by omega⟩
    simp only [spec_l1Bytes.l0]
    rw [if_pos (by omega)]
    obtain ⟨v, i', h', e, v0, v1, i0⟩ := byte_ok b hb i h hi
    rw [e]
    simp only [Option.bind_some]
    rw [if_pos (by omega), show wrap64 ((j : Int) + 1) = ((j + 1 : Nat) : Int) by unfold wrap64; omega]
    obtain ⟨r, i2, h2, e2, w2, l2, j2⟩ := ih k (j + 1) (s ++ [v % 256]) i' h' (by omega) (by omega) (by simp [hs]) (by
      intro x hx
      rcases List.mem_append.1 hx with hx | hx
      · exact hw x hx
      · obtain rfl := List.mem_singleton.1 hx
        simp [Lit.wf, IntKind.min, IntKind.max, IntKind.signed, IntKind.bits]
        omega) i0
    exact ⟨r, i2, h2, e2, w2, by omega, j2⟩
theorem bytes_ok (k : Nat) (b : List Int) (hb : b.length ≤ 140737488351232) (i h n : Int) (hn : n ≤ 1000000000) (hk : n.toNat < k) (hi : 0 ≤ i) : ∃ r i' h', spec_l1Bytes.f k b i h n = some (r, i', h') ∧ (∀ x ∈ r, (Lit.int .u8 x).wf = true) ∧ r.length = n.toNat ∧ 0 ≤ i' := by
  unfold spec_l1Bytes.f
  obtain ⟨r, i', h', e, w, l, j⟩ := bytes_loop b hb n hn n.toNat k 0 [] i h (by omega) hk rfl (by simp) hi
  exact ⟨r, i', h', e, w, by omega, j⟩
theorem int_ok (b : List Int) (hb : b.length ≤ 140737488351232) (i h : Int) (l : List Int) (hl : 0 < l.length) (hi : 0 ≤ i) : ∃ v i' h', spec_l1Int.f b i h l = some (v, i', h') ∧ v ∈ l ∧ 0 ≤ i' := by
  unfold spec_l1Int.f
  obtain ⟨v, i', h', e, v0, v1, _, i0⟩ := below_ok b hb i h (l.length : Int) hi
  rw [e]
  simp only [Option.bind_some]
  have := v1 (by omega)
  rw [if_pos v0, if_pos this]
  refine ⟨_, _, _, rfl, ?_, i0⟩
  unfold rd
  rw [List.getD_eq_getElem?_getD, List.getElem?_eq_getElem (by omega)]
  exact List.getElem_mem _
theorem num_ok (b : List Int) (hb : b.length ≤ 140737488351232) (i h : Int) (hi : 0 ≤ i) : ∃ v i' h', spec_l1Num.f b i h = some (v, i', h') ∧ (0 ≤ v ∧ v ≤ 1000000000000) ∧ 0 ≤ i' := by
  unfold spec_l1Num.f
  obtain ⟨c, i1, h1, e, c0, c1, _, j1⟩ := below_ok b hb i h 4 hi
  rw [e]
  simp only [Option.bind_some]
  by_cases e0 : c = 0
  · rw [if_pos e0]
    obtain ⟨x, i2, h2, e, x0, x1, _, j2⟩ := below_ok b hb i1 h1 2000 j1
    have := x1 (by decide)
    rw [e]
    exact ⟨_, _, _, rfl, ⟨x0, by show x ≤ _; omega⟩, j2⟩
  · rw [if_neg e0]
    by_cases e1 : c = 1
    · rw [if_pos e1]
      obtain ⟨x, i2, h2, e, m, j2⟩ := int_ok b hb i1 h1 [0, 1, 127, 128, 2147483646, 2147483647, 1000000000000] (by decide) j1
      rw [e]
      refine ⟨_, _, _, rfl, ?_, j2⟩
      simp at m
      show 0 ≤ x ∧ x ≤ _
      omega
    · rw [if_neg e1]
      by_cases e2 : c = 2
      · rw [if_pos e2]
        obtain ⟨x, i2, h2, e, x0, x1, _, j2⟩ := below_ok b hb i1 h1 1000000 j1
        have := x1 (by decide)
        rw [e]
        simp only [Option.bind_some]
        obtain ⟨y, i3, h3, e, y0, y1, _, j3⟩ := below_ok b hb i2 h2 1000000 j2
        have := y1 (by decide)
        rw [e]
        refine ⟨_, _, _, rfl, ?_, j3⟩
        have p : 0 ≤ x * y ∧ x * y ≤ 999999 * 999999 := ⟨Int.mul_nonneg x0 y0, Int.mul_le_mul (by omega) (by omega) y0 (by omega)⟩
        show 0 ≤ wrap64 (x * y) ∧ wrap64 (x * y) ≤ 1000000000000
        unfold wrap64
        omega
      · rw [if_neg e2]
        obtain ⟨x, i2, h2, e, x0, x1, _, j2⟩ := below_ok b hb i1 h1 20 j1
        have := x1 (by decide)
        rw [e]
        exact ⟨_, _, _, rfl, ⟨x0, by show x ≤ _; omega⟩, j2⟩
theorem once_ok (b : List Int) (hb : b.length ≤ 140737488351232) (i h n : Int) (hi : 0 ≤ i) : ∃ v i' h', spec_l1Once.f b i h n = some (v, i', h') ∧ 0 ≤ i' := by
  unfold spec_l1Once.f
  obtain ⟨v, i', h', e, _, _, _, i0⟩ := below_ok b hb i h n hi
  rw [e]
  exact ⟨_, _, _, rfl, i0⟩
theorem odd_ok (b : List Int) (hb : b.length ≤ 140737488351232) (i h : Int) (hi : 0 ≤ i) : ∃ v i' h', spec_l1Odd.f b i h = some (v, i', h') ∧ (-9223372036854775808 ≤ v ∧ v ≤ 9223372036854775807) ∧ 0 ≤ i' := by
  unfold spec_l1Odd.f
  obtain ⟨x, i2, h2, e, m, j2⟩ := int_ok b hb i h [(-1), 0, 1, 2, 255, 256, 65535, 2147483647, 2147483648, 4294967295, 4294967296, (-2147483648), 9223372036854775807, (-9223372036854775808)] (by decide) hi
  rw [e]
  refine ⟨_, _, _, rfl, ?_, j2⟩
  simp at m
  show -9223372036854775808 ≤ x ∧ x ≤ _
  omega
theorem raw_ok (b : List Int) (hb : b.length ≤ 140737488351232) (i h : Int) (hi : 0 ≤ i) : ∃ v i' h', spec_l1Raw.f b i h = some (v, i', h') ∧ (-9223372036854775808 ≤ v ∧ v ≤ 9223372036854775807) ∧ 0 ≤ i' := by
  unfold spec_l1Raw.f
  obtain ⟨c, i1, h1, e, j1⟩ := once_ok b hb i h 2 hi
  rw [e]
  simp only [Option.bind_some]
  by_cases e0 : c = true
  · rw [if_pos e0]
    obtain ⟨x, i2, h2, e, m, j2⟩ := odd_ok b hb i1 h1 j1
    rw [e]
    exact ⟨_, _, _, rfl, m, j2⟩
  · rw [if_neg e0]
    obtain ⟨x, i2, h2, e, m, j2⟩ := int_ok b hb i1 h1 [(-1), 1000000000000, 1000000000001] (by decide) j1
    rw [e]
    refine ⟨_, _, _, rfl, ?_, j2⟩
    simp at m
    show -9223372036854775808 ≤ x ∧ x ≤ _
    omega
theorem one_ok (b : List Int) (hb : b.length ≤ 140737488351232) (i h : Int) (hi : 0 ≤ i) : ∃ v i' h', spec_l1One.f b i h = some (v, i', h') ∧ (-9223372036854775808 ≤ v ∧ v ≤ 9223372036854775807) ∧ 0 ≤ i' := by
  unfold spec_l1One.f
  obtain ⟨c, i1, h1, e, j1⟩ := once_ok b hb i h 6 hi
  rw [e]
  simp only [Option.bind_some]
  by_cases e0 : c = true
  · rw [if_pos e0]
    obtain ⟨x, i2, h2, e, m, j2⟩ := raw_ok b hb i1 h1 j1
    rw [e]
    exact ⟨_, _, _, rfl, m, j2⟩
  · rw [if_neg e0]
    obtain ⟨x, i2, h2, e, m, j2⟩ := num_ok b hb i1 h1 j1
    rw [e]
    exact ⟨_, _, _, rfl, ⟨by show _ ≤ x; omega, by show x ≤ _; omega⟩, j2⟩
theorem read_loop (l : List Int) (a : Int) (hw : ∀ x ∈ l, (Lit.int .u8 x).wf = true) (h0 : 0 ≤ a) : ∀ (d i : Nat) (n : Int), i + d = 6 → 0 ≤ n → n < 2 ^ (7 * i) →
    ∀ v nx, runL (rdStep l a) (fun _ => (0, 0, false)) d i n = (v, nx, true) → 0 ≤ v ∧ v ≤ 1000000000000 ∧ a < nx ∧ nx ≤ l.length ∧ nx ≤ a + 6 := by
  intro d
  induction d with
  | zero => intro i n _ _ _ v nx h; simp [runL] at h
  | succ d ih =>
    intro i n hi hn0 hn1 v nx h
    have b := u8_bd hw (a + i)
    have e := comb_eq n (rd l (a + i)) i (by omega) hn0 hn1 b
    have hp : (0 : Int) < 2 ^ (7 * i) := Int.pow_pos (by decide)
    have hm : 0 ≤ rd l (a + i) % 128 ∧ rd l (a + i) % 128 < 128 := ⟨by omega, by omega⟩
    have hv0 : 0 ≤ n + rd l (a + i) % 128 * 2 ^ (7 * i) := Int.add_nonneg hn0 (Int.mul_nonneg hm.1 (Int.le_of_lt hp))
    have hv1 : n + rd l (a + i) % 128 * 2 ^ (7 * i) < 2 ^ (7 * (i + 1)) := by
      have h2 : (2 : Int) ^ (7 * (i + 1)) = 128 * 2 ^ (7 * i) := by rw [Nat.mul_add, Int.pow_add]; omega
      have h3 : rd l (a + i) % 128 * 2 ^ (7 * i) ≤ 127 * 2 ^ (7 * i) := Int.mul_le_mul_of_nonneg_right (by omega) (Int.le_of_lt hp)
      omega
    unfold runL rdStep at h
    rw [e] at h
    by_cases h1 : a + i ≥ l.length
    · rw [if_pos h1] at h
      simp at h
    · rw [if_neg h1] at h
      by_cases h2 : rd l (a + i) < 128
      · rw [if_pos h2] at h
        by_cases h3 : (0 < i ∧ rd l (a + i) = 0) ∨ n + rd l (a + i) % 128 * 2 ^ (7 * i) > 1000000000000
        · rw [if_pos h3] at h
          simp at h
        · rw [if_neg h3] at h
          simp only [Prod.mk.injEq] at h
          obtain ⟨rfl, rfl, _⟩ := h
          have : ¬ n + rd l (a + i) % 128 * 2 ^ (7 * i) > 1000000000000 := fun h => h3 (Or.inr h)
          exact ⟨hv0, by omega, by omega, by omega, by omega⟩
      · rw [if_neg h2] at h
        exact ih (i + 1) _ (by omega) hv0 hv1 v nx h
theorem readU_ok (l : List Int) (a : Int) (hw : ∀ x ∈ l, (Lit.int .u8 x).wf = true) (h : (readU l a).2.2 = true) :
    0 ≤ (readU l a).1 ∧ (readU l a).1 ≤ 1000000000000 ∧ 0 ≤ a ∧ a < (readU l a).2.1 ∧ (readU l a).2.1 ≤ l.length := by
  unfold readU at h ⊢
  by_cases h0 : 0 ≤ a ∧ a < l.length
  · rw [if_pos h0] at h ⊢
    have := read_loop l a hw h0.1 6 0 0 rfl (by decide) (by decide) _ _ (Prod.ext rfl (Prod.ext rfl h))
    exact ⟨this.1, this.2.1, h0.1, this.2.2.1, this.2.2.2.1⟩
  · rw [if_neg h0] at h
    simp at h
theorem readU_no (l : List Int) (a : Int) (h : (readU l a).2.2 = false) : readU l a = (0, 0, false) := by
  unfold readU at h ⊢
  by_cases h0 : 0 ≤ a ∧ a < l.length
  · rw [if_pos h0] at h ⊢
    have key : ∀ (d i : Nat) (n : Int), (runL (rdStep l a) (fun _ => ((0 : Int), (0 : Int), false)) d i n).2.2 = false → runL (rdStep l a) (fun _ => (0, 0, false)) d i n = (0, 0, false) := by
      intro d
      induction d with
      | zero => intro i n _; rfl
      | succ d ih =>
        intro i n h
        unfold runL rdStep at h ⊢
        by_cases h1 : a + i ≥ l.length
        · rw [if_pos h1]
        · rw [if_neg h1] at h ⊢
          by_cases h2 : rd l (a + i) < 128
          · rw [if_pos h2] at h ⊢
            by_cases h3 : (0 < i ∧ rd l (a + i) = 0) ∨ Go.bits .or .i64 n (shl .i64 (Go.bits .and .i64 (rd l (a + i)) 127) (7 * i)) > 1000000000000
            · rw [if_pos h3]
            · rw [if_neg h3] at h
              simp at h
          · rw [if_neg h2] at h ⊢
            exact ih _ _ h
    exact key 6 0 0 h
  · rw [if_neg h0]
/-- What both ReadBytes come to. -/
def readB (l : List Int) (a m : Int) : List Int × Int × Bool :=
  if (readU l a).2.2 = true ∧ (readU l a).1 ≤ m ∧ (readU l a).1 ≤ l.length - (readU l a).2.1 then
    ((l.take ((readU l a).2.1 + (readU l a).1).toNat).drop (readU l a).2.1.toNat, (readU l a).2.1 + (readU l a).1, true)
  else ([], 0, false)
theorem readB_len (l : List Int) (a m : Int) : (readB l a m).1.length ≤ l.length := by
  unfold readB
  split
  · simp
    omega
  · simp
/-- The bytes of a varint, d of them at most ahead of the last one. -/
def uv : Nat → Int → List Int
  | 0, n => [n % 256]
  | d + 1, n => if n > 127 then ((Go.bits .or .i64 (Go.bits .and .i64 n 127) 128) % 256) :: uv d (n / 128) else [n % 256]
theorem uv_len : ∀ (d : Nat) (n : Int), 1 ≤ (uv d n).length ∧ (uv d n).length ≤ d + 1
  | 0, n => by simp [uv]
  | d + 1, n => by
    have := uv_len d (n / 128)
    unfold uv
    split
    · simp
      omega
    · simp
/-- What both AppendUvarint come to. -/
def appU (l : List Int) (n : Int) : List Int := if 0 ≤ n ∧ n ≤ 1000000000000 then l ++ uv 5 n else l
theorem appU_len (l : List Int) (n : Int) : l.length ≤ (appU l n).length ∧ (appU l n).length ≤ l.length + 6 := by
  unfold appU
  have := uv_len 5 n
  split
  · simp
    omega
  · omega
theorem uv_loop (F : Nat → Int → List Int → Option (List Int))
    (hstep : ∀ k n s, s.length < 140737488355328 → F (k + 1) n s = if n > 127 then F k (n / 128) (s ++ [(Go.bits .or .i64 (Go.bits .and .i64 n 127) 128) % 256]) else some (s ++ [n % 256])) :
    ∀ (d k : Nat) (n : Int) (s : List Int), 0 ≤ n → n < 128 * 128 ^ d → d < k → s.length + d < 140737488355328 → F k n s = some (s ++ uv d n) := by
  intro d
  induction d with
  | zero =>
    intro k n s h0 hn hk hs
    obtain ⟨k, rfl⟩ : ∃ m, k = m + 1 := ⟨k - 1, by omega⟩
    rw [hstep k n s (by omega), if_neg (by simp at hn; omega)]
    rfl
  | succ d ih =>
    intro k n s h0 hn hk hs
    obtain ⟨k, rfl⟩ : ∃ m, k = m + 1 := ⟨k - 1, by omega⟩
    rw [hstep k n s (by omega)]
    unfold uv
    by_cases h : n > 127
    · rw [if_pos h, if_pos h, ih k (n / 128) _ (by omega) (by rw [Int.pow_succ] at hn; omega) (by omega) (by simp; omega)]
      simp
    · rw [if_neg h, if_neg h]
theorem or128 (m : Int) (h0 : 0 ≤ m) (h1 : m < 2 ^ 62) : (Go.bits .or .i64 (Go.bits .and .i64 m 127) 128) % 256 = m % 128 + 128 := by
  rw [and127 m h0 h1, or_low (m % 128) 128 7 (by decide) (by omega) (by simp; omega) (by decide) (by decide) (by decide)]
  omega
theorem pow7 (i : Nat) : (2 : Int) ^ (7 * (i + 1)) = 128 * 2 ^ (7 * i) := by
  rw [Nat.mul_add, Int.pow_add]
  omega
/-- Decoding what has been encoded, from the byte at a + i on. -/
theorem dec_uv (l : List Int) (a : Nat) (hw : ∀ x ∈ l, (Lit.int .u8 x).wf = true) : ∀ (d i : Nat) (m acc : Int), i + d = 5 → 0 ≤ m → m < 128 * 128 ^ d → 0 ≤ acc → acc < 2 ^ (7 * i) → (0 < i → 0 < m) → acc + m * 2 ^ (7 * i) ≤ 1000000000000 →
    a + i + (uv d m).length ≤ l.length → (∀ j, j < (uv d m).length → l.getD (a + i + j) 0 = (uv d m).getD j 0) →
    runL (rdStep l a) (fun _ => (0, 0, false)) (d + 1) i acc = (acc + m * 2 ^ (7 * i), ((a + i + (uv d m).length : Nat) : Int), true) := by
  intro d
  induction d with
  | zero =>
    intro i m acc hi h0 h1 a0 a1 hpos hmax hlen hb
    have e : uv 0 m = [m] := by
      simp only [uv]
      congr 1
      simp at h1
      omega
    rw [e] at hlen hb ⊢
    have hc : rd l ((a : Int) + i) = m := by
      have := hb 0 (by simp)
      have t : ((a : Int) + i).toNat = a + i := by omega
      simpa [rd, t] using this
    simp at h1 hlen
    have b := u8_bd hw ((a : Int) + i)
    have ec := comb_eq acc (rd l ((a : Int) + i)) i (by omega) a0 a1 b
    unfold runL rdStep
    rw [ec, hc, show m % 128 = m by omega, if_neg (by omega), if_pos (by omega), if_neg (by
      rintro (h | h)
      · have := hpos h.1
        omega
      · omega)]
    simp
  | succ d ih =>
    intro i m acc hi h0 h1 a0 a1 hpos hmax hlen hb
    have hp : (0 : Int) < 2 ^ (7 * i) := Int.pow_pos (by decide)
    by_cases hm : m > 127
    · have hm62 : m < 2 ^ 62 := by
        have : m * 1 ≤ m * 2 ^ (7 * i) := Int.mul_le_mul_of_nonneg_left (by omega) h0
        omega
      have e : uv (d + 1) m = (m % 128 + 128) :: uv d (m / 128) := by
        rw [uv, if_pos hm, or128 m h0 hm62]
      rw [e] at hlen hb ⊢
      simp only [List.length_cons] at hlen hb ⊢
      have hc : rd l ((a : Int) + i) = m % 128 + 128 := by
        have := hb 0 (by omega)
        have t : ((a : Int) + i).toNat = a + i := by omega
        simpa [rd, t] using this
      have b := u8_bd hw ((a : Int) + i)
      have ec := comb_eq acc (rd l ((a : Int) + i)) i (by omega) a0 a1 b
      have hq : m = 128 * (m / 128) + m % 128 := by omega
      have hr : m % 128 * 2 ^ (7 * i) ≤ 127 * 2 ^ (7 * i) := Int.mul_le_mul_of_nonneg_right (by omega) (Int.le_of_lt hp)
      have hr0 : 0 ≤ m % 128 * 2 ^ (7 * i) := Int.mul_nonneg (by omega) (Int.le_of_lt hp)
      have hsum : acc + m % 128 * 2 ^ (7 * i) + m / 128 * 2 ^ (7 * (i + 1)) = acc + m * 2 ^ (7 * i) := by
        rw [pow7]
        have : m * 2 ^ (7 * i) = (128 * (m / 128) + m % 128) * 2 ^ (7 * i) := by rw [← hq]
        rw [this, Int.add_mul, Int.mul_assoc, Int.mul_left_comm (m / 128)]
        omega
      unfold runL rdStep
      rw [ec, hc, show (m % 128 + 128) % 128 = m % 128 by omega, if_neg (by omega), if_neg (by omega)]
      show runL (rdStep l a) (fun _ => (0, 0, false)) (d + 1) (i + 1) (acc + m % 128 * 2 ^ (7 * i)) = _
      rw [ih (i + 1) (m / 128) _ (by omega) (by omega) (by rw [Int.pow_succ] at h1; omega) (by omega) (by rw [pow7]; omega) (fun _ => by omega) (by rw [hsum]; exact hmax) (by omega) (fun j hj => by
        have := hb (j + 1) (by omega)
        rw [List.getD_cons_succ] at this
        rw [← this, show a + (i + 1) + j = a + i + (j + 1) by omega])]
      rw [hsum, show a + (i + 1) + (uv d (m / 128)).length = a + i + ((uv d (m / 128)).length + 1) by omega]
    · have e : uv (d + 1) m = [m] := by
        rw [uv, if_neg hm]
        congr 1
        omega
      rw [e] at hlen hb ⊢
      have hc : rd l ((a : Int) + i) = m := by
        have := hb 0 (by simp)
        have t : ((a : Int) + i).toNat = a + i := by omega
        simpa [rd, t] using this
      simp at hlen
      have b := u8_bd hw ((a : Int) + i)
      have ec := comb_eq acc (rd l ((a : Int) + i)) i (by omega) a0 a1 b
      unfold runL rdStep
      rw [ec, hc, show m % 128 = m by omega, if_neg (by omega), if_pos (by omega), if_neg (by
        rintro (h | h)
        · have := hpos h.1
          omega
        · omega)]
      simp
/-- Reading a varint that stands behind p. -/
theorem readU_app (p q : List Int) (n : Int) (h0 : 0 ≤ n) (h1 : n ≤ 1000000000000) (hw : ∀ x ∈ p ++ uv 5 n ++ q, (Lit.int .u8 x).wf = true) :
    readU (p ++ uv 5 n ++ q) p.length = (n, ((p.length + (uv 5 n).length : Nat) : Int), true) := by
  have hl := (uv_len 5 n).1
  unfold readU
  rw [if_pos ⟨by omega, by simp; omega⟩]
  have h := dec_uv (p ++ uv 5 n ++ q) p.length hw 5 0 n 0 rfl h0 (by omega) (by decide) (by decide) (fun h => by omega) (by omega) (by simp only [List.length_append]; omega) (fun j hj => by
    simp only [List.getD_eq_getElem?_getD, Nat.add_zero]
    rw [List.getElem?_append_left (by simp; omega), List.getElem?_append_right (by omega), Nat.add_sub_cancel_left])
  simpa using h
theorem uv_wf : ∀ (d : Nat) (n : Int), ∀ x ∈ uv d n, (Lit.int .u8 x).wf = true
  | 0, n, x, h => by
    simp only [uv, List.mem_singleton] at h
    subst h
    simp [Lit.wf, IntKind.min, IntKind.max, IntKind.signed, IntKind.bits]
    omega
  | d + 1, n, x, h => by
    unfold uv at h
    split at h
    · rcases List.mem_cons.1 h with rfl | h
      · simp [Lit.wf, IntKind.min, IntKind.max, IntKind.signed, IntKind.bits]
        omega
      · exact uv_wf d _ x h
    · simp only [List.mem_singleton] at h
      subst h
      simp [Lit.wf, IntKind.min, IntKind.max, IntKind.signed, IntKind.bits]
      omega
theorem appU_wf (l : List Int) (n : Int) (h : ∀ x ∈ l, (Lit.int .u8 x).wf = true) : ∀ x ∈ appU l n, (Lit.int .u8 x).wf = true := by
  intro x hx
  unfold appU at hx
  split at hx
  · rcases List.mem_append.1 hx with hx | hx
    · exact h x hx
    · exact uv_wf 5 n x hx
  · exact h x hx
/-- What has been decoded is encoded by the bytes that were read. -/
theorem uv_dec (l : List Int) (a : Nat) (hw : ∀ x ∈ l, (Lit.int .u8 x).wf = true) : ∀ (d i : Nat) (acc : Int), i + (d + 1) = 6 → 0 ≤ acc → acc < 2 ^ (7 * i) → ∀ v nx, runL (rdStep l a) (fun _ => (0, 0, false)) (d + 1) i acc = (v, nx, true) →
    ∃ m : Int, ∃ e : Nat, v = acc + m * 2 ^ (7 * i) ∧ 0 ≤ m ∧ (0 < i → 0 < m) ∧ nx = (e : Int) ∧ a + i < e ∧ e ≤ l.length ∧ (l.take e).drop (a + i) = uv d m := by
  intro d
  induction d with
  | zero =>
    intro i acc hi a0 a1 v nx h
    have b := u8_bd hw ((a : Int) + i)
    have ec := comb_eq acc (rd l ((a : Int) + i)) i (by omega) a0 a1 b
    unfold runL rdStep at h
    rw [ec] at h
    by_cases h1 : (a : Int) + i ≥ l.length
    · rw [if_pos h1] at h
      simp at h
    · rw [if_neg h1] at h
      by_cases h2 : rd l ((a : Int) + i) < 128
      · rw [if_pos h2] at h
        by_cases h3 : (0 < i ∧ rd l ((a : Int) + i) = 0) ∨ acc + rd l ((a : Int) + i) % 128 * 2 ^ (7 * i) > 1000000000000
        · rw [if_pos h3] at h
          simp at h
        · rw [if_neg h3] at h
          simp only [Prod.mk.injEq] at h
          obtain ⟨rfl, rfl, _⟩ := h
          have hlt : a + i < l.length := by omega
          have hc : rd l ((a : Int) + i) = l[a + i] := by
            have t : ((a : Int) + i).toNat = a + i := by omega
            simp [rd, t, List.getD_eq_getElem?_getD, List.getElem?_eq_getElem hlt]
          refine ⟨rd l ((a : Int) + i) % 128, a + i + 1, rfl, by omega, fun hp => ?_, by omega, by omega, by omega, ?_⟩
          · have : ¬ rd l ((a : Int) + i) = 0 := fun h => h3 (Or.inl ⟨hp, h⟩)
            omega
          · rw [List.drop_eq_getElem_cons (by simp; omega), List.drop_eq_nil_of_le (by simp; omega)]
            simp only [List.getElem_take, uv, List.cons.injEq, and_true]
            rw [← hc]
            omega
      · rw [if_neg h2] at h
        simp [runL] at h
  | succ d ih =>
    intro i acc hi a0 a1 v nx h
    have b := u8_bd hw ((a : Int) + i)
    have ec := comb_eq acc (rd l ((a : Int) + i)) i (by omega) a0 a1 b
    have hp : (0 : Int) < 2 ^ (7 * i) := Int.pow_pos (by decide)
    unfold runL rdStep at h
    rw [ec] at h
    by_cases h1 : (a : Int) + i ≥ l.length
    · rw [if_pos h1] at h
      simp at h
    · rw [if_neg h1] at h
      have hlt : a + i < l.length := by omega
      have hc : rd l ((a : Int) + i) = l[a + i] := by
        have t : ((a : Int) + i).toNat = a + i := by omega
        simp [rd, t, List.getD_eq_getElem?_getD, List.getElem?_eq_getElem hlt]
      by_cases h2 : rd l ((a : Int) + i) < 128
      · rw [if_pos h2] at h
        by_cases h3 : (0 < i ∧ rd l ((a : Int) + i) = 0) ∨ acc + rd l ((a : Int) + i) % 128 * 2 ^ (7 * i) > 1000000000000
        · rw [if_pos h3] at h
          simp at h
        · rw [if_neg h3] at h
          simp only [Prod.mk.injEq] at h
          obtain ⟨rfl, rfl, _⟩ := h
          refine ⟨rd l ((a : Int) + i) % 128, a + i + 1, rfl, by omega, fun hp => ?_, by omega, by omega, by omega, ?_⟩
          · have : ¬ rd l ((a : Int) + i) = 0 := fun h => h3 (Or.inl ⟨hp, h⟩)
            omega
          · rw [List.drop_eq_getElem_cons (by simp; omega), List.drop_eq_nil_of_le (by simp; omega), uv, if_neg (by omega)]
            simp only [List.getElem_take, List.cons.injEq, and_true]
            rw [← hc]
            omega
      · rw [if_neg h2] at h
        have hr : rd l ((a : Int) + i) % 128 * 2 ^ (7 * i) ≤ 127 * 2 ^ (7 * i) := Int.mul_le_mul_of_nonneg_right (by omega) (Int.le_of_lt hp)
        have hr0 : 0 ≤ rd l ((a : Int) + i) % 128 * 2 ^ (7 * i) := Int.mul_nonneg (by omega) (Int.le_of_lt hp)
        have hrd := read_loop l a hw (by omega) (d + 1) (i + 1) _ (by omega) (show 0 ≤ acc + rd l ((a : Int) + i) % 128 * 2 ^ (7 * i) by omega) (by rw [pow7]; omega) v nx h
        obtain ⟨m, e, hv, m0, mp, hn, he, hl, hu⟩ := ih (i + 1) _ (by omega) (by omega) (by rw [pow7]; omega) v nx h
        have mpos := mp (by omega)
        have hm : (rd l ((a : Int) + i) - 128 + 128 * m) < 2 ^ 62 := by
          have h5 : m * 1 ≤ m * 2 ^ (7 * (i + 1)) := Int.mul_le_mul_of_nonneg_left (by have : (0 : Int) < 2 ^ (7 * (i + 1)) := Int.pow_pos (by decide); omega) m0
          omega
        refine ⟨rd l ((a : Int) + i) - 128 + 128 * m, e, ?_, by omega, fun _ => by omega, hn, by omega, hl, ?_⟩
        · rw [hv, pow7, show rd l ((a : Int) + i) % 128 = rd l ((a : Int) + i) - 128 by omega, Int.add_mul, Int.mul_assoc 128, Int.mul_left_comm m]
          omega
        · rw [List.drop_eq_getElem_cons (by simp; omega), uv, if_pos (by omega), or128 _ (by omega) hm, show (rd l ((a : Int) + i) - 128 + 128 * m) / 128 = m by omega, show (rd l ((a : Int) + i) - 128 + 128 * m) % 128 + 128 = rd l ((a : Int) + i) by omega]
          simp only [List.getElem_take]
          rw [← hc, show a + i + 1 = a + (i + 1) by omega, hu]
theorem readU_uv (l : List Int) (a : Int) (hw : ∀ x ∈ l, (Lit.int .u8 x).wf = true) (h : (readU l a).2.2 = true) :
    (l.take (readU l a).2.1.toNat).drop a.toNat = uv 5 (readU l a).1 := by
  have ok := readU_ok l a hw h
  unfold readU at h ok ⊢
  by_cases h0 : 0 ≤ a ∧ a < l.length
  · rw [if_pos h0] at h ok ⊢
    obtain ⟨n, rfl⟩ := Int.eq_ofNat_of_zero_le h0.1
    generalize hr : runL (rdStep l (n : Int)) (fun _ => ((0 : Int), (0 : Int), false)) 6 0 0 = r at h ok ⊢
    obtain ⟨v, nx, b⟩ := r
    obtain rfl : b = true := h
    obtain ⟨m, e, hv, m0, _, hn, _, _, hu⟩ := uv_dec l n hw 5 0 0 rfl (by decide) (by decide) v nx hr
    subst hn
    subst hv
    simpa using hu
  · rw [if_neg h0] at h
    simp at h
theorem l1in (a b c : Int) : spec_l1In.f a b c = some (decide (b ≤ a ∧ a ≤ c)) := by
  unfold spec_l1In.f
  by_cases h : b ≤ a <;> simp [h]
theorem specApp (k : Nat) (l : List Int) (n : Int) (hl : l.length ≤ 1000000000000) (hk : 6 < k) : spec_AppendUvarint.f k l n = some (appU l n) := by
  unfold spec_AppendUvarint.f appU
  simp only [Option.bind_some, List.nil_append, l1in, List.length_nil]
  rw [if_pos (by omega)]
  by_cases h : 0 ≤ n ∧ n ≤ 1000000000000
  · rw [if_pos (by simpa using h), if_pos h]
    refine uv_loop (fun k n s => spec_AppendUvarint.l0 k n s) (fun k n s hs => ?_) 5 k n l h.1 (by omega) (by omega) (by omega)
    simp only [spec_AppendUvarint.l0]
    rw [if_pos hs, if_pos hs]
  · rw [if_neg (by simpa using h), if_neg h]
theorem inr (a b c : Int) : impl_InRange.f a b c = some (decide (b ≤ a ∧ a ≤ c)) := by
  unfold impl_InRange.f
  by_cases h : b ≤ a <;> simp [h]
theorem cloneB (l : List Int) (hl : l.length ≤ 2000000000000) : slices_Clone_byte_byte.f l = some l := by
  unfold slices_Clone_byte_byte.f
  rw [if_pos (by omega)]
theorem implApp (k : Nat) (l : List Int) (n : Int) (hl : l.length ≤ 1000000000000) (hk : 6 < k) : impl_AppendUvarint.f k l n = some (appU l n) := by
  unfold impl_AppendUvarint.f appU
  simp only [cloneB l (by omega), Option.bind_some, inr]
  by_cases h : 0 ≤ n ∧ n ≤ 1000000000000
  · rw [if_pos (by simpa using h), if_pos h]
    refine uv_loop (fun k n s => impl_AppendUvarint.l0 k n s) (fun k n s hs => ?_) 5 k n l h.1 (by omega) (by omega) (by omega)
    simp only [impl_AppendUvarint.l0]
    rw [if_pos hs, if_pos hs]
  · rw [if_neg (by simpa using h), if_neg h]
theorem specRead (l : List Int) (hl : l.length ≤ 140737488351232) (hw : ∀ x ∈ l, (Lit.int .u8 x).wf = true) (a : Int) (ha : (Lit.int .i64 a).wf = true) (k : Nat) (hk : 14 < k) : spec_ReadUvarint.f k l a = some (readU l a) := by
  have hab := i64_bds ha
  refine at_rounds (g := fun k => spec_ReadUvarint.f k l a) (spec_ReadUvarint.mono l a) (k := 2 * 7) (by omega) ?_
  show spec_ReadUvarint.l0 (2 * 7) l a 0 0 = _
  unfold readU
  by_cases h : 0 ≤ a ∧ a < l.length
  · rw [if_pos h]
    refine loop_run (fun k i s => spec_ReadUvarint.l0 (2 * k) l a s (i : Int)) 6 (rdStep l a) (fun _ => (0, 0, false)) (fun _ _ => True) (fun k s _ => ?_) (fun k i s hi _ => ?_) (fun _ _ _ _ _ _ => trivial) 6 7 0 0 rfl (by omega) trivial
    · show spec_ReadUvarint.l0 (2 * k + 1 + 1) l a s _ = _
      simp [spec_ReadUvarint.l0]
    · show spec_ReadUvarint.l0 (2 * k + 1 + 1) l a s _ = _
      simp only [spec_ReadUvarint.l0, spec_ReadUvarint.j1]
      have e1 : wrap64 (a + i) = a + i := by unfold wrap64; omega
      have e2 : wrap64 ((i : Int) + 1) = ((i + 1 : Nat) : Int) := by unfold wrap64; omega
      have e3 : wrap64 (7 * (i : Int)) = 7 * (i : Int) := by unfold wrap64; omega
      have b := u8_bd hw (a + i)
      have e4 : wrap64 (rd l (a + i)) = rd l (a + i) := by unfold wrap64; omega
      have e5 : wrap64 (a + i + 1) = a + i + 1 := by unfold wrap64; omega
      have e6 : wrap64 ((l.length : Int) - i) = l.length - i := by unfold wrap64; omega
      rw [if_pos (by omega), if_neg (by omega)]
      simp only [e1, e2, e3, e4, e5, e6]
      unfold rdStep
      by_cases h1 : a + i ≥ l.length
      · rw [if_pos h1, if_pos (by simp; omega)]
      · rw [if_neg h1, if_neg (by simp; omega), if_pos (by omega), if_pos (by omega), if_pos (by omega)]
        by_cases h2 : rd l (a + i) < 128
        · rw [if_pos h2, if_pos h2]
          by_cases h4 : rd l (a + i) = 0
          · rw [if_pos h4]
            by_cases h3 : (i : Int) > 0
            · rw [if_pos h3, if_pos (Or.inl ⟨by omega, h4⟩)]
            · rw [if_neg h3]
              by_cases h5 : Go.bits .or .i64 s (shl .i64 (Go.bits .and .i64 (rd l (a + i)) 127) (7 * i)) > 1000000000000
              · rw [if_pos h5, if_pos (Or.inr h5)]
              · rw [if_neg h5, if_neg (by rintro (h | h); exact h3 (by omega); exact h5 h)]
          · rw [if_neg h4]
            by_cases h5 : Go.bits .or .i64 s (shl .i64 (Go.bits .and .i64 (rd l (a + i)) 127) (7 * i)) > 1000000000000
            · rw [if_pos h5, if_pos (Or.inr h5)]
            · rw [if_neg h5, if_neg (by rintro (h | h); exact h4 h.2; exact h5 h)]
        · rw [if_neg h2, if_neg h2]
  · rw [if_neg h]
    show spec_ReadUvarint.l0 (12 + 1 + 1) l a 0 0 = _
    simp only [spec_ReadUvarint.l0, spec_ReadUvarint.j1]
    have e6 : wrap64 ((l.length : Int) - 0) = l.length := by unfold wrap64; omega
    rw [if_pos (by omega), e6]
    by_cases h1 : a < 0
    · rw [if_pos h1]
      simp
    · rw [if_neg h1, if_pos (by simp; omega)]
theorem implRead (l : List Int) (hl : l.length ≤ 140737488351232) (hw : ∀ x ∈ l, (Lit.int .u8 x).wf = true) (a : Int) (k : Nat) (hk : 6 < k) : impl_ReadUvarint.f k l a = some (readU l a) := by
  unfold impl_ReadUvarint.f readU impl_at.f
  by_cases h : 0 ≤ a ∧ a < l.length
  · rw [if_pos h, if_pos h.1]
    simp only [Option.bind_some, decide_eq_true_eq]
    rw [if_pos h.2]
    refine loop_run (fun k i s => impl_ReadUvarint.l0 k l a s (i : Int)) 6 (rdStep l a) (fun _ => (0, 0, false)) (fun _ _ => True) (fun k s _ => ?_) (fun k i s hi _ => ?_) (fun _ _ _ _ _ _ => trivial) 6 k 0 0 rfl hk trivial
    · simp [impl_ReadUvarint.l0]
    · simp only [impl_ReadUvarint.l0]
      have e1 : wrap64 (a + i) = a + i := by unfold wrap64; omega
      have e2 : wrap64 ((i : Int) + 1) = ((i + 1 : Nat) : Int) := by unfold wrap64; omega
      have e3 : wrap64 (7 * (i : Int)) = 7 * (i : Int) := by unfold wrap64; omega
      have b := u8_bd hw (a + i)
      have e4 : wrap64 (rd l (a + i)) = rd l (a + i) := by unfold wrap64; omega
      have e5 : wrap64 (a + i + 1) = a + i + 1 := by unfold wrap64; omega
      rw [if_pos (by omega)]
      simp only [e1, e2, e3, e4, e5]
      unfold rdStep
      by_cases h1 : a + i ≥ l.length
      · rw [if_pos h1, if_pos h1]
      · rw [if_neg h1, if_neg h1, if_pos (by omega), if_pos (by omega), if_pos (by omega)]
        by_cases h2 : rd l (a + i) < 128
        · rw [if_pos h2, if_pos h2]
          by_cases h3 : (i : Int) > 0
          · rw [if_pos h3]
            by_cases h4 : rd l (a + i) = 0
            · rw [if_pos h4, if_pos (Or.inl ⟨by omega, h4⟩)]
            · rw [if_neg h4]
              by_cases h5 : Go.bits .or .i64 s (shl .i64 (Go.bits .and .i64 (rd l (a + i)) 127) (7 * i)) > 1000000000000
              · rw [if_pos h5, if_pos (Or.inr h5)]
              · rw [if_neg h5, if_neg (by rintro (h | h); exact h4 h.2; exact h5 h)]
          · rw [if_neg h3]
            by_cases h5 : Go.bits .or .i64 s (shl .i64 (Go.bits .and .i64 (rd l (a + i)) 127) (7 * i)) > 1000000000000
            · rw [if_pos h5, if_pos (Or.inr h5)]
            · rw [if_neg h5, if_neg (by rintro (h | h); exact h3 (by omega); exact h5 h)]
        · rw [if_neg h2, if_neg h2]
  · rw [if_neg h]
    by_cases h1 : a ≥ 0
    · rw [if_pos h1]
      have : ¬ a < l.length := fun e => h ⟨h1, e⟩
      simp [this]
    · rw [if_neg h1]
      simp
theorem sameBytes (k : Nat) (a b : List Int) (ha : a.length ≤ 1000000000000) (hk : a.length < k) : laws_sameBytes.f k a b = some (decide (a = b)) := by
  unfold laws_sameBytes.f
  by_cases hl : a.length = b.length
  · rw [if_pos (by omega)]
    have h := eq_loop (fun k i => laws_sameBytes.l0 k a b (i : Int)) a b 0 hl (fun k => ?_) (fun k i hi => ?_) a.length k 0 (by omega) hk
    · simpa using h
    · simp only [laws_sameBytes.l0]
      rw [if_neg (by omega)]
    · simp only [laws_sameBytes.l0]
      rw [if_pos (by omega), if_pos (by omega), if_pos (by omega), wrap_nat hi (by omega)]
      simp [rd]
  · rw [if_neg (by omega)]
    have : ¬ a = b := fun e => hl (by rw [e])
    simp [this]
theorem readU_end (l : List Int) : readU l l.length = (0, 0, false) := by
  unfold readU
  rw [if_neg (by omega)]
theorem drawRead_loop (b : List Int) (hb : b.length ≤ 140737488351232) : ∀ (d k : Nat) (s : List Int) (i h : Int), d < k → s.length + d ≤ 100 → (∀ x ∈ s, (Lit.int .u8 x).wf = true) → 0 ≤ i →
    ∃ r o, spec_DrawReadUvarint.l0 k s (d : Int) b i h = some (r, o) ∧ (∀ x ∈ r, (Lit.int .u8 x).wf = true) ∧ r.length ≤ s.length + d ∧ (-1 ≤ o ∧ o ≤ 3) := by
  intro d
  induction d with
  | zero =>
    intro k s i h hk hs hw hi
    obtain ⟨k, rfl⟩ : ∃ m, k = m + 1 := ⟨k - 1, by omega⟩
    simp only [spec_DrawReadUvarint.l0]
    obtain ⟨x, i2, h2, e, x0, x1, _, j2⟩ := below_ok b hb i h 4 hi
    have := x1 (by decide)
    rw [if_neg (by omega), e]
    refine ⟨_, _, rfl, hw, by omega, ?_⟩
    show -1 ≤ wrap64 (x - 1) ∧ wrap64 (x - 1) ≤ 3
    unfold wrap64
    omega
  | succ d ih =>
    intro k s i h hk hs hw hi
    obtain ⟨k, rfl⟩ : ∃ m, k = m + 1 := ⟨k - 1, by omega⟩
    simp only [spec_DrawReadUvarint.l0]
    obtain ⟨x, i2, h2, e, m, j2⟩ := int_ok b hb i h [128, 255, 0, 1, 127] (by decide) hi
    rw [if_pos (by omega), e]
    simp only [Option.bind_some]
    rw [if_pos (by omega), show wrap64 (((d + 1 : Nat) : Int) - 1) = (d : Int) by unfold wrap64; omega]
    obtain ⟨r, o, e2, w2, l2, o2⟩ := ih k (s ++ [x % 256]) i2 h2 (by omega) (by simp; omega) (by
      intro y hy
      rcases List.mem_append.1 hy with hy | hy
      · exact hw y hy
      · obtain rfl := List.mem_singleton.1 hy
        simp [Lit.wf, IntKind.min, IntKind.max, IntKind.signed, IntKind.bits]
        omega) j2
    refine ⟨r, o, e2, w2, ?_, o2⟩
    simp at l2
    omega
theorem drawRead_ok (k : Nat) (b : List Int) (hb : b.length ≤ 140737488351232) (hk : b.length + 30 < k) : ∃ y o, spec_DrawReadUvarint.f k b = some (y, o) ∧ (∀ x ∈ y, (Lit.int .u8 x).wf = true) ∧ y.length ≤ 100 ∧ (-1 ≤ o ∧ o ≤ 3) := by
  unfold spec_DrawReadUvarint.f
  obtain ⟨h0, e⟩ := new_ok k b hb (by omega)
  rw [e]
  simp only [Option.bind_some]
  obtain ⟨c, i1, h1, e, j1⟩ := once_ok b hb 0 h0 2 (by omega)
  rw [e]
  simp only [Option.bind_some]
  by_cases e0 : c = true
  · rw [if_pos e0]
    obtain ⟨s, i2, h2, e, w, ls, j2⟩ := bytes_ok k b hb i1 h1 1 (by omega) (by simp; omega) j1
    rw [e]
    simp only [Option.bind_some]
    obtain ⟨n, i3, h3, e, hn, j3⟩ := num_ok b hb i2 h2 j2
    rw [e]
    simp only [Option.bind_some]
    rw [specApp k s n (by omega) (by omega)]
    have := appU_len s n
    exact ⟨_, _, rfl, appU_wf s n w, by show (appU s n).length ≤ 100; simp at ls; omega, by decide⟩
  · rw [if_neg e0]
    obtain ⟨n, i2, h2, e, n0, n1, _, j2⟩ := below_ok b hb i1 h1 8 j1
    have := n1 (by decide)
    rw [e]
    simp only [Option.bind_some]
    obtain ⟨m, rfl⟩ := Int.eq_ofNat_of_zero_le n0
    obtain ⟨r, o, e, w, l, ho⟩ := drawRead_loop b hb m k [] i2 h2 (by omega) (by simp; omega) (by simp) j2
    exact ⟨r, o, e, w, by simp at l; omega, ho⟩
theorem second (k : Nat) (l : List Int) (hb : l.length ≤ 140737488351232) (hk : l.length + 200 < k) : laws_FnVarints.j1 k l = some true := by
  obtain ⟨k, rfl⟩ : ∃ m, k = m + 1 := ⟨k - 1, by omega⟩
  simp only [laws_FnVarints.j1]
  obtain ⟨y, o, e, w, ly, ho⟩ := drawRead_ok k l hb (by omega)
  rw [e]
  simp only [Option.bind_some]
  rw [implRead y (by omega) w o k (by omega)]
  simp only [Option.bind_some]
  by_cases h : (readU y o).2.2 = true
  · have ok := readU_ok y o w h
    have u := readU_uv y o w h
    rw [if_pos h, if_pos (by omega), if_pos (by omega), if_pos (by omega), implApp k [] _ (by simp) (by omega)]
    simp only [Option.bind_some]
    rw [if_pos (by omega), if_pos (by omega), u]
    have ea : appU [] (readU y o).1 = uv 5 (readU y o).1 := by
      unfold appU
      rw [if_pos ⟨by omega, by omega⟩]
      rfl
    have := (uv_len 5 (readU y o).1).2
    rw [ea, sameBytes k _ _ (by omega) (by omega)]
    simp
  · have no := readU_no y o (by simpa using h)
    rw [if_neg h, specRead y (by omega) w o (by simp [Lit.wf, IntKind.min, IntKind.max, IntKind.signed, IntKind.bits]; omega) k (by omega)]
    rw [no]
    simp
theorem FnVarints : laws_FnVarints.Pure := by
  intro l _ hb _
  refine ⟨l.length + 300, ?_⟩
  unfold laws_FnVarints.f laws_big.f
  simp only [Option.bind_some, decide_eq_true_eq]
  by_cases h : (l.length : Int) > 1048576
  · rw [if_pos h]
  rw [if_neg h]
  unfold spec_DrawAppendUvarint.f
  obtain ⟨h0, e⟩ := new_ok (l.length + 300) l (by omega) (by omega)
  rw [e]
  simp only [Option.bind_some]
  obtain ⟨c, i1, h1, e, c0, c1, _, j1⟩ := below_ok l (by omega) 0 h0 3 (by omega)
  have := c1 (by decide)
  rw [e]
  simp only [Option.bind_some]
  obtain ⟨b, i2, h2, e, w, lb, j2⟩ := bytes_ok (l.length + 300) l (by omega) i1 h1 c (by omega) (by omega) j1
  rw [e]
  simp only [Option.bind_some]
  obtain ⟨n, i3, h3, e, hn, j3⟩ := one_ok l (by omega) i2 h2 j2
  rw [e]
  simp only [Option.bind_some]
  have la := appU_len b n
  rw [implApp _ b n (by omega) (by omega)]
  simp only [Option.bind_some]
  rw [implRead (appU b n) (by omega) (appU_wf b n w) _ _ (by omega)]
  simp only [Option.bind_some]
  have s2 := second (l.length + 299) l (by omega) (by omega)
  by_cases hr : 0 ≤ n ∧ n ≤ 1000000000000
  · have ea : appU b n = b ++ uv 5 n ++ [] := by
      unfold appU
      rw [if_pos hr, List.append_nil]
    have er := readU_app b [] n hr.1 hr.2 (by rw [← ea]; exact appU_wf b n w)
    rw [← ea] at er
    have el : ((b.length + (uv 5 n).length : Nat) : Int) = ((appU b n).length : Int) := by rw [ea]; simp
    rw [er, if_neg (by omega), show decide (n > 1000000000000) = false from decide_eq_false (by omega)]
    simp only [laws_FnVarints.j0, el, Bool.false_eq_true, if_false, if_true, s2]
  · have ea : appU b n = b := by
      unfold appU
      rw [if_neg hr]
    rw [ea, readU_end b]
    have q : laws_FnVarints.j0 (l.length + 300) l b n b 0 0 false true = some true := by
      simp only [laws_FnVarints.j0, if_true, Bool.false_eq_true, if_false]
      rw [sameBytes _ b b (by omega) (by omega)]
      simp only [Option.bind_some, decide_true, if_true, s2]
    by_cases hneg : n < 0
    · rw [if_pos hneg]
      exact q
    · rw [if_neg hneg, show decide (n > 1000000000000) = true from decide_eq_true (by omega)]
      exact q
end Go.Proofs.Ytoblbpgipkmljab.Pure
