/- The law FnKeyedHash answers true for every byte slice: changing one value modulo Modulus changes the keyed hash; derived keys are valid. No condition. -/
import Derived.Test.YtgnpindamkgggaaPFnKeyedHashx3
namespace Go.Proofs.Ytgnpindamkgggaa.Pure
open Go.RowKit Go.Proofs.Ytgnpindamkgggaa.PFnKeyedHash Go.Proofs.YtgnpindamkgggaaW.PrintWords Go.Proofs.YtgnpindamkgggaaW.PrintLast Go.Proofs.YtgnpindamkgggaaW.PrintMore
set_option linter.unusedVariables false
set_option linter.unusedSimpArgs false
theorem l1in (a b c : Int) : spec_l1In.f a b c = some (decide (b ≤ a ∧ a ≤ c)) := by
  unfold spec_l1In.f
  by_cases h : b ≤ a <;> simp [h]
theorem inr (a b c : Int) : impl_InRange.f a b c = some (decide (b ≤ a ∧ a ≤ c)) := by
  unfold impl_InRange.f
  by_cases h : b ≤ a <;> simp [h]
theorem wrap_nat {m n : Nat} (h : m < n) (hn : n ≤ 140737488351232) : wrap64 ((m : Int) + 1) = ((m + 1 : Nat) : Int) := by
  unfold wrap64
  omega
theorem getD_set_self {α : Type} (l : List α) (i j : Nat) (v d : α) : (l.set i v).getD j d = if i = j ∧ i < l.length then v else l.getD j d := by
  simp only [List.getD_eq_getElem?_getD, List.getElem?_set]
  by_cases h : i = j
  · subst h
    by_cases h2 : i < l.length
    · simp [h2]
    · simp [h2]
  · simp [h]
theorem ext_getD {α : Type} (a b : List α) (d : α) (hl : a.length = b.length) (h : ∀ j, j < b.length → a.getD j d = b.getD j d) : a = b := by
  refine List.ext_getElem hl fun j h1 h2 => ?_
  have := h j h2
  simpa [List.getD_eq_getElem?_getD, List.getElem?_eq_getElem h1, List.getElem?_eq_getElem h2] using this
theorem copy_loop {α : Type} (F : Nat → Nat → List α → Option (List α)) (x0 : List α) (dv : α)
    (hend : ∀ k s, s.length = x0.length → F (k + 1) x0.length s = some s)
    (hstep : ∀ k i s, i < x0.length → s.length = x0.length → F (k + 1) i s = F k (i + 1) (s.set i (x0.getD i dv))) :
    ∀ (d k i : Nat) (s : List α), i + d = x0.length → d < k → s.length = x0.length → (∀ j, j < i → s.getD j dv = x0.getD j dv) → F k i s = some x0 := by
  intro d
  induction d with
  | zero =>
    intro k i s hi hk hs hj
    obtain ⟨k, rfl⟩ : ∃ m, k = m + 1 := ⟨k - 1, by omega⟩
    obtain rfl : i = x0.length := by omega
    rw [hend k s hs, ext_getD s x0 dv hs hj]
  | succ d ih =>
    intro k i s hi hk hs hj
    obtain ⟨k, rfl⟩ : ∃ m, k = m + 1 := ⟨k - 1, by omega⟩
    rw [hstep k i s (by omega) hs]
    refine ih k (i + 1) _ (by omega) (by omega) (by simpa using hs) fun j h => ?_
    rw [getD_set_self]
    by_cases e : i = j
    · subst e
      rw [if_pos ⟨rfl, by omega⟩]
    · rw [if_neg (fun h => e h.1)]
      exact hj j (by omega)
theorem eq_loop {α : Type} [DecidableEq α] (F : Nat → Nat → Option Bool) (x0 x1 : List α) (dv : α) (hl : x0.length = x1.length)
    (hend : ∀ k, F (k + 1) x0.length = some true)
    (hstep : ∀ k i, i < x0.length → F (k + 1) i = if x0.getD i dv = x1.getD i dv then F k (i + 1) else some false) :
    ∀ (d k i : Nat), i + d = x0.length → d < k → F k i = some (decide (x0.drop i = x1.drop i)) := by
  intro d
  induction d with
  | zero =>
    intro k i hi hk
    obtain ⟨k, rfl⟩ : ∃ m, k = m + 1 := ⟨k - 1, by omega⟩
    obtain rfl : i = x0.length := by omega
    rw [hend]
    simp [hl]
  | succ d ih =>
    intro k i hi hk
    obtain ⟨k, rfl⟩ : ∃ m, k = m + 1 := ⟨k - 1, by omega⟩
    have h0 : i < x0.length := by omega
    have h1 : i < x1.length := by omega
    rw [hstep k i h0, ih k (i + 1) (by omega) (by omega), List.drop_eq_getElem_cons h0, List.drop_eq_getElem_cons h1]
    simp only [List.getD_eq_getElem?_getD, List.getElem?_eq_getElem h0, List.getElem?_eq_getElem h1, Option.getD_some, List.cons.injEq]
    by_cases e : x0[i] = x1[i] <;> simp [e]
theorem mark_loop {α : Type} (F : Nat → Nat → List α → Option (Int × List α)) (n : Nat) (val : Nat → α)
    (hend : ∀ k s, s.length = n → F (k + 1) n s = some (1 + (n : Int), s))
    (hstep : ∀ k i s, i < n → s.length = n → F (k + 1) i s = F k (i + 1) (s.set i (val i))) (dv : α) :
    ∀ (d k i : Nat) (s : List α), i + d = n → d < k → s.length = n → (∀ j, j < i → s.getD j dv = val j) → F k i s = some (1 + (n : Int), (List.range n).map val) := by
  intro d
  induction d with
  | zero =>
    intro k i s hi hk hs hj
    obtain ⟨k, rfl⟩ : ∃ m, k = m + 1 := ⟨k - 1, by omega⟩
    obtain rfl : i = n := by omega
    rw [hend k s hs]
    have e : s = (List.range i).map val := ext_getD s _ dv (by simpa using hs) fun j h => by
      have h' : j < i := by simpa using h
      rw [hj j h']
      simp [List.getD_eq_getElem?_getD, h']
    rw [← e]
  | succ d ih =>
    intro k i s hi hk hs hj
    obtain ⟨k, rfl⟩ : ∃ m, k = m + 1 := ⟨k - 1, by omega⟩
    rw [hstep k i s (by omega) hs]
    refine ih k (i + 1) _ (by omega) (by omega) (by simpa using hs) fun j h => ?_
    rw [getD_set_self]
    by_cases e : i = j
    · subst e
      rw [if_pos ⟨rfl, by omega⟩]
    · rw [if_neg (fun h => e h.1)]
      exact hj j (by omega)
theorem held_loop (F : Nat → Nat → Option Int) (n : Nat)
    (hend : ∀ k, F (k + 1) n = some (1 + (n : Int)))
    (hstep : ∀ k i, i < n → F (k + 1) i = F k (i + 1)) :
    ∀ (d k i : Nat), i + d = n → d < k → F k i = some (1 + (n : Int)) := by
  intro d
  induction d with
  | zero =>
    intro k i hi hk
    obtain ⟨k, rfl⟩ : ∃ m, k = m + 1 := ⟨k - 1, by omega⟩
    obtain rfl : i = n := by omega
    exact hend k
  | succ d ih =>
    intro k i hi hk
    obtain ⟨k, rfl⟩ : ∃ m, k = m + 1 := ⟨k - 1, by omega⟩
    rw [hstep k i (by omega)]
    exact ih k (i + 1) (by omega) (by omega)
/-- A loop that counts up, told by its step. -/
def runL {σ ρ : Type} (step : Nat → σ → ρ ⊕ σ) (fin : σ → ρ) : Nat → Nat → σ → ρ
  | 0, _, s => fin s
  | d + 1, i, s => match step i s with
    | .inl r => r
    | .inr s' => runL step fin d (i + 1) s'
theorem loop_run {σ ρ : Type} (F : Nat → Nat → σ → Option ρ) (n : Nat) (step : Nat → σ → ρ ⊕ σ) (fin : σ → ρ) (Inv : Nat → σ → Prop)
    (hend : ∀ k s, Inv n s → F (k + 1) n s = some (fin s))
    (hstep : ∀ k i s, i < n → Inv i s → F (k + 1) i s = match step i s with
      | .inl r => some r
      | .inr s' => F k (i + 1) s')
    (hinv : ∀ i s s', i < n → Inv i s → step i s = .inr s' → Inv (i + 1) s') :
    ∀ (d k i : Nat) (s : σ), i + d = n → d < k → Inv i s → F k i s = some (runL step fin d i s) := by
  intro d
  induction d with
  | zero =>
    intro k i s hi hk hs
    obtain ⟨k, rfl⟩ : ∃ m, k = m + 1 := ⟨k - 1, by omega⟩
    obtain rfl : i = n := by omega
    exact hend k s hs
  | succ d ih =>
    intro k i s hi hk hs
    obtain ⟨k, rfl⟩ : ∃ m, k = m + 1 := ⟨k - 1, by omega⟩
    rw [hstep k i s (by omega) hs]
    unfold runL
    cases e : step i s with
    | inl r => rfl
    | inr s' => exact ih k (i + 1) s' (by omega) (by omega) (hinv i s s' (by omega) hs e)
theorem one_neg (n : Nat) : (1 + (n : Int) < 0) = False := by
  simp
  omega
theorem u8_bds {n : Int} (h : (Lit.int .u8 n).wf = true) : 0 ≤ n ∧ n ≤ 255 := by
  simp [Lit.wf, IntKind.min, IntKind.max, IntKind.signed, IntKind.bits] at h
  omega
theorem i64_bds {n : Int} (h : (Lit.int .i64 n).wf = true) : -9223372036854775808 ≤ n ∧ n ≤ 9223372036854775807 := by
  simp [Lit.wf, IntKind.min, IntKind.max, IntKind.signed, IntKind.bits] at h
  omega
theorem tmod_bd (a : Int) {b : Int} (hb : 0 < b) : -b < Int.tmod a b ∧ Int.tmod a b < b := by
  by_cases h : 0 ≤ a
  · rw [Int.tmod_eq_emod_of_nonneg h]
    have := Int.emod_nonneg a (show b ≠ 0 by omega)
    have := Int.emod_lt_of_pos a hb
    omega
  · have e : Int.tmod a b = -(Int.tmod (-a) b) := by rw [Int.neg_tmod]; omega
    rw [e, Int.tmod_eq_emod_of_nonneg (by omega)]
    have := Int.emod_nonneg (-a) (show b ≠ 0 by omega)
    have := Int.emod_lt_of_pos (-a) hb
    omega
theorem wraps62 (n : Int) (h0 : 0 ≤ n) (h1 : n < 2 ^ 62) : IntKind.i64.wrap n = n := by
  rw [IntKind.wrap_i64]
  omega
theorem and127 (c : Int) (h0 : 0 ≤ c) (h1 : c < 2 ^ 62) : Go.bits .and .i64 c 127 = c % 128 := bits_mask .i64 62 (by decide) wraps62 7 (by decide) c h0 h1
theorem or_low (n s : Int) (j : Nat) (hj : j ≤ 62) (h0 : 0 ≤ n) (h1 : n < 2 ^ j) (hs0 : 0 ≤ s) (hs : s % 2 ^ j = 0) (hs1 : s < 2 ^ 62) : Go.bits .or .i64 n s = n + s := by
  have hn : n < 2 ^ 62 := Int.lt_of_lt_of_le h1 (by have h := Nat.pow_le_pow_right (show 0 < 2 by decide) hj; exact_mod_cast h)
  have e := bits_join .i64 62 (by decide) wraps62 j s n hs0 hs hs1 h0 h1 hn
  obtain ⟨a, rfl⟩ := Int.eq_ofNat_of_zero_le h0
  obtain ⟨b, rfl⟩ := Int.eq_ofNat_of_zero_le hs0
  have ha : a < 2 ^ 62 := by exact_mod_cast hn
  have hb : b < 2 ^ 62 := by exact_mod_cast hs1
  rw [(bits_nat .i64 62 (by decide) wraps62 a b ha hb).2]
  rw [(bits_nat .i64 62 (by decide) wraps62 b a hb ha).2] at e
  rw [Nat.or_comm, e]
  omega
/-- What a byte adds to a varint's number. -/
theorem comb_eq (n c : Int) (i : Nat) (hi : i < 6) (h0 : 0 ≤ n) (h1 : n < 2 ^ (7 * i)) (hc : 0 ≤ c ∧ c ≤ 255) :
    Go.bits .or .i64 n (shl .i64 (Go.bits .and .i64 c 127) (7 * (i : Int))) = n + c % 128 * 2 ^ (7 * i) := by
  rw [and127 c hc.1 (by omega)]
  have hm : 0 ≤ c % 128 ∧ c % 128 < 128 := ⟨by omega, by omega⟩
  generalize c % 128 = m at hm
  have e : shl .i64 m (7 * (i : Int)) = m * 2 ^ (7 * i) := by
    unfold shl
    have : min (7 * (i : Int)).toNat IntKind.i64.bits = 7 * i := by
      show min (7 * (i : Int)).toNat 64 = 7 * i
      omega
    rw [this]
    have hi' : i = 0 ∨ i = 1 ∨ i = 2 ∨ i = 3 ∨ i = 4 ∨ i = 5 := by omega
    rcases hi' with rfl | rfl | rfl | rfl | rfl | rfl <;> exact wraps62 _ (by simp; omega) (by simp; omega)
  rw [e]
  have hi' : i = 0 ∨ i = 1 ∨ i = 2 ∨ i = 3 ∨ i = 4 ∨ i = 5 := by omega
  refine or_low n _ (7 * i) (by omega) h0 h1 (by rcases hi' with rfl | rfl | rfl | rfl | rfl | rfl <;> simp <;> omega) (Int.mul_emod_left _ _) ?_
  rcases hi' with rfl | rfl | rfl | rfl | rfl | rfl <;> simp <;> omega
theorem and_mask (x : Int) (m : Nat) (hm : m < 2 ^ 31) : 0 ≤ Go.bits .and .i64 x m ∧ Go.bits .and .i64 x m ≤ m := by
  have h : (BitVec.ofInt 64 x &&& BitVec.ofInt 64 (m : Int)).toNat ≤ m := by
    rw [BitVec.toNat_and]
    refine Nat.le_trans Nat.and_le_right ?_
    rw [BitVec.ofInt_natCast, BitVec.toNat_ofNat]
    exact Nat.mod_le _ _
  have e : Go.bits .and .i64 x m = (((BitVec.ofInt 64 x &&& BitVec.ofInt 64 (m : Int)).toNat : Nat) : Int) := by
    simp only [Go.bits]
    show IntKind.i64.wrap (((BitVec.ofInt 64 x &&& BitVec.ofInt 64 (m : Int)).toNat : Nat) : Int) = _
    exact wraps62 _ (by omega) (by omega)
  rw [e]
  omega
def rdStep (l : List Int) (a : Int) (i : Nat) (n : Int) : (Int × Int × Bool) ⊕ Int :=
  if a + i ≥ l.length then .inl (0, 0, false)
  else if rd l (a + i) < 128 then
    if (0 < i ∧ rd l (a + i) = 0) ∨ Go.bits .or .i64 n (shl .i64 (Go.bits .and .i64 (rd l (a + i)) 127) (7 * i)) > 1000000000000 then .inl (0, 0, false)
    else .inl (Go.bits .or .i64 n (shl .i64 (Go.bits .and .i64 (rd l (a + i)) 127) (7 * i)), a + i + 1, true)
  else .inr (Go.bits .or .i64 n (shl .i64 (Go.bits .and .i64 (rd l (a + i)) 127) (7 * i)))
/-- What both ReadUvarint come to. -/
def readU (l : List Int) (a : Int) : Int × Int × Bool :=
  if 0 ≤ a ∧ a < l.length then runL (rdStep l a) (fun _ => (0, 0, false)) 6 0 0 else (0, 0, false)
theorem u8_bd {l : List Int} (h : ∀ x ∈ l, (Lit.int .u8 x).wf = true) (j : Int) : 0 ≤ rd l j ∧ rd l j ≤ 255 := by
  unfold rd
  rw [List.getD_eq_getElem?_getD]
  by_cases hj : j.toNat < l.length
  · rw [List.getElem?_eq_getElem hj]
    exact u8_bds (h _ (List.getElem_mem _))
  · rw [List.getElem?_eq_none (by omega)]
    exact ⟨Int.le_refl 0, by decide⟩
/-- The cursor: what it reads, where it stands. -/
theorem byte_ok (b : List Int) (hb : b.length ≤ 140737488351232) (i h : Int) (hi : 0 ≤ i) : ∃ v i' h', spec_l1Byte.f b i h = some (v, i', h') ∧ 0 ≤ v ∧ v ≤ 255 ∧ 0 ≤ i' := by
  unfold spec_l1Byte.f
  by_cases h1 : i < b.length
  · rw [if_pos h1, if_pos hi]
    refine ⟨_, _, _, rfl, (and_mask _ 255 (by decide)).1, (and_mask _ 255 (by decide)).2, ?_⟩
    unfold wrap64
    omega
  · rw [if_neg h1]
    exact ⟨_, _, _, rfl, (and_mask _ 255 (by decide)).1, (and_mask _ 255 (by decide)).2, hi⟩
theorem below_ok (b : List Int) (hb : b.length ≤ 140737488351232) (i h n : Int) (hi : 0 ≤ i) : ∃ v i' h', spec_l1Below.f b i h n = some (v, i', h') ∧ 0 ≤ v ∧ (0 < n → v < n) ∧ (n ≤ 0 → v = 0) ∧ 0 ≤ i' := by
  unfold spec_l1Below.f
  by_cases h1 : n ≤ 0
  · rw [if_pos h1]
    exact ⟨_, _, _, rfl, Int.le_refl _, fun h => by omega, fun _ => rfl, hi⟩
  · rw [if_neg h1]
    by_cases h2 : n ≤ 256
    · rw [if_pos h2]
      obtain ⟨v, i', h', e, v0, v1, i0⟩ := byte_ok b hb i h hi
      rw [e]
      simp only [Option.bind_some]
      rw [if_neg (by omega)]
      have t := tmod_bd v (b := n) (by omega)
      exact ⟨_, _, _, rfl, by rw [Int.tmod_eq_emod_of_nonneg v0]; exact Int.emod_nonneg _ (by omega), fun _ => t.2, fun h => by omega, i0⟩
    · rw [if_neg h2]
      obtain ⟨x, i1, h1', e1, x0, x1, j1⟩ := byte_ok b hb i h hi
      rw [e1]
      simp only [Option.bind_some]
      obtain ⟨y, i2, h2', e2, y0, y1, j2⟩ := byte_ok b hb i1 h1' j1
      rw [e2]
      simp only [Option.bind_some]
      obtain ⟨z, i3, h3', e3, z0, z1, j3⟩ := byte_ok b hb i2 h2' j2
      rw [e3]
      simp only [Option.bind_some]
      rw [if_neg (by omega)]
      have q : wrap64 (wrap64 (wrap64 (x * 65536) + wrap64 (y * 256)) + z) = x * 65536 + y * 256 + z := by
        have q1 : wrap64 (x * 65536) = x * 65536 := by unfold wrap64; omega
        have q2 : wrap64 (y * 256) = y * 256 := by unfold wrap64; omega
        rw [q1, q2]
        have q3 : wrap64 (x * 65536 + y * 256) = x * 65536 + y * 256 := by unfold wrap64; omega
        rw [q3]
        unfold wrap64
        omega
      rw [q]
      have t := tmod_bd (x * 65536 + y * 256 + z) (b := n) (by omega)
      exact ⟨_, _, _, rfl, by rw [Int.tmod_eq_emod_of_nonneg (by omega)]; exact Int.emod_nonneg _ (by omega), fun _ => t.2, fun h => by omega, j3⟩
theorem new_loop (b : List Int) (hb : b.length ≤ 140737488351232) : ∀ (d k : Nat) (i : Nat) (h : Int), (b.length - i : Nat) = d → i ≤ b.length → d < k → ∃ h', spec_l1New.l0 k b h (i : Int) = some (b, 0, h') := by
  intro d
  induction d with
  | zero =>
    intro k i h hd hi hk
    obtain ⟨k, rfl⟩ : ∃ m, k = m + 1 := ⟨k - 1, by omega⟩
    simp only [spec_l1New.l0]
    rw [if_neg (by omega)]
    exact ⟨_, rfl⟩
  | succ d ih =>
    intro k i h hd hi hk
    obtain ⟨k, rfl⟩ : ∃ m, k = m + 1 := ⟨k - 1, by omega⟩
    simp only [spec_l1New.l0]
    rw [if_pos (by omega)]
    by_cases h4 : (i : Int) < 4000
    · rw [if_pos h4, if_pos (by omega), wrap_nat (n := b.length) (by omega) hb]
      exact ih k (i + 1) _ (by omega) (by omega) (by omega)
    · rw [if_neg h4]
      exact ⟨_, rfl⟩
theorem new_ok (k : Nat) (b : List Int) (hb : b.length ≤ 140737488351232) (hk : b.length < k) : ∃ h, spec_l1New.f k b = some (b, 0, h) := by
  unfold spec_l1New.f
  exact new_loop b hb b.length k 0 _ (by omega) (by omega) hk
theorem once_ok (b : List Int) (hb : b.length ≤ 140737488351232) (i h n : Int) (hi : 0 ≤ i) : ∃ v i' h', spec_l1Once.f b i h n = some (v, i', h') ∧ 0 ≤ i' := by
  unfold spec_l1Once.f
  obtain ⟨v, i', h', e, _, _, _, i0⟩ := below_ok b hb i h n hi
  rw [e]
  exact ⟨_, _, _, rfl, i0⟩
theorem int_ok (b : List Int) (hb : b.length ≤ 140737488351232) (i h : Int) (l : List Int) (hl : 0 < l.length) (hi : 0 ≤ i) : ∃ v i' h', spec_l1Int.f b i h l = some (v, i', h') ∧ v ∈ l ∧ 0 ≤ i' := by
  unfold spec_l1Int.f
  obtain ⟨v, i', h', e, v0, v1, _, i0⟩ := below_ok b hb i h (l.length : Int) hi
  rw [e]
  simp only [Option.bind_some]
  have := v1 (by omega)
  rw [if_pos v0, if_pos this]
  refine ⟨_, _, _, rfl, ?_, i0⟩
  unfold rd
  rw [List.getD_eq_getElem?_getD, List.getElem?_eq_getElem (by omega)]
  exact List.getElem_mem _
theorem word3_ok (b : List Int) (hb : b.length ≤ 140737488351232) (i h : Int) (hi : 0 ≤ i) : ∃ v i' h', spec_l3Word.f b i h = some (v, i', h') ∧ (-1 ≤ v ∧ v ≤ 2147483648) ∧ 0 ≤ i' := by
  unfold spec_l3Word.f
  obtain ⟨v, i1, h1, e, j1⟩ := once_ok b hb i h 10 hi
  rw [e]
  simp only [Option.bind_some]
  by_cases c : v = true
  · rw [if_pos c]
    obtain ⟨x, i2, h2, e, m, j2⟩ := int_ok b hb i1 h1 [(-1), 2147483647, 2147483648] (by decide) j1
    rw [e]
    refine ⟨_, _, _, rfl, ?_, j2⟩
    simp at m
    omega
  · rw [if_neg c]
    obtain ⟨v, i2, h2, e, j2⟩ := once_ok b hb i1 h1 4 j1
    rw [e]
    simp only [Option.bind_some]
    by_cases c : v = true
    · rw [if_pos c]
      obtain ⟨x, i3, h3, e, m, j3⟩ := int_ok b hb i2 h2 [0, 1, 2147483646] (by decide) j2
      rw [e]
      refine ⟨_, _, _, rfl, ?_, j3⟩
      simp at m
      omega
    · rw [if_neg c]
      obtain ⟨x, i3, h3, e, x0, x1, _, j3⟩ := below_ok b hb i2 h2 1000000 j2
      rw [e]
      simp only [Option.bind_some]
      obtain ⟨y, i4, h4, e, y0, y1, _, j4⟩ := below_ok b hb i3 h3 2000 j3
      rw [e]
      refine ⟨_, _, _, rfl, ?_, j4⟩
      have p : 0 ≤ x * y ∧ x * y ≤ 999999 * 1999 := ⟨Int.mul_nonneg x0 y0, Int.mul_le_mul (by omega) (by omega) y0 (by omega)⟩
      show -1 ≤ wrap64 (x * y) ∧ wrap64 (x * y) ≤ 2147483648
      unfold wrap64
      omega
theorem str_ok (b : List Int) (hb : b.length ≤ 140737488351232) (i h : Int) (l : List ByteArray) (hl : 0 < l.length) (hi : 0 ≤ i) : ∃ v i' h', spec_l1Str.f b i h l = some (v, i', h') ∧ v ∈ l ∧ 0 ≤ i' := by
  unfold spec_l1Str.f
  obtain ⟨v, i', h', e, v0, v1, _, i0⟩ := below_ok b hb i h (l.length : Int) hi
  rw [e]
  simp only [Option.bind_some]
  have := v1 (by omega)
  rw [if_pos v0, if_pos this]
  refine ⟨_, _, _, rfl, ?_, i0⟩
  unfold rdOf
  rw [List.getD_eq_getElem?_getD, List.getElem?_eq_getElem (by omega)]
  exact List.getElem_mem _
theorem at_ok (l : List Int) (hl : l.length ≤ 1048576) (hw : ∀ x ∈ l, (Lit.int .u8 x).wf = true) (a : Int) (h0 : 0 ≤ a) (h1 : a ≤ 1000) : ∃ v, laws_at.f l a = some v ∧ 0 ≤ v ∧ v ≤ 255 := by
  unfold laws_at.f
  by_cases h : a < (l.length : Int)
  · rw [if_pos h, if_pos h0]
    have b := u8_bd hw a
    refine ⟨_, rfl, ?_⟩
    unfold wrap64
    omega
  · rw [if_neg h]
    have q : wrap64 (wrap64 (a * 31) + wrap64 ((l.length : Int) * 7)) = a * 31 + l.length * 7 := by
      have q1 : wrap64 (a * 31) = a * 31 := by unfold wrap64; omega
      have q2 : wrap64 ((l.length : Int) * 7) = l.length * 7 := by unfold wrap64; omega
      rw [q1, q2]
      unfold wrap64
      omega
    refine ⟨_, rfl, ?_⟩
    rw [q, Int.tmod_eq_emod_of_nonneg (by omega)]
    omega
def modM (v : Int) : Int := Int.tmod (wrap64 (Int.tmod v 2147483647 + 2147483647)) 2147483647
def hstep (l : List Int) (i : Nat) (h : Int) : Int ⊕ Int := .inr (Int.tmod (wrap64 (wrap64 (wrap64 (h * 1000003) + modM (rd l i)) + 13)) 2147483647)
/-- What both Hash come to. -/
def hashV (l : List Int) : Int := runL (hstep l) id l.length 0 11
def pad (a : Int) (i : Nat) : Int := hashV ([a] ++ [(i : Int)] ++ [a])
def encryptV (a : Int) (l : List Int) : List Int := (List.range l.length).map fun (i : Nat) => (rd l i + pad a i % 256) % 256
def decryptV (a : Int) (l : List Int) : List Int := (List.range l.length).map fun (i : Nat) => (rd l i - pad a i % 256) % 256
theorem hash_range (l : List Int) : ∀ (d i : Nat) (h : Int), 0 ≤ h → h < 2147483647 → 0 ≤ runL (hstep l) id d i h ∧ runL (hstep l) id d i h < 2147483647
  | 0, i, h, h0, h1 => ⟨h0, h1⟩
  | d + 1, i, h, h0, h1 => by
    unfold runL hstep
    have e0 : 0 ≤ modM (rd l i) ∧ modM (rd l i) < 2147483647 := by
      unfold modM
      have r1 := tmod_bd (rd l i) (b := 2147483647) (by omega)
      have r2 : wrap64 (Int.tmod (rd l i) 2147483647 + 2147483647) = Int.tmod (rd l i) 2147483647 + 2147483647 := by unfold wrap64; omega
      rw [r2, Int.tmod_eq_emod_of_nonneg (by omega)]
      omega
    have e1 : wrap64 (wrap64 (wrap64 (h * 1000003) + modM (rd l i)) + 13) = h * 1000003 + modM (rd l i) + 13 := by
      have : wrap64 (h * 1000003) = h * 1000003 := by unfold wrap64; omega
      rw [this]
      have : wrap64 (h * 1000003 + modM (rd l i)) = h * 1000003 + modM (rd l i) := by unfold wrap64; omega
      rw [this]
      unfold wrap64
      omega
    simp only [e1]
    refine hash_range l d (i + 1) _ ?_ ?_
    · rw [Int.tmod_eq_emod_of_nonneg (by omega)]
      omega
    · rw [Int.tmod_eq_emod_of_nonneg (by omega)]
      omega
theorem hashV_range (l : List Int) : 0 ≤ hashV l ∧ hashV l < 2147483647 := hash_range l l.length 0 11 (by omega) (by omega)
theorem pad_range (a : Int) (i : Nat) : 0 ≤ pad a i ∧ pad a i < 2147483647 := hashV_range _
theorem map_loop (F : Nat → Nat → List Int → Option (List Int)) (l : List Int) (v : Nat → Int)
    (hend : ∀ k s, s.length = l.length → F (k + 1) l.length s = some s)
    (hstep : ∀ k i s, 8 < k → i < l.length → s.length = l.length → s.getD i 0 = l.getD i 0 → F (k + 1) i s = F k (i + 1) (s.set i (v i))) :
    ∀ (d k i : Nat) (s : List Int), i + d = l.length → d + 10 < k → s.length = l.length → (∀ j, s.getD j 0 = if j < i then v j else l.getD j 0) → F k i s = some ((List.range l.length).map v) := by
  intro d
  induction d with
  | zero =>
    intro k i s hi hk hs hj
    obtain ⟨k, rfl⟩ : ∃ m, k = m + 1 := ⟨k - 1, by omega⟩
    obtain rfl : i = l.length := by omega
    rw [hend k s hs]
    congr 1
    refine ext_getD s _ 0 (by simpa using hs) fun j h => ?_
    have h' : j < l.length := by simpa using h
    rw [hj j, if_pos h']
    simp [List.getD_eq_getElem?_getD, h']
  | succ d ih =>
    intro k i s hi hk hs hj
    obtain ⟨k, rfl⟩ : ∃ m, k = m + 1 := ⟨k - 1, by omega⟩
    rw [hstep k i s (by omega) (by omega) hs (by rw [hj i, if_neg (by omega)])]
    refine ih k (i + 1) _ (by omega) (by omega) (by simpa using hs) fun j => ?_
    rw [getD_set_self, hj j]
    by_cases e : i = j
    · subst e
      rw [if_pos ⟨rfl, by omega⟩, if_pos (by omega)]
    · rw [if_neg (fun h => e h.1)]
      by_cases h : j < i
      · rw [if_pos h, if_pos (by omega)]
      · rw [if_neg h, if_neg (by omega)]
theorem build_loop (F : Nat → Nat → List Int → Option (List Int)) (n : Nat) (v : Nat → Int)
    (hend : ∀ k s, F (k + 1) n s = some s)
    (hstep : ∀ k i s, 8 < k → i < n → s.length = i → F (k + 1) i s = F k (i + 1) (s ++ [v i])) :
    ∀ (d k i : Nat) (s : List Int), i + d = n → d + 10 < k → s = (List.range i).map v → F k i s = some ((List.range n).map v) := by
  intro d
  induction d with
  | zero =>
    intro k i s hi hk hs
    obtain ⟨k, rfl⟩ : ∃ m, k = m + 1 := ⟨k - 1, by omega⟩
    obtain rfl : i = n := by omega
    rw [hend k s, hs]
  | succ d ih =>
    intro k i s hi hk hs
    obtain ⟨k, rfl⟩ : ∃ m, k = m + 1 := ⟨k - 1, by omega⟩
    rw [hstep k i s (by omega) (by omega) (by rw [hs]; simp)]
    refine ih k (i + 1) _ (by omega) (by omega) ?_
    rw [hs, List.range_succ, List.map_append]
    rfl
theorem modM_range (v : Int) : 0 ≤ modM v ∧ modM v < 2147483647 := by
  unfold modM
  have r1 := tmod_bd v (b := 2147483647) (by omega)
  have r2 : wrap64 (Int.tmod v 2147483647 + 2147483647) = Int.tmod v 2147483647 + 2147483647 := by unfold wrap64; omega
  rw [r2, Int.tmod_eq_emod_of_nonneg (by omega)]
  omega
theorem modM_eq (v : Int) : modM v = v % 2147483647 := by
  unfold modM
  have r1 := tmod_bd v (b := 2147483647) (by omega)
  have r2 : wrap64 (Int.tmod v 2147483647 + 2147483647) = Int.tmod v 2147483647 + 2147483647 := by unfold wrap64; omega
  have r3 := Int.mul_tdiv_add_tmod v 2147483647
  rw [r2, Int.tmod_eq_emod_of_nonneg (by omega)]
  omega
def hnext (h m : Int) : Int := (h * 1000003 + m + 13) % 2147483647
theorem hstep_eq (l : List Int) (i : Nat) (h : Int) (h0 : 0 ≤ h) (h1 : h < 2147483647) : hstep l i h = .inr (hnext h (modM (rd l i))) := by
  unfold hstep hnext
  have e0 := modM_range (rd l i)
  have e1 : wrap64 (wrap64 (wrap64 (h * 1000003) + modM (rd l i)) + 13) = h * 1000003 + modM (rd l i) + 13 := by
    have : wrap64 (h * 1000003) = h * 1000003 := by unfold wrap64; omega
    rw [this]
    have : wrap64 (h * 1000003 + modM (rd l i)) = h * 1000003 + modM (rd l i) := by unfold wrap64; omega
    rw [this]
    unfold wrap64
    omega
  rw [e1, Int.tmod_eq_emod_of_nonneg (by omega)]
theorem hnext_range (h m : Int) : 0 ≤ hnext h m ∧ hnext h m < 2147483647 := by
  unfold hnext
  omega
theorem prime_step (d k : Int) (h : d * 1000003 = 2147483647 * k) : d = 2147483647 * (1523789695 * k - 709572 * d) := by
  have e : d * 1000003 * 1523789695 = 2147483647 * k * 1523789695 := by rw [h]
  omega
theorem lin_step (h h' m r q1 q2 : Int) (a1 : 2147483647 * q1 + r = h * 1000003 + m + 13) (a2 : 2147483647 * q2 + r = h' * 1000003 + m + 13) : (h - h') * 1000003 = 2147483647 * (q1 - q2) := by
  rw [Int.sub_mul, Int.mul_sub]
  omega
theorem small_zero (d z : Int) (h : d = 2147483647 * z) (b1 : -2147483647 < d) (b2 : d < 2147483647) : d = 0 := by
  omega
theorem hnext_h (h h' m : Int) (h0 : 0 ≤ h) (h1 : h < 2147483647) (h0' : 0 ≤ h') (h1' : h' < 2147483647) (ne : h ≠ h') : hnext h m ≠ hnext h' m := by
  unfold hnext
  intro e
  have a1 := Int.mul_ediv_add_emod (h * 1000003 + m + 13) 2147483647
  have a2 := Int.mul_ediv_add_emod (h' * 1000003 + m + 13) 2147483647
  rw [e] at a1
  have hd := lin_step _ _ _ _ _ _ a1 a2
  have z := small_zero _ _ (prime_step _ _ hd) (by clear hd a1 a2 e ne; omega) (by clear hd a1 a2 e ne; omega)
  clear hd a1 a2 e
  omega
theorem hnext_m (h m m' : Int) (h0 : 0 ≤ m) (h1 : m < 2147483647) (h0' : 0 ≤ m') (h1' : m' < 2147483647) (ne : m ≠ m') : hnext h m ≠ hnext h m' := by
  unfold hnext
  generalize h * 1000003 = q
  omega
theorem diff_after (l l' : List Int) : ∀ (d i : Nat) (h h' : Int), (∀ t : Nat, i ≤ t → rd l t = rd l' t) → 0 ≤ h → h < 2147483647 → 0 ≤ h' → h' < 2147483647 → h ≠ h' → runL (hstep l) id d i h ≠ runL (hstep l') id d i h' := by
  intro d
  induction d with
  | zero => intro i h h' _ _ _ _ _ ne; exact ne
  | succ d ih =>
    intro i h h' hs a b c e ne
    unfold runL
    rw [hstep_eq l i h a b, hstep_eq l' i h' c e, ← hs i (Nat.le_refl _)]
    have r := hnext_range h (modM (rd l i))
    have r' := hnext_range h' (modM (rd l i))
    exact ih (i + 1) _ _ (fun t ht => hs t (by omega)) r.1 r.2 r'.1 r'.2 (hnext_h h h' _ a b c e ne)
theorem diff_at (l l' : List Int) (j : Nat) (hs : ∀ t : Nat, t ≠ j → rd l t = rd l' t) (ne : modM (rd l j) ≠ modM (rd l' j)) : ∀ (d i : Nat) (h : Int), i ≤ j → j < i + d → 0 ≤ h → h < 2147483647 → runL (hstep l) id d i h ≠ runL (hstep l') id d i h := by
  intro d
  induction d with
  | zero => intro i h h1 h2; omega
  | succ d ih =>
    intro i h h1 h2 a b
    unfold runL
    rw [hstep_eq l i h a b, hstep_eq l' i h a b]
    by_cases e : i = j
    · subst e
      have m := modM_range (rd l i)
      have m' := modM_range (rd l' i)
      have r := hnext_range h (modM (rd l i))
      have r' := hnext_range h (modM (rd l' i))
      exact diff_after l l' d (i + 1) _ _ (fun t ht => hs t (by omega)) r.1 r.2 r'.1 r'.2 (hnext_m h _ _ m.1 m.2 m'.1 m'.2 ne)
    · rw [← hs i e]
      have r := hnext_range h (modM (rd l i))
      exact ih (i + 1) _ (by omega) (by omega) r.1 r.2
/-- One value changed modulo Modulus changes the hash. -/
theorem hash_set (l : List Int) (j : Nat) (v : Int) (hj : j < l.length) (ne : modM (l.getD j 0) ≠ modM v) : hashV l ≠ hashV (l.set j v) := by
  unfold hashV
  rw [List.length_set]
  have e : rd l (j : Int) = l.getD j 0 := by simp [rd]
  refine diff_at l (l.set j v) j (fun t ht => ?_) ?_ l.length 0 11 (by omega) (by omega) (by omega) (by omega)
  · simp only [rd, Int.toNat_natCast]
    rw [getD_set_self, if_neg (fun h => ht h.1.symm)]
  · have e2 : rd (l.set j v) (j : Int) = v := by
      simp only [rd, Int.toNat_natCast]
      rw [getD_set_self, if_pos ⟨rfl, hj⟩]
    rw [e, e2]
    exact ne
theorem implMod_M (v : Int) : impl_Mod.f v 2147483647 = some (modM v) := by
  unfold impl_Mod.f
  rw [inr]
  simp [modM]
theorem implHash (k : Nat) (l : List Int) (hl : l.length ≤ 1000000000000) (hk : l.length < k) : impl_Hash.f k l = some (hashV l) := by
  unfold impl_Hash.f hashV
  refine loop_run (fun k i s => impl_Hash.l0 k s l (l.length : Int) (i : Int)) l.length (hstep l) id (fun _ _ => True) (fun k s _ => ?_) (fun k i s hi _ => ?_) (fun _ _ _ _ _ _ => trivial) l.length k 0 11 (by omega) hk trivial
  · simp only [impl_Hash.l0]
    rw [if_neg (by omega)]
    rfl
  · simp only [impl_Hash.l0]
    rw [if_pos (by omega), if_pos (by omega), if_pos (by omega), wrap_nat hi (by omega), implMod_M]
    rfl
theorem implKeyed (k : Nat) (a : Int) (l : List Int) (hl : l.length ≤ 500000000000) (hk : l.length + 2 < k) : impl_KeyedHash.f k a l = some (hashV ([a] ++ l ++ [a])) := by
  unfold impl_KeyedHash.f
  simp only [Option.bind_some]
  rw [if_pos (by simp; omega), if_pos (by simp; omega), implHash k _ (by simp; omega) (by simp; omega)]
  rfl
theorem b2i_loop (F : Nat → Nat → List Int → Option (List Int)) (l : List Int)
    (hend : ∀ k s, F (k + 1) l.length s = some s)
    (hstep : ∀ k i s, i < l.length → s.length = i + 1 → F (k + 1) i s = F k (i + 1) (s ++ [rd l i])) :
    ∀ (d k i : Nat) (s : List Int), i + d = l.length → d < k → s = (l.length : Int) :: l.take i → F k i s = some ((l.length : Int) :: l) := by
  intro d
  induction d with
  | zero =>
    intro k i s hi hk hs
    obtain ⟨k, rfl⟩ : ∃ m, k = m + 1 := ⟨k - 1, by omega⟩
    obtain rfl : i = l.length := by omega
    rw [hend, hs, List.take_length]
  | succ d ih =>
    intro k i s hi hk hs
    obtain ⟨k, rfl⟩ : ∃ m, k = m + 1 := ⟨k - 1, by omega⟩
    rw [hstep k i s (by omega) (by rw [hs]; simp; omega)]
    refine ih k (i + 1) _ (by omega) (by omega) ?_
    rw [hs, List.take_succ_eq_append_getElem (by omega)]
    simp [rd, List.getD_eq_getElem?_getD, List.getElem?_eq_getElem (show i < l.length by omega)]
theorem implB2I (k : Nat) (l : List Int) (hl : l.length ≤ 1048576) (hw : ∀ x ∈ l, (Lit.int .u8 x).wf = true) (hk : l.length < k) : impl_BytesToInts.f k l = some ((l.length : Int) :: l) := by
  unfold impl_BytesToInts.f
  refine b2i_loop (fun k i s => impl_BytesToInts.l0 k s l (l.length : Int) (i : Int)) l (fun k s => ?_) (fun k i s hi hs => ?_) l.length k 0 _ (by omega) hk (by simp)
  · simp only [impl_BytesToInts.l0]
    rw [if_neg (by omega)]
  · simp only [impl_BytesToInts.l0]
    have b := u8_bd hw i
    rw [if_pos (by omega), if_pos (by omega), if_pos (by omega), if_pos (by omega), wrap_nat hi (by omega), show wrap64 (rd l i) = rd l i by unfold wrap64; omega]
theorem bytesOf_wf (s : ByteArray) : ∀ x ∈ bytesOf s, (Lit.int .u8 x).wf = true := by
  intro x hx
  obtain ⟨b, _, rfl⟩ := List.mem_map.1 hx
  have := b.toNat_lt
  simp [Lit.wf, IntKind.min, IntKind.max, IntKind.signed, IntKind.bits]
  omega
theorem specMod_M (v : Int) : spec_Mod.f v 2147483647 = some (modM v) := by
  unfold spec_Mod.f
  rw [l1in]
  simp [modM]
theorem words_loop (b : List Int) (hb : b.length ≤ 140737488351232) : ∀ (d k : Nat) (s : List Int) (i h : Int), d < k → s.length + d ≤ 100 → (∀ x ∈ s, -1 ≤ x ∧ x ≤ 2147483648) → 0 ≤ i →
    ∃ r i' h', spec_l3Words.l0 k s (d : Int) b i h = some (r, i', h') ∧ (∀ x ∈ r, -1 ≤ x ∧ x ≤ 2147483648) ∧ r.length ≤ 100 := by
  intro d
  induction d with
  | zero =>
    intro k s i h hk hs hw hi
    obtain ⟨k, rfl⟩ : ∃ m, k = m + 1 := ⟨k - 1, by omega⟩
    simp only [spec_l3Words.l0]
    rw [if_neg (by omega)]
    exact ⟨_, _, _, rfl, hw, by omega⟩
  | succ d ih =>
    intro k s i h hk hs hw hi
    obtain ⟨k, rfl⟩ : ∃ m, k = m + 1 := ⟨k - 1, by omega⟩
    simp only [spec_l3Words.l0]
    obtain ⟨x, i2, h2, e, hx, j2⟩ := word3_ok b hb i h hi
    rw [if_pos (by omega), e]
    simp only [Option.bind_some]
    rw [if_pos (by omega), show wrap64 (((d + 1 : Nat) : Int) - 1) = (d : Int) by unfold wrap64; omega]
    refine ih k (s ++ [x]) i2 h2 (by omega) (by simp; omega) (fun y hy => ?_) j2
    rcases List.mem_append.1 hy with hy | hy
    · exact hw y hy
    · obtain rfl := List.mem_singleton.1 hy
      exact hx
theorem drawKeyed_ok (k : Nat) (b : List Int) (hb : b.length ≤ 140737488351232) (hk : b.length + 30 < k) : ∃ a l, spec_DrawKeyedHash.f k b = some (a, l) ∧ (∀ x ∈ l, -1 ≤ x ∧ x ≤ 2147483648) ∧ l.length ≤ 100 := by
  unfold spec_DrawKeyedHash.f spec_l3Words.f
  obtain ⟨h0, e⟩ := new_ok k b hb (by omega)
  rw [e]
  simp only [Option.bind_some]
  obtain ⟨a, i1, h1, e, _, j1⟩ := word3_ok b hb 0 h0 (by omega)
  rw [e]
  simp only [Option.bind_some]
  obtain ⟨n, i2, h2, e, n0, n1, _, j2⟩ := below_ok b hb i1 h1 5 j1
  have := n1 (by decide)
  rw [e]
  simp only [Option.bind_some]
  obtain ⟨m, rfl⟩ := Int.eq_ofNat_of_zero_le n0
  obtain ⟨r, i3, h3, e, w, l⟩ := words_loop b hb m k [] i2 h2 (by omega) (by simp; omega) (by simp) j2
  rw [e]
  exact ⟨_, _, rfl, w, l⟩
theorem third (k : Nat) (b : List Int) (hb : b.length ≤ 140737488351232) (hk : b.length + 100 < k) : ((spec_DrawDeriveFromString.f k b).bind fun bt => ((impl_DeriveFromString.f k bt.1 bt.2).bind fun t => ((impl_IsValidKey.f t).bind fun t2 => (some t2)))) = some true := by
  unfold spec_DrawDeriveFromString.f
  obtain ⟨h0, e⟩ := new_ok k b hb (by omega)
  rw [e]
  simp only [Option.bind_some]
  obtain ⟨a, i1, h1, e, _, j1⟩ := word3_ok b hb 0 h0 (by omega)
  rw [e]
  simp only [Option.bind_some]
  obtain ⟨s, i2, h2, e, hm, j2⟩ := str_ok b hb i1 h1 [(⟨#[]⟩ : ByteArray), (⟨#[97]⟩ : ByteArray), (⟨#[98]⟩ : ByteArray), (⟨#[97, 98]⟩ : ByteArray), (⟨#[110, 101, 119, 115]⟩ : ByteArray), (⟨#[120]⟩ : ByteArray)] (by decide) j1
  rw [e]
  simp only [Option.bind_some]
  have hs : s.size ≤ 4 := by
    simp only [List.mem_cons, List.not_mem_nil, or_false] at hm
    rcases hm with rfl | rfl | rfl | rfl | rfl | rfl <;> decide
  unfold impl_DeriveFromString.f impl_IsValidKey.f
  have hl := bytesOf_length s
  have w := bytesOf_wf s
  rw [if_pos (by omega), implB2I _ (bytesOf s) (by omega) w (by omega)]
  simp only [Option.bind_some]
  rw [implKeyed _ a _ (by simp; omega) (by simp; omega)]
  simp only [Option.bind_some]
  have r := hashV_range ([a] ++ ((bytesOf s).length : Int) :: bytesOf s ++ [a])
  generalize hashV ([a] ++ ((bytesOf s).length : Int) :: bytesOf s ++ [a]) = q at r
  by_cases e : q = 0
  · rw [if_pos e]
    simp [inr]
  · rw [if_neg e]
    simp only [Option.bind_some, inr]
    congr 1
    simp
    omega
theorem FnKeyedHash : laws_FnKeyedHash.Pure := by
  intro b _ hb hw
  refine ⟨b.length + 200, ?_⟩
  unfold laws_FnKeyedHash.f laws_big.f
  simp only [Option.bind_some, decide_eq_true_eq]
  by_cases h : (b.length : Int) > 1048576
  · rw [if_pos h]
  rw [if_neg h]
  obtain ⟨a, l, e, hl, ln⟩ := drawKeyed_ok (b.length + 200) b (by omega) (by omega)
  rw [e]
  simp only [Option.bind_some]
  rw [implKeyed _ a l (by omega) (by omega)]
  simp only [Option.bind_some]
  have r := hashV_range ([a] ++ l ++ [a])
  rw [if_neg (by omega), if_neg (by omega), if_pos (by simp; omega), if_pos (by simp; omega), implHash _ ([a] ++ l ++ [a]) (by simp; omega) (by simp; omega)]
  simp only [Option.bind_some, bne_self_eq_false, laws_FnKeyedHash.j0, Bool.false_eq_true, if_false, List.nil_append, List.length_nil]
  have t3 := third (b.length + 199) b (by omega) (by omega)
  by_cases h0 : (l.length : Int) > 0
  · rw [if_pos h0, if_pos (by omega)]
    obtain ⟨t, et, t0, t1⟩ := at_ok b (by omega) hw 0 (by omega) (by omega)
    obtain ⟨u, eu, u0, u1⟩ := at_ok b (by omega) hw 1 (by omega) (by omega)
    rw [et]
    simp only [Option.bind_some]
    have tb := tmod_bd t (b := (l.length : Int)) h0
    have tn : 0 ≤ Int.tmod t (l.length : Int) := by
      rw [Int.tmod_eq_emod_of_nonneg t0]
      exact Int.emod_nonneg _ (by omega)
    generalize Int.tmod t (l.length : Int) = j at tb tn
    obtain ⟨j, rfl⟩ := Int.eq_ofNat_of_zero_le tn
    have jl : j < l.length := by omega
    rw [if_neg (by omega), if_pos tn, if_pos tb.2, eu]
    simp only [Option.bind_some, specMod_M, Int.toNat_natCast]
    have ej : rd l (j : Int) = l[j] := by simp [rd, List.getD_eq_getElem?_getD, List.getElem?_eq_getElem jl]
    have bj := hl l[j] (List.getElem_mem _)
    rw [ej]
    have ew : wrap64 (wrap64 (l[j] + 1) + u) = l[j] + 1 + u := by
      have : wrap64 (l[j] + 1) = l[j] + 1 := by unfold wrap64; omega
      rw [this]
      unfold wrap64
      omega
    rw [ew, implKeyed _ a _ (by simp; omega) (by simp; omega)]
    simp only [Option.bind_some]
    have es : [a] ++ l.set j (modM (l[j] + 1 + u)) ++ [a] = ([a] ++ l ++ [a]).set (j + 1) (modM (l[j] + 1 + u)) := by
      simp [List.set_append, jl]
    have ne := hash_set ([a] ++ l ++ [a]) (j + 1) (modM (l[j] + 1 + u)) (by simp; omega) (by
      have eg : ([a] ++ l ++ [a]).getD (j + 1) 0 = l[j] := by
        simp [List.getD_eq_getElem?_getD, List.getElem?_append, jl]
      rw [eg, modM_eq, modM_eq, modM_eq]
      omega)
    rw [es, if_neg (fun e => ne e.symm)]
    exact t3
  · rw [if_neg h0]
    exact t3
end Go.Proofs.Ytgnpindamkgggaa.Pure
