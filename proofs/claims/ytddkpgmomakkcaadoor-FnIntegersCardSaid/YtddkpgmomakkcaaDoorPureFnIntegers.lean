/- The law FnIntegers answers true for every byte slice: integers are parsed from their decimal form, and CeilDiv and Mod satisfy their inequalities. No condition. -/
import Derived.Test.YtddkpgmomakkcaaDoorPFnIntegersx3
namespace Go.Proofs.YtddkpgmomakkcaaDoor.Pure
open Go.RowKit Go.Proofs.YtddkpgmomakkcaaDoor.PFnIntegers Go.Proofs.YtddkpgmomakkcaaDoorW.PrintWords Go.Proofs.YtddkpgmomakkcaaDoorW.PrintLast Go.Proofs.YtddkpgmomakkcaaDoorW.PrintMore
set_option linter.unusedVariables false
set_option linter.unusedSimpArgs false
theorem wrap_nat {m n : Nat} (h : m < n) (hn : n ≤ 140737488351232) : wrap64 ((m : Int) + 1) = ((m + 1 : Nat) : Int) := by
  unfold wrap64
  omega
theorem getD_set_self {α : Type} (l : List α) (i j : Nat) (v d : α) : (l.set i v).getD j d = if i = j ∧ i < l.length then v else l.getD j d := by
  simp only [List.getD_eq_getElem?_getD, List.getElem?_set]
  by_cases h : i = j
  · subst h
    by_cases h2 : i < l.length
    · simp [h2]
    · simp [h2]
  · simp [h]
theorem ext_getD {α : Type} (a b : List α) (d : α) (hl : a.length = b.length) (h : ∀ j, j < b.length → a.getD j d = b.getD j d) : a = b := by
  refine List.ext_getElem hl fun j h1 h2 => ?_
  have := h j h2
  simpa [List.getD_eq_getElem?_getD, List.getElem?_eq_getElem h1, List.getElem?_eq_getElem h2] using this
theorem copy_loop {α : Type} (F : Nat → Nat → List α → Option (List α)) (x0 : List α) (dv : α)
    (hend : ∀ k s, s.length = x0.length → F (k + 1) x0.length s = some s)
    (hstep : ∀ k i s, i < x0.length → s.length = x0.length → F (k + 1) i s = F k (i + 1) (s.set i (x0.getD i dv))) :
    ∀ (d k i : Nat) (s : List α), i + d = x0.length → d < k → s.length = x0.length → (∀ j, j < i → s.getD j dv = x0.getD j dv) → F k i s = some x0 := by
  intro d
  induction d with
  | zero =>
    intro k i s hi hk hs hj
    obtain ⟨k, rfl⟩ : ∃ m, k = m + 1 := ⟨k - 1, by omega⟩
    obtain rfl : i = x0.length := by omega
    rw [hend k s hs, ext_getD s x0 dv hs hj]
  | succ d ih =>
    intro k i s hi hk hs hj
    obtain ⟨k, rfl⟩ : ∃ m, k = m + 1 := ⟨k - 1, by omega⟩
    rw [hstep k i s (by omega) hs]
    refine ih k (i + 1) _ (by omega) (by omega) (by simpa using hs) fun j h => ?_
    rw [getD_set_self]
    by_cases e : i = j
    · subst e
      rw [if_pos ⟨rfl, by omega⟩]
    · rw [if_neg (fun h => e h.1)]
      exact hj j (by omega)
theorem eq_loop {α : Type} [DecidableEq α] (F : Nat → Nat → Option Bool) (x0 x1 : List α) (dv : α) (hl : x0.length = x1.length)
    (hend : ∀ k, F (k + 1) x0.length = some true)
    (hstep : ∀ k i, i < x0.length → F (k + 1) i = if x0.getD i dv = x1.getD i dv then F k (i + 1) else some false) :
    ∀ (d k i : Nat), i + d = x0.length → d < k → F k i = some (decide (x0.drop i = x1.drop i)) := by
  intro d
  induction d with
  | zero =>
    intro k i hi hk
    obtain ⟨k, rfl⟩ : ∃ m, k = m + 1 := ⟨k - 1, by omega⟩
    obtain rfl : i = x0.length := by omega
    rw [hend]
    simp [hl]
  | succ d ih =>
    intro k i hi hk
    obtain ⟨k, rfl⟩ : ∃ m, k = m + 1 := ⟨k - 1, by omega⟩
    have h0 : i < x0.length := by omega
    have h1 : i < x1.length := by omega
    rw [hstep k i h0, ih k (i + 1) (by omega) (by omega), List.drop_eq_getElem_cons h0, List.drop_eq_getElem_cons h1]
    simp only [List.getD_eq_getElem?_getD, List.getElem?_eq_getElem h0, List.getElem?_eq_getElem h1, Option.getD_some, List.cons.injEq]
    by_cases e : x0[i] = x1[i] <;> simp [e]
theorem mark_loop {α : Type} (F : Nat → Nat → List α → Option (Int × List α)) (n : Nat) (val : Nat → α)
    (hend : ∀ k s, s.length = n → F (k + 1) n s = some (1 + (n : Int), s))
    (hstep : ∀ k i s, i < n → s.length = n → F (k + 1) i s = F k (i + 1) (s.set i (val i))) (dv : α) :
    ∀ (d k i : Nat) (s : List α), i + d = n → d < k → s.length = n → (∀ j, j < i → s.getD j dv = val j) → F k i s = some (1 + (n : Int), (List.range n).map val) := by
  intro d
  induction d with
  | zero =>
    intro k i s hi hk hs hj
    obtain ⟨k, rfl⟩ : ∃ m, k = m + 1 := ⟨k - 1, by omega⟩
    obtain rfl : i = n := by omega
    rw [hend k s hs]
    have e : s = (List.range i).map val := ext_getD s _ dv (by simpa using hs) fun j h => by
      have h' : j < i := by simpa using h
      rw [hj j h']
      simp [List.getD_eq_getElem?_getD, h']
    rw [← e]
  | succ d ih =>
    intro k i s hi hk hs hj
    obtain ⟨k, rfl⟩ : ∃ m, k = m + 1 := ⟨k - 1, by omega⟩
    rw [hstep k i s (by omega) hs]
    refine ih k (i + 1) _ (by omega) (by omega) (by simpa using hs) fun j h => ?_
    rw [getD_set_self]
    by_cases e : i = j
    · subst e
      rw [if_pos ⟨rfl, by omega⟩]
    · rw [if_neg (fun h => e h.1)]
      exact hj j (by omega)
theorem held_loop (F : Nat → Nat → Option Int) (n : Nat)
    (hend : ∀ k, F (k + 1) n = some (1 + (n : Int)))
    (hstep : ∀ k i, i < n → F (k + 1) i = F k (i + 1)) :
    ∀ (d k i : Nat), i + d = n → d < k → F k i = some (1 + (n : Int)) := by
  intro d
  induction d with
  | zero =>
    intro k i hi hk
    obtain ⟨k, rfl⟩ : ∃ m, k = m + 1 := ⟨k - 1, by omega⟩
    obtain rfl : i = n := by omega
    exact hend k
  | succ d ih =>
    intro k i hi hk
    obtain ⟨k, rfl⟩ : ∃ m, k = m + 1 := ⟨k - 1, by omega⟩
    rw [hstep k i (by omega)]
    exact ih k (i + 1) (by omega) (by omega)
/-- A loop that counts up, told by its step. -/
def runL {σ ρ : Type} (step : Nat → σ → ρ ⊕ σ) (fin : σ → ρ) : Nat → Nat → σ → ρ
  | 0, _, s => fin s
  | d + 1, i, s => match step i s with
    | .inl r => r
    | .inr s' => runL step fin d (i + 1) s'
theorem loop_run {σ ρ : Type} (F : Nat → Nat → σ → Option ρ) (n : Nat) (step : Nat → σ → ρ ⊕ σ) (fin : σ → ρ) (Inv : Nat → σ → Prop)
    (hend : ∀ k s, Inv n s → F (k + 1) n s = some (fin s))
    (hstep : ∀ k i s, i < n → Inv i s → F (k + 1) i s = match step i s with
      | .inl r => some r
      | .inr s' => F k (i + 1) s')
    (hinv : ∀ i s s', i < n → Inv i s → step i s = .inr s' → Inv (i + 1) s') :
    ∀ (d k i : Nat) (s : σ), i + d = n → d < k → Inv i s → F k i s = some (runL step fin d i s) := by
  intro d
  induction d with
  | zero =>
    intro k i s hi hk hs
    obtain ⟨k, rfl⟩ : ∃ m, k = m + 1 := ⟨k - 1, by omega⟩
    obtain rfl : i = n := by omega
    exact hend k s hs
  | succ d ih =>
    intro k i s hi hk hs
    obtain ⟨k, rfl⟩ : ∃ m, k = m + 1 := ⟨k - 1, by omega⟩
    rw [hstep k i s (by omega) hs]
    unfold runL
    cases e : step i s with
    | inl r => rfl
    | inr s' => exact ih k (i + 1) s' (by omega) (by omega) (hinv i s s' (by omega) hs e)
theorem one_neg (n : Nat) : (1 + (n : Int) < 0) = False := by
  simp
  omega
theorem u8_bds {n : Int} (h : (Lit.int .u8 n).wf = true) : 0 ≤ n ∧ n ≤ 255 := by
  simp [Lit.wf, IntKind.min, IntKind.max, IntKind.signed, IntKind.bits] at h
  omega
theorem i64_bds {n : Int} (h : (Lit.int .i64 n).wf = true) : -9223372036854775808 ≤ n ∧ n ≤ 9223372036854775807 := by
  simp [Lit.wf, IntKind.min, IntKind.max, IntKind.signed, IntKind.bits] at h
  omega
theorem tmod_bd (a : Int) {b : Int} (hb : 0 < b) : -b < Int.tmod a b ∧ Int.tmod a b < b := by
  by_cases h : 0 ≤ a
  · rw [Int.tmod_eq_emod_of_nonneg h]
    have := Int.emod_nonneg a (show b ≠ 0 by omega)
    have := Int.emod_lt_of_pos a hb
    omega
  · have e : Int.tmod a b = -(Int.tmod (-a) b) := by rw [Int.neg_tmod]; omega
    rw [e, Int.tmod_eq_emod_of_nonneg (by omega)]
    have := Int.emod_nonneg (-a) (show b ≠ 0 by omega)
    have := Int.emod_lt_of_pos (-a) hb
    omega
theorem size_list (s : ByteArray) : s.data.toList.length = s.size := Array.length_toList
theorem bt_list (s : ByteArray) (i : Nat) (h : i < s.data.toList.length) : bt s (i : Int) = ((s.data.toList[i]).toNat : Int) := by
  have h' : ((i : Int)).toNat < s.size := by rw [size_list] at h; omega
  rw [← bt_at s i h']
  rfl
theorem wraps62 (n : Int) (h0 : 0 ≤ n) (h1 : n < 2 ^ 62) : IntKind.i64.wrap n = n := by
  rw [IntKind.wrap_i64]
  omega
theorem and127 (c : Int) (h0 : 0 ≤ c) (h1 : c < 2 ^ 62) : Go.bits .and .i64 c 127 = c % 128 := bits_mask .i64 62 (by decide) wraps62 7 (by decide) c h0 h1
theorem or_low (n s : Int) (j : Nat) (hj : j ≤ 62) (h0 : 0 ≤ n) (h1 : n < 2 ^ j) (hs0 : 0 ≤ s) (hs : s % 2 ^ j = 0) (hs1 : s < 2 ^ 62) : Go.bits .or .i64 n s = n + s := by
  have hn : n < 2 ^ 62 := Int.lt_of_lt_of_le h1 (by have h := Nat.pow_le_pow_right (show 0 < 2 by decide) hj; exact_mod_cast h)
  have e := bits_join .i64 62 (by decide) wraps62 j s n hs0 hs hs1 h0 h1 hn
  obtain ⟨a, rfl⟩ := Int.eq_ofNat_of_zero_le h0
  obtain ⟨b, rfl⟩ := Int.eq_ofNat_of_zero_le hs0
  have ha : a < 2 ^ 62 := by exact_mod_cast hn
  have hb : b < 2 ^ 62 := by exact_mod_cast hs1
  rw [(bits_nat .i64 62 (by decide) wraps62 a b ha hb).2]
  rw [(bits_nat .i64 62 (by decide) wraps62 b a hb ha).2] at e
  rw [Nat.or_comm, e]
  omega
/-- What a byte adds to a varint's number. -/
theorem comb_eq (n c : Int) (i : Nat) (hi : i < 6) (h0 : 0 ≤ n) (h1 : n < 2 ^ (7 * i)) (hc : 0 ≤ c ∧ c ≤ 255) :
    Go.bits .or .i64 n (shl .i64 (Go.bits .and .i64 c 127) (7 * (i : Int))) = n + c % 128 * 2 ^ (7 * i) := by
  rw [and127 c hc.1 (by omega)]
  have hm : 0 ≤ c % 128 ∧ c % 128 < 128 := ⟨by omega, by omega⟩
  generalize c % 128 = m at hm
  have e : shl .i64 m (7 * (i : Int)) = m * 2 ^ (7 * i) := by
    unfold shl
    have : min (7 * (i : Int)).toNat IntKind.i64.bits = 7 * i := by
      show min (7 * (i : Int)).toNat 64 = 7 * i
      omega
    rw [this]
    have hi' : i = 0 ∨ i = 1 ∨ i = 2 ∨ i = 3 ∨ i = 4 ∨ i = 5 := by omega
    rcases hi' with rfl | rfl | rfl | rfl | rfl | rfl <;> exact wraps62 _ (by simp; omega) (by simp; omega)
  rw [e]
  have hi' : i = 0 ∨ i = 1 ∨ i = 2 ∨ i = 3 ∨ i = 4 ∨ i = 5 := by omega
  refine or_low n _ (7 * i) (by omega) h0 h1 (by rcases hi' with rfl | rfl | rfl | rfl | rfl | rfl <;> simp <;> omega) (Int.mul_emod_left _ _) ?_
  rcases hi' with rfl | rfl | rfl | rfl | rfl | rfl <;> simp <;> omega
theorem and_mask (x : Int) (m : Nat) (hm : m < 2 ^ 31) : 0 ≤ Go.bits .and .i64 x m ∧ Go.bits .and .i64 x m ≤ m := by
  have h : (BitVec.ofInt 64 x &&& BitVec.ofInt 64 (m : Int)).toNat ≤ m := by
    rw [BitVec.toNat_and]
    refine Nat.le_trans Nat.and_le_right ?_
    rw [BitVec.ofInt_natCast, BitVec.toNat_ofNat]
    exact Nat.mod_le _ _
  have e : Go.bits .and .i64 x m = (((BitVec.ofInt 64 x &&& BitVec.ofInt 64 (m : Int)).toNat : Nat) : Int) := by
    simp only [Go.bits]
    show IntKind.i64.wrap (((BitVec.ofInt 64 x &&& BitVec.ofInt 64 (m : Int)).toNat : Nat) : Int) = _
    exact wraps62 _ (by omega) (by omega)
  rw [e]
  omega
def rdStep (l : List Int) (a : Int) (i : Nat) (n : Int) : (Int × Int × Bool) ⊕ Int :=
  if a + i ≥ l.length then .inl (0, 0, false)
  else if rd l (a + i) < 128 then
    if (0 < i ∧ rd l (a + i) = 0) ∨ Go.bits .or .i64 n (shl .i64 (Go.bits .and .i64 (rd l (a + i)) 127) (7 * i)) > 1000000000000 then .inl (0, 0, false)
    else .inl (Go.bits .or .i64 n (shl .i64 (Go.bits .and .i64 (rd l (a + i)) 127) (7 * i)), a + i + 1, true)
  else .inr (Go.bits .or .i64 n (shl .i64 (Go.bits .and .i64 (rd l (a + i)) 127) (7 * i)))
/-- What both ReadUvarint come to. -/
def readU (l : List Int) (a : Int) : Int × Int × Bool :=
  if 0 ≤ a ∧ a < l.length then runL (rdStep l a) (fun _ => (0, 0, false)) 6 0 0 else (0, 0, false)
theorem u8_bd {l : List Int} (h : ∀ x ∈ l, (Lit.int .u8 x).wf = true) (j : Int) : 0 ≤ rd l j ∧ rd l j ≤ 255 := by
  unfold rd
  rw [List.getD_eq_getElem?_getD]
  by_cases hj : j.toNat < l.length
  · rw [List.getElem?_eq_getElem hj]
    exact u8_bds (h _ (List.getElem_mem _))
  · rw [List.getElem?_eq_none (by omega)]
    exact ⟨Int.le_refl 0, by decide⟩
/-- The cursor: what it reads, where it stands. -/
theorem byte_ok (b : List Int) (hb : b.length ≤ 140737488351232) (i h : Int) (hi : 0 ≤ i) : ∃ v i' h', spec_l1Byte.f b i h = some (v, i', h') ∧ 0 ≤ v ∧ v ≤ 255 ∧ 0 ≤ i' := by
  unfold spec_l1Byte.f
  by_cases h1 : i < b.length
  · rw [if_pos h1, if_pos hi]
    refine ⟨_, _, _, rfl, (and_mask _ 255 (by decide)).1, (and_mask _ 255 (by decide)).2, ?_⟩
    unfold wrap64
    omega
  · rw [if_neg h1]
    exact ⟨_, _, _, rfl, (and_mask _ 255 (by decide)).1, (and_mask _ 255 (by decide)).2, hi⟩
theorem below_ok (b : List Int) (hb : b.length ≤ 140737488351232) (i h n : Int) (hi : 0 ≤ i) : ∃ v i' h', spec_l1Below.f b i h n = some (v, i', h') ∧ 0 ≤ v ∧ (0 < n → v < n) ∧ (n ≤ 0 → v = 0) ∧ 0 ≤ i' := by
  unfold spec_l1Below.f
  by_cases h1 : n ≤ 0
  · rw [if_pos h1]
    exact ⟨_, _, _, rfl, Int.le_refl _, fun h => by omega, fun _ => rfl, hi⟩
  · rw [if_neg h1]
    by_cases h2 : n ≤ 256
    · rw [if_pos h2]
      obtain ⟨v, i', h', e, v0, v1, i0⟩ := byte_ok b hb i h hi
      rw [e]
      simp only [Option.bind_some]
      rw [if_neg (by omega)]
      have t := tmod_bd v (b := n) (by omega)
      exact ⟨_, _, _, rfl, by rw [Int.tmod_eq_emod_of_nonneg v0]; exact Int.emod_nonneg _ (by omega), fun _ => t.2, fun h => by omega, i0⟩
    · rw [if_neg h2]
      obtain ⟨x, i1, h1', e1, x0, x1, j1⟩ := byte_ok b hb i h hi
      rw [e1]
      simp only [Option.bind_some]
      obtain ⟨y, i2, h2', e2, y0, y1, j2⟩ := byte_ok b hb i1 h1' j1
      rw [e2]
      simp only [Option.bind_some]
      obtain ⟨z, i3, h3', e3, z0, z1, j3⟩ := byte_ok b hb i2 h2' j2
      rw [e3]
      simp only [Option.bind_some]
      rw [if_neg (by omega)]
      have q : wrap64 (wrap64 (wrap64 (x * 65536) + wrap64 (y * 256)) + z) = x * 65536 + y * 256 + z := by
        have q1 : wrap64 (x * 65536) = x * 65536 := by unfold wrap64; omega
        have q2 : wrap64 (y * 256) = y * 256 := by unfold wrap64; omega
        rw [q1, q2]
        have q3 : wrap64 (x * 65536 + y * 256) = x * 65536 + y * 256 := by unfold wrap64; omega
        rw [q3]
        unfold wrap64
        omega
      rw [q]
      have t := tmod_bd (x * 65536 + y * 256 + z) (b := n) (by omega)
      exact ⟨_, _, _, rfl, by rw [Int.tmod_eq_emod_of_nonneg (by omega)]; exact Int.emod_nonneg _ (by omega), fun _ => t.2, fun h => by omega, j3⟩
theorem new_loop (b : List Int) (hb : b.length ≤ 140737488351232) : ∀ (d k : Nat) (i : Nat) (h : Int), (b.length - i : Nat) = d → i ≤ b.length → d < k → ∃ h', spec_l1New.l0 k b h (i : Int) = some (b, 0, h') := by
  intro d
  induction d with
  | zero =>
    intro k i h hd hi hk
    obtain ⟨k, rfl⟩ : ∃ m, k = m + 1 := ⟨k - 1, by omega⟩
    simp only [spec_l1New.l0]
    rw [if_neg (by omega)]
    exact ⟨_, rfl⟩
  | succ d ih =>
    intro k i h hd hi hk
    obtain ⟨k, rfl⟩ : ∃ m, k = m + 1 := ⟨k - 1, by omega⟩
    simp only [spec_l1New.l0]
    rw [if_pos (by omega)]
    by_cases h4 : (i : Int) < 4000
    · rw [if_pos h4, if_pos (by omega), wrap_nat (n := b.length) (by omega) hb]
      exact ih k (i + 1) _ (by omega) (by omega) (by omega)
    · rw [if_neg h4]
      exact ⟨_, rfl⟩
theorem new_ok (k : Nat) (b : List Int) (hb : b.length ≤ 140737488351232) (hk : b.length < k) : ∃ h, spec_l1New.f k b = some (b, 0, h) := by
  unfold spec_l1New.f
  exact new_loop b hb b.length k 0 _ (by omega) (by omega) hk
theorem int_ok (b : List Int) (hb : b.length ≤ 140737488351232) (i h : Int) (l : List Int) (hl : 0 < l.length) (hi : 0 ≤ i) : ∃ v i' h', spec_l1Int.f b i h l = some (v, i', h') ∧ v ∈ l ∧ 0 ≤ i' := by
  unfold spec_l1Int.f
  obtain ⟨v, i', h', e, v0, v1, _, i0⟩ := below_ok b hb i h (l.length : Int) hi
  rw [e]
  simp only [Option.bind_some]
  have := v1 (by omega)
  rw [if_pos v0, if_pos this]
  refine ⟨_, _, _, rfl, ?_, i0⟩
  unfold rd
  rw [List.getD_eq_getElem?_getD, List.getElem?_eq_getElem (by omega)]
  exact List.getElem_mem _
theorem num_ok (b : List Int) (hb : b.length ≤ 140737488351232) (i h : Int) (hi : 0 ≤ i) : ∃ v i' h', spec_l1Num.f b i h = some (v, i', h') ∧ (0 ≤ v ∧ v ≤ 1000000000000) ∧ 0 ≤ i' := by
  unfold spec_l1Num.f
  obtain ⟨c, i1, h1, e, c0, c1, _, j1⟩ := below_ok b hb i h 4 hi
  rw [e]
  simp only [Option.bind_some]
  by_cases e0 : c = 0
  · rw [if_pos e0]
    obtain ⟨x, i2, h2, e, x0, x1, _, j2⟩ := below_ok b hb i1 h1 2000 j1
    have := x1 (by decide)
    rw [e]
    exact ⟨_, _, _, rfl, ⟨x0, by show x ≤ _; omega⟩, j2⟩
  · rw [if_neg e0]
    by_cases e1 : c = 1
    · rw [if_pos e1]
      obtain ⟨x, i2, h2, e, m, j2⟩ := int_ok b hb i1 h1 [0, 1, 127, 128, 2147483646, 2147483647, 1000000000000] (by decide) j1
      rw [e]
      refine ⟨_, _, _, rfl, ?_, j2⟩
      simp at m
      show 0 ≤ x ∧ x ≤ _
      omega
    · rw [if_neg e1]
      by_cases e2 : c = 2
      · rw [if_pos e2]
        obtain ⟨x, i2, h2, e, x0, x1, _, j2⟩ := below_ok b hb i1 h1 1000000 j1
        have := x1 (by decide)
        rw [e]
        simp only [Option.bind_some]
        obtain ⟨y, i3, h3, e, y0, y1, _, j3⟩ := below_ok b hb i2 h2 1000000 j2
        have := y1 (by decide)
        rw [e]
        refine ⟨_, _, _, rfl, ?_, j3⟩
        have p : 0 ≤ x * y ∧ x * y ≤ 999999 * 999999 := ⟨Int.mul_nonneg x0 y0, Int.mul_le_mul (by omega) (by omega) y0 (by omega)⟩
        show 0 ≤ wrap64 (x * y) ∧ wrap64 (x * y) ≤ 1000000000000
        unfold wrap64
        omega
      · rw [if_neg e2]
        obtain ⟨x, i2, h2, e, x0, x1, _, j2⟩ := below_ok b hb i1 h1 20 j1
        have := x1 (by decide)
        rw [e]
        exact ⟨_, _, _, rfl, ⟨x0, by show x ≤ _; omega⟩, j2⟩
theorem once_ok (b : List Int) (hb : b.length ≤ 140737488351232) (i h n : Int) (hi : 0 ≤ i) : ∃ v i' h', spec_l1Once.f b i h n = some (v, i', h') ∧ 0 ≤ i' := by
  unfold spec_l1Once.f
  obtain ⟨v, i', h', e, _, _, _, i0⟩ := below_ok b hb i h n hi
  rw [e]
  exact ⟨_, _, _, rfl, i0⟩
theorem odd_ok (b : List Int) (hb : b.length ≤ 140737488351232) (i h : Int) (hi : 0 ≤ i) : ∃ v i' h', spec_l1Odd.f b i h = some (v, i', h') ∧ (-9223372036854775808 ≤ v ∧ v ≤ 9223372036854775807) ∧ 0 ≤ i' := by
  unfold spec_l1Odd.f
  obtain ⟨x, i2, h2, e, m, j2⟩ := int_ok b hb i h [(-1), 0, 1, 2, 255, 256, 65535, 2147483647, 2147483648, 4294967295, 4294967296, (-2147483648), 9223372036854775807, (-9223372036854775808)] (by decide) hi
  rw [e]
  refine ⟨_, _, _, rfl, ?_, j2⟩
  simp at m
  show -9223372036854775808 ≤ x ∧ x ≤ _
  omega
theorem raw_ok (b : List Int) (hb : b.length ≤ 140737488351232) (i h : Int) (hi : 0 ≤ i) : ∃ v i' h', spec_l1Raw.f b i h = some (v, i', h') ∧ (-9223372036854775808 ≤ v ∧ v ≤ 9223372036854775807) ∧ 0 ≤ i' := by
  unfold spec_l1Raw.f
  obtain ⟨c, i1, h1, e, j1⟩ := once_ok b hb i h 2 hi
  rw [e]
  simp only [Option.bind_some]
  by_cases e0 : c = true
  · rw [if_pos e0]
    obtain ⟨x, i2, h2, e, m, j2⟩ := odd_ok b hb i1 h1 j1
    rw [e]
    exact ⟨_, _, _, rfl, m, j2⟩
  · rw [if_neg e0]
    obtain ⟨x, i2, h2, e, m, j2⟩ := int_ok b hb i1 h1 [(-1), 1000000000000, 1000000000001] (by decide) j1
    rw [e]
    refine ⟨_, _, _, rfl, ?_, j2⟩
    simp at m
    show -9223372036854775808 ≤ x ∧ x ≤ _
    omega
theorem one_ok (b : List Int) (hb : b.length ≤ 140737488351232) (i h : Int) (hi : 0 ≤ i) : ∃ v i' h', spec_l1One.f b i h = some (v, i', h') ∧ (-9223372036854775808 ≤ v ∧ v ≤ 9223372036854775807) ∧ 0 ≤ i' := by
  unfold spec_l1One.f
  obtain ⟨c, i1, h1, e, j1⟩ := once_ok b hb i h 6 hi
  rw [e]
  simp only [Option.bind_some]
  by_cases e0 : c = true
  · rw [if_pos e0]
    obtain ⟨x, i2, h2, e, m, j2⟩ := raw_ok b hb i1 h1 j1
    rw [e]
    exact ⟨_, _, _, rfl, m, j2⟩
  · rw [if_neg e0]
    obtain ⟨x, i2, h2, e, m, j2⟩ := num_ok b hb i1 h1 j1
    rw [e]
    exact ⟨_, _, _, rfl, ⟨by show _ ≤ x; omega, by show x ≤ _; omega⟩, j2⟩
theorem str_ok (b : List Int) (hb : b.length ≤ 140737488351232) (i h : Int) (l : List ByteArray) (hl : 0 < l.length) (hi : 0 ≤ i) : ∃ v i' h', spec_l1Str.f b i h l = some (v, i', h') ∧ v ∈ l ∧ 0 ≤ i' := by
  unfold spec_l1Str.f
  obtain ⟨v, i', h', e, v0, v1, _, i0⟩ := below_ok b hb i h (l.length : Int) hi
  rw [e]
  simp only [Option.bind_some]
  have := v1 (by omega)
  rw [if_pos v0, if_pos this]
  refine ⟨_, _, _, rfl, ?_, i0⟩
  unfold rdOf
  rw [List.getD_eq_getElem?_getD, List.getElem?_eq_getElem (by omega)]
  exact List.getElem_mem _
theorem tm_pos (u : Nat) : Int.tmod (u : Int) 10 = ((u % 10 : Nat) : Int) ∧ Int.tdiv (u : Int) 10 = ((u / 10 : Nat) : Int) := by
  rw [Int.tmod_eq_emod_of_nonneg (by omega), Int.tdiv_eq_ediv_of_nonneg (by omega)]
  omega
theorem tm_neg (u : Nat) : Int.tmod (-(u : Int)) 10 = -((u % 10 : Nat) : Int) ∧ Int.tdiv (-(u : Int)) 10 = -((u / 10 : Nat) : Int) := by
  rw [Int.neg_tmod, Int.neg_tdiv, (tm_pos u).1, (tm_pos u).2]
  exact ⟨rfl, rfl⟩
theorem dig_app (c : Nat) (A : List UInt8) : strOfNums [((48 + c : Nat) : Int)] ++ (⟨A.toArray⟩ : ByteArray) = ⟨(UInt8.ofNat (48 + c) :: A).toArray⟩ := by
  apply ByteArray.ext
  apply Array.ext'
  unfold strOfNums
  simp only [List.map_cons, List.map_nil, Int.toNat_natCast, ByteArray.data_append, Array.toList_append]
  rfl
theorem w_small (z : Int) (h0 : -1000 ≤ z) (h1 : z ≤ 1000) : wrap64 z = z := by
  unfold wrap64
  omega
theorem e_pos (m : Nat) (h : m < 10) : (wrap64 (48 + (m : Int))) % 256 = ((48 + m : Nat) : Int) := by
  rw [w_small _ (by omega) (by omega)]
  omega
theorem e_neg (m : Nat) (h : m < 10) : (wrap64 (48 + (wrap64 (- -(m : Int))))) % 256 = ((48 + m : Nat) : Int) := by
  rw [Int.neg_neg, w_small (m : Int) (by omega) (by omega)]
  exact e_pos m h
theorem w_quot (q : Nat) (h : q ≤ 922337203685477580) : wrap64 (q : Int) = q ∧ wrap64 (-(q : Int)) = -(q : Int) := by
  unfold wrap64
  omega
def finF (x0 : Int) (L : List UInt8) : ByteArray := if x0 < 0 then ⟨(45 :: L).toArray⟩ else ⟨L.toArray⟩
theorem minus_app (A : List UInt8) : (⟨#[45]⟩ : ByteArray) ++ (⟨A.toArray⟩ : ByteArray) = ⟨(45 :: A).toArray⟩ := by
  apply ByteArray.ext
  apply Array.ext'
  simp [ByteArray.data_append]
theorem fmt_zero (k : Nat) (x0 : Int) (A : List UInt8) (hA : A.length ≤ 1000) (hk : 0 < k) : spec_FormatInt.l0 k x0 ⟨A.toArray⟩ 0 = some (finF x0 A) := by
  obtain ⟨k, rfl⟩ : ∃ m, k = m + 1 := ⟨k - 1, by omega⟩
  have hs : (⟨A.toArray⟩ : ByteArray).size = A.length := by simp [ByteArray.size]
  simp only [spec_FormatInt.l0]
  rw [if_pos trivial]
  unfold finF
  by_cases h : x0 < 0
  · rw [if_pos h, if_pos h, if_pos (by rw [hs]; omega), minus_app]
  · rw [if_neg h, if_neg h]
theorem fmt_l0 (x0 : Int) : ∀ (d k : Nat) (x : Int) (A : List UInt8), x ≠ 0 → x.natAbs < 10 ^ d → x.natAbs ≤ 9223372036854775808 → A.length + d ≤ 1000 → d < k → spec_FormatInt.l0 k x0 ⟨A.toArray⟩ x = some (finF x0 (Lib.decDigits x.natAbs ++ A)) := by
  intro d
  induction d with
  | zero =>
    intro k x A hx h1 _ _ _
    exfalso
    simp at h1
    omega
  | succ d ih =>
    intro k x A hx h1 h2 hA hk
    obtain ⟨k, rfl⟩ : ∃ m, k = m + 1 := ⟨k - 1, by omega⟩
    obtain ⟨u, hu⟩ : ∃ u, u = x.natAbs := ⟨_, rfl⟩
    have hs : (⟨A.toArray⟩ : ByteArray).size = A.length := by simp [ByteArray.size]
    have h1s : ∀ z : Int, (strOfNums [z]).size = 1 := fun z => rfl
    have hpow : u / 10 < 10 ^ d := by
      rw [← hu, Nat.pow_succ] at h1
      omega
    rw [← hu] at h2 ⊢
    -- the rest of the rounds, once the digit stands
    have rest : ∀ x' : Int, x'.natAbs = u / 10 → spec_FormatInt.l0 k x0 (strOfNums [((48 + u % 10 : Nat) : Int)] ++ (⟨A.toArray⟩ : ByteArray)) x' = some (finF x0 (Lib.decDigits u ++ A)) := by
      intro x' hx'
      rw [dig_app]
      by_cases hlt : u < 10
      · have e0 : x' = 0 := by omega
        subst e0
        rw [fmt_zero k x0 _ (by simp; omega) (by omega)]
        have e : Lib.decDigits u = [UInt8.ofNat (48 + u % 10)] := by
          rw [Lib.decDigits, dif_pos hlt, Nat.mod_eq_of_lt hlt]
        rw [e]
        rfl
      · have e : Lib.decDigits u = Lib.decDigits (u / 10) ++ [UInt8.ofNat (48 + u % 10)] := by
          rw [Lib.decDigits, dif_neg hlt]
        have := ih k x' (UInt8.ofNat (48 + u % 10) :: A) (by omega) (by rw [hx']; exact hpow) (by omega) (by simp; omega) (by omega)
        rw [this, hx', e]
        simp
    have hq : u / 10 ≤ 922337203685477580 := by omega
    have hm : u % 10 < 10 := Nat.mod_lt _ (by decide)
    have hsz : 1 + A.length ≤ 9223372036854775807 := by omega
    have hcase : x = (u : Int) ∨ x = -(u : Int) := by omega
    clear h1 h2 hA hk hpow ih
    simp only [spec_FormatInt.l0, Option.bind_some]
    rw [if_neg hx]
    rcases hcase with hc | hc
    · rw [hc, (tm_pos u).1, (tm_pos u).2, if_neg (Int.not_lt.2 (Int.natCast_nonneg _)), e_pos _ hm, h1s, hs, if_pos hsz, (w_quot _ hq).1]
      exact rest _ (Int.natAbs_natCast _)
    · rw [hc, (tm_neg u).1, (tm_neg u).2]
      have hab : (-((u / 10 : Nat) : Int)).natAbs = u / 10 := by rw [Int.natAbs_neg]; exact Int.natAbs_natCast _
      by_cases hz : u % 10 = 0
      · rw [hz]
        rw [if_neg (by decide), show wrap64 (48 + -((0 : Nat) : Int)) % 256 = ((48 + 0 : Nat) : Int) from by rw [w_small _ (by decide) (by decide)]; decide, h1s, hs, if_pos hsz, (w_quot _ hq).2]
        rw [hz] at rest
        exact rest _ hab
      · rw [if_pos (by omega), e_neg _ hm, h1s, hs, if_pos hsz, (w_quot _ hq).2]
        exact rest _ hab
theorem specFmt (k : Nat) (n : Int) (h0 : -9223372036854775808 ≤ n) (h1 : n ≤ 9223372036854775807) (hk : 30 < k) : spec_FormatInt.f k n = some ⟨(Lib.itoa n).toArray⟩ := by
  unfold spec_FormatInt.f
  by_cases h : n = 0
  · subst h
    rw [if_pos rfl]
    have e : Lib.itoa 0 = [48] := by
      unfold Lib.itoa
      rw [if_neg (by decide)]
      rw [Lib.decDigits, dif_pos (by decide)]
      rfl
    rw [e]
  · rw [if_neg h]
    have := fmt_l0 n 20 k n [] h (by omega) (by omega) (by decide) (by omega)
    have e0 : (⟨([] : List UInt8).toArray⟩ : ByteArray) = ⟨#[]⟩ := rfl
    rw [e0] at this
    rw [this, List.append_nil]
    unfold finF Lib.itoa
    by_cases hn : n < 0
    · rw [if_pos hn, if_pos hn]
    · rw [if_neg hn, if_neg hn]
      have : n.toNat = n.natAbs := by omega
      rw [this]
theorem implFmt (n : Int) (h0 : -9223372036854775808 ≤ n) (h1 : n ≤ 9223372036854775807) : impl_FormatInt.f n = some ⟨(Lib.itoa n).toArray⟩ := by
  unfold impl_FormatInt.f
  rw [if_pos ⟨h0, h1⟩]
def parEnd (s : ByteArray) (acc : Int) : Int × Bool := if acc > 1000000000000 then (0, false) else if (⟨(Lib.itoa acc).toArray⟩ : ByteArray).toList = s.toList then (acc, true) else (0, false)
def parV (s : ByteArray) : Nat → Int → Int → Int × Bool
  | 0, _, acc => parEnd s acc
  | d + 1, i, acc => if 48 ≤ bt s i ∧ bt s i ≤ 57 then parV s d (i + 1) (acc * 10 + (bt s i - 48)) else (0, false)
def parseV (s : ByteArray) : Int × Bool := if 1 ≤ s.size ∧ s.size ≤ 13 then parV s s.size 0 0 else (0, false)
theorem par_pow (i : Nat) (h : i ≤ 13) : ((10 ^ i : Nat) : Int) ≤ 10000000000000 := by
  have := Nat.pow_le_pow_right (by decide : 0 < 10) h
  have e : (10 : Nat) ^ 13 = 10000000000000 := by decide
  omega
theorem par_step (P acc b : Int) (hP : P ≤ 10000000000000) (h0 : 0 ≤ acc) (h1 : acc < P) (b0 : 48 ≤ b) (b1 : b ≤ 57) : wrap64 (wrap64 (10 * acc) + ((b - 48) % 256)) = acc * 10 + (b - 48) ∧ wrap64 (wrap64 (acc * 10) + ((b - 48) % 256)) = acc * 10 + (b - 48) := by
  have e1 : wrap64 (10 * acc) = acc * 10 := by unfold wrap64; omega
  have e2 : wrap64 (acc * 10) = acc * 10 := by unfold wrap64; omega
  have e3 : (b - 48) % 256 = b - 48 := by omega
  have e4 : wrap64 (acc * 10 + (b - 48)) = acc * 10 + (b - 48) := by unfold wrap64; omega
  rw [e1, e2, e3, e4]
  exact ⟨rfl, rfl⟩
theorem par_next (i : Nat) (acc b : Int) (h0 : 0 ≤ acc) (h1 : acc < ((10 ^ i : Nat) : Int)) (b0 : 48 ≤ b) (b1 : b ≤ 57) : 0 ≤ acc * 10 + (b - 48) ∧ acc * 10 + (b - 48) < ((10 ^ (i + 1) : Nat) : Int) := by
  rw [Nat.pow_succ]
  generalize 10 ^ i = P at *
  omega
theorem bt_wrap (s : ByteArray) (i : Int) (h0 : 0 ≤ i) (h : i < (s.size : Int)) : wrap64 (bt s i) = bt s i ∧ 0 ≤ bt s i ∧ bt s i ≤ 255 := by
  have h' : i.toNat < s.size := by omega
  have e := bt_at s i h'
  have hb := (s[i.toNat]'h').toNat_lt
  have hr : 0 ≤ bt s i ∧ bt s i ≤ 255 := by rw [← e]; omega
  refine ⟨?_, hr⟩
  obtain ⟨a, b⟩ := hr
  generalize bt s i = z at *
  unfold wrap64
  omega
theorem par_lt (i : Nat) (acc : Int) (h : i ≤ 13) (h1 : acc < ((10 ^ i : Nat) : Int)) : acc ≤ 9223372036854775807 := by
  have := par_pow i h
  omega
theorem implParse_l0 (s : ByteArray) (hs : s.size ≤ 13) : ∀ (d k i : Nat) (acc : Int), i + d = s.size → 0 ≤ acc → acc < ((10 ^ i : Nat) : Int) → d < k → impl_ParseInt.l0 k s acc (s.size : Int) (i : Int) = some (parV s d (i : Int) acc) := by
  intro d
  induction d with
  | zero =>
    intro k i acc hi h0 h1 hk
    have hb := par_lt i acc (by omega) h1
    obtain ⟨k, rfl⟩ : ∃ m, k = m + 1 := ⟨k - 1, by omega⟩
    simp only [impl_ParseInt.l0]
    rw [if_neg (by omega), implFmt acc (by omega) hb]
    simp only [Option.bind_some, parV, parEnd]
    by_cases h : acc > 1000000000000
    · rw [if_pos h, if_pos h]
    · rw [if_neg h, if_neg h]
      by_cases h2 : (⟨(Lib.itoa acc).toArray⟩ : ByteArray).toList = s.toList
      · rw [if_pos h2, if_pos h2]
      · rw [if_neg h2, if_neg h2]
  | succ d ih =>
    intro k i acc hi h0 h1 hk
    obtain ⟨k, rfl⟩ : ∃ m, k = m + 1 := ⟨k - 1, by omega⟩
    have hlt : i < s.size := by omega
    have hP := par_pow i (by omega)
    simp only [impl_ParseInt.l0]
    rw [if_pos (by omega), if_pos (by omega), if_pos (by omega), wrap_nat hlt (by omega)]
    simp only [parV]
    by_cases h : 48 ≤ bt s (i : Int) ∧ bt s (i : Int) ≤ 57
    · have hn := par_next i acc (bt s (i : Int)) h0 h1 h.1 h.2
      rw [if_neg (by omega), if_neg (by omega), if_pos h, (par_step _ acc _ hP h0 h1 h.1 h.2).2]
      exact ih k (i + 1) _ (by omega) hn.1 hn.2 (by omega)
    · rw [if_neg h]
      by_cases h2 : bt s (i : Int) < 48
      · rw [if_pos h2]
      · rw [if_neg h2, if_pos (by omega)]
theorem implParse (k : Nat) (s : ByteArray) (hk : 60 < k) : impl_ParseInt.f k s = some (parseV s) := by
  obtain ⟨k, rfl⟩ : ∃ m, k = m + 1 := ⟨k - 1, by omega⟩
  unfold impl_ParseInt.f parseV
  by_cases h0 : (s.size : Int) = 0
  · rw [if_pos h0, if_neg (by omega)]
    simp only [impl_ParseInt.j0, if_true]
  · rw [if_neg h0]
    by_cases h : s.size ≤ 13
    · rw [if_pos ⟨by omega, h⟩, decide_eq_false (by omega)]
      simp only [impl_ParseInt.j0, Bool.false_eq_true, if_false]
      exact implParse_l0 s h s.size k 0 0 (by omega) (by decide) (by decide) (by omega)
    · rw [if_neg (by omega), decide_eq_true (by omega)]
      simp only [impl_ParseInt.j0, if_true]
theorem parV_true (s : ByteArray) : ∀ (d : Nat) (i acc n : Int), 0 ≤ acc → parV s d i acc = (n, true) → (⟨(Lib.itoa n).toArray⟩ : ByteArray).toList = s.toList ∧ 0 ≤ n ∧ n ≤ 1000000000000 := by
  intro d
  induction d with
  | zero =>
    intro i acc n h0 h
    simp only [parV, parEnd] at h
    by_cases h1 : acc > 1000000000000
    · rw [if_pos h1] at h
      simp at h
    · rw [if_neg h1] at h
      by_cases h2 : (⟨(Lib.itoa acc).toArray⟩ : ByteArray).toList = s.toList
      · rw [if_pos h2] at h
        obtain rfl : acc = n := congrArg Prod.fst h
        exact ⟨h2, h0, by omega⟩
      · rw [if_neg h2] at h
        simp at h
  | succ d ih =>
    intro i acc n h0 h
    simp only [parV] at h
    by_cases h1 : 48 ≤ bt s i ∧ bt s i ≤ 57
    · rw [if_pos h1] at h
      exact ih (i + 1) _ n (by omega) h
    · rw [if_neg h1] at h
      simp at h
theorem parse_true (s : ByteArray) (n : Int) (h : parseV s = (n, true)) : (⟨(Lib.itoa n).toArray⟩ : ByteArray).toList = s.toList ∧ 0 ≤ n ∧ n ≤ 1000000000000 := by
  unfold parseV at h
  by_cases h1 : 1 ≤ s.size ∧ s.size ≤ 13
  · rw [if_pos h1] at h
    exact parV_true s _ _ _ n (by decide) h
  · rw [if_neg h1] at h
    simp at h
def valL (L : List UInt8) (acc : Int) : Int := L.foldl (fun a c => a * 10 + ((c.toNat : Int) - 48)) acc
theorem parV_fold (s : ByteArray) : ∀ (d i : Nat) (acc : Int), i + d = s.data.toList.length → (∀ c ∈ s.data.toList.drop i, 48 ≤ c.toNat ∧ c.toNat ≤ 57) → parV s d (i : Int) acc = parEnd s (valL (s.data.toList.drop i) acc) := by
  intro d
  induction d with
  | zero =>
    intro i acc hi _
    rw [List.drop_of_length_le (by omega)]
    rfl
  | succ d ih =>
    intro i acc hi hd
    have hlt : i < s.data.toList.length := by omega
    have e : s.data.toList.drop i = s.data.toList[i] :: s.data.toList.drop (i + 1) := List.drop_eq_getElem_cons hlt
    have hb := bt_list s i hlt
    have h1 := hd _ (by rw [e]; exact List.mem_cons_self)
    have IH := ih (i + 1) (acc * 10 + (bt s (i : Int) - 48)) (by omega) (fun c hc => hd c (by rw [e]; exact List.mem_cons_of_mem _ hc))
    have hcond : 48 ≤ bt s (i : Int) ∧ bt s (i : Int) ≤ 57 := by rw [hb]; omega
    have hstep : parV s (d + 1) (i : Int) acc = parV s d ((i + 1 : Nat) : Int) (acc * 10 + (bt s (i : Int) - 48)) := by
      simp only [parV]
      rw [if_pos hcond]
      rfl
    rw [hstep, IH, e, hb]
    rfl
theorem dec_digits : ∀ (u : Nat), ∀ c ∈ Lib.decDigits u, 48 ≤ c.toNat ∧ c.toNat ≤ 57 := by
  intro u
  induction u using Nat.strongRecOn with
  | _ u ih =>
    intro c hc
    rw [Lib.decDigits] at hc
    by_cases h : u < 10
    · rw [dif_pos h] at hc
      obtain rfl := List.mem_singleton.1 hc
      simp
      omega
    · rw [dif_neg h] at hc
      rcases List.mem_append.1 hc with hc | hc
      · exact ih (u / 10) (by omega) c hc
      · obtain rfl := List.mem_singleton.1 hc
        simp
        omega
theorem dec_val : ∀ (u : Nat), valL (Lib.decDigits u) 0 = (u : Int) := by
  intro u
  induction u using Nat.strongRecOn with
  | _ u ih =>
    rw [Lib.decDigits]
    by_cases h : u < 10
    · rw [dif_pos h]
      simp [valL]
      omega
    · rw [dif_neg h]
      have := ih (u / 10) (by omega)
      unfold valL at this ⊢
      rw [List.foldl_append, this]
      simp
      omega
theorem dec_len : ∀ (d u : Nat), u < 10 ^ (d + 1) → (Lib.decDigits u).length ≤ d + 1 := by
  intro d
  induction d with
  | zero =>
    intro u h
    rw [Lib.decDigits, dif_pos (by simpa using h)]
    simp
  | succ d ih =>
    intro u h
    rw [Lib.decDigits]
    by_cases h1 : u < 10
    · rw [dif_pos h1]
      simp
    · rw [dif_neg h1]
      have := ih (u / 10) (by rw [Nat.pow_succ] at h; omega)
      simp
      omega
theorem dec_pos (u : Nat) : 1 ≤ (Lib.decDigits u).length := by
  rw [Lib.decDigits]
  split <;> simp
theorem parse_itoa (m : Int) : parseV ⟨(Lib.itoa m).toArray⟩ = if 0 ≤ m ∧ m ≤ 1000000000000 then (m, true) else (0, false) := by
  obtain ⟨s, hs⟩ : ∃ s : ByteArray, s = ⟨(Lib.itoa m).toArray⟩ := ⟨_, rfl⟩
  have hl : s.data.toList = Lib.itoa m := by rw [hs]
  have hz : s.size = (Lib.itoa m).length := by rw [← hl]; exact (size_list s).symm
  rw [← hs]
  by_cases hneg : m < 0
  · rw [if_neg (by omega)]
    have e : Lib.itoa m = 45 :: Lib.decDigits m.natAbs := by
      unfold Lib.itoa
      rw [if_pos hneg]
    unfold parseV
    by_cases h : 1 ≤ s.size ∧ s.size ≤ 13
    · rw [if_pos h]
      obtain ⟨d, hd⟩ : ∃ d, s.size = d + 1 := ⟨s.size - 1, by omega⟩
      have hb := bt_list s 0 (by rw [size_list]; omega)
      have hb' : bt s 0 = 45 := by
        have : bt s ((0 : Nat) : Int) = 45 := by
          rw [hb]
          simp [hl, e]
        exact this
      rw [hd]
      simp only [parV]
      rw [hb', if_neg (by decide)]
    · rw [if_neg h]
  · have e : Lib.itoa m = Lib.decDigits m.toNat := by
      unfold Lib.itoa
      rw [if_neg hneg]
    have hval : ((m.toNat : Nat) : Int) = m := by omega
    have hend : s.size ≤ 13 → parseV s = parEnd s m := by
      intro h13
      have h1 := dec_pos m.toNat
      unfold parseV
      rw [if_pos ⟨by rw [hz, e]; exact h1, h13⟩]
      have := parV_fold s s.size 0 0 (by rw [size_list]; omega) (by rw [hl, e]; exact dec_digits _)
      rw [List.drop_zero, hl, e, dec_val, hval] at this
      exact this
    by_cases h : m ≤ 1000000000000
    · rw [if_pos ⟨by omega, h⟩]
      have hlen := dec_len 12 m.toNat (by simp; omega)
      rw [hend (by rw [hz, e]; exact hlen)]
      unfold parEnd
      rw [if_neg (by omega), if_pos (by rw [hs])]
    · rw [if_neg (by omega)]
      by_cases h13 : s.size ≤ 13
      · rw [hend h13]
        unfold parEnd
        rw [if_pos (by omega)]
      · unfold parseV
        rw [if_neg (by omega)]
theorem inr (a b c : Int) : impl_InRange.f a b c = some (decide (b ≤ a ∧ a ≤ c)) := by
  unfold impl_InRange.f
  by_cases h : b ≤ a <;> simp [h]
def ceilV (a b : Int) : Int := if (0 ≤ a ∧ a ≤ 1000000000000) ∧ (1 ≤ b ∧ b ≤ 1000000000000) then (a + b - 1) / b else 0
def modV (a b : Int) : Int := if 1 ≤ b ∧ b ≤ 1000000000000 then Int.tmod (Int.tmod a b + b) b else 0
theorem quo_bds (N b : Int) (h0 : 0 ≤ N) (hb : 1 ≤ b) : 0 ≤ N / b ∧ N / b ≤ N ∧ (N / b) * b ≤ N ∧ N - b < (N / b) * b := by
  have e := Int.mul_ediv_add_emod N b
  have m0 := Int.emod_nonneg N (show b ≠ 0 by omega)
  have m1 := Int.emod_lt_of_pos N (show 0 < b by omega)
  have q0 : 0 ≤ N / b := Int.ediv_nonneg h0 (by omega)
  have q1 : N / b ≤ N := Int.ediv_le_self _ h0
  rw [Int.mul_comm] at e
  generalize N / b * b = z at *
  omega
theorem ceil_ok (a b : Int) : impl_CeilDiv.f a b = some (ceilV a b) := by
  unfold impl_CeilDiv.f ceilV
  simp only [inr, Option.bind_some]
  by_cases h1 : 0 ≤ a ∧ a ≤ 1000000000000
  · by_cases h2 : 1 ≤ b ∧ b ≤ 1000000000000
    · have q := quo_bds (a + b - 1) b (by omega) h2.1
      have e1 : wrap64 (wrap64 (a + b) - 1) = a + b - 1 := by
        rw [show wrap64 (a + b) = a + b by unfold wrap64; omega]
        unfold wrap64; omega
      rw [decide_eq_true h1, decide_eq_true h2, if_pos rfl, if_pos rfl, if_neg (by omega), if_pos ⟨h1, h2⟩, e1, Int.tdiv_eq_ediv_of_nonneg (by omega)]
      have e2 : wrap64 ((a + b - 1) / b) = (a + b - 1) / b := by
        obtain ⟨a0, a1, _⟩ := q
        generalize (a + b - 1) / b = z at *
        unfold wrap64; omega
      rw [e2]
    · rw [decide_eq_true h1, decide_eq_false h2, if_pos rfl, if_neg (by decide), if_neg (fun h => h2 h.2)]
  · rw [decide_eq_false h1, if_neg (by decide), if_neg (fun h => h1 h.1)]
theorem mod_ok (a b : Int) (ha : -9223372036854775808 ≤ a ∧ a ≤ 9223372036854775807) : impl_Mod.f a b = some (modV a b) := by
  unfold impl_Mod.f modV
  simp only [inr, Option.bind_some]
  by_cases h2 : 1 ≤ b ∧ b ≤ 1000000000000
  · have := tmod_bd a (show 0 < b by omega)
    have e1 : wrap64 (Int.tmod a b + b) = Int.tmod a b + b := by unfold wrap64; omega
    rw [decide_eq_true h2, if_pos rfl, if_neg (by omega), if_pos h2, e1]
  · rw [decide_eq_false h2, if_neg (by decide), if_neg h2]
theorem mod_facts (a b : Int) (hb : 1 ≤ b ∧ b ≤ 1000000000000) : 0 ≤ modV a b ∧ modV a b < b ∧ Int.tmod (wrap64 (Int.tmod a b - modV a b)) b = 0 := by
  unfold modV
  rw [if_pos hb]
  have t := tmod_bd a (show 0 < b by omega)
  have hp : 0 ≤ Int.tmod a b + b := by omega
  rw [Int.tmod_eq_emod_of_nonneg hp]
  have m0 := Int.emod_nonneg (Int.tmod a b + b) (show b ≠ 0 by omega)
  have m1 := Int.emod_lt_of_pos (Int.tmod a b + b) (show 0 < b by omega)
  refine ⟨m0, m1, ?_⟩
  by_cases hn : Int.tmod a b < 0
  · rw [Int.emod_eq_of_lt hp (by omega)]
    rw [show Int.tmod a b - (Int.tmod a b + b) = -b by omega, show wrap64 (-b) = -b by unfold wrap64; omega, Int.neg_tmod, Int.tmod_self]
    rfl
  · rw [Int.add_emod_right, Int.emod_eq_of_lt (by omega) t.2, Int.sub_self]
    rw [show wrap64 0 = 0 by unfold wrap64; omega]
    exact Int.zero_tmod b
theorem drawParse_ok (k : Nat) (b : List Int) (hb : b.length ≤ 140737488351232) (hk : b.length + 100 < k) : ∃ s, spec_DrawParseInt.f k b = some s := by
  unfold spec_DrawParseInt.f
  obtain ⟨h0, e⟩ := new_ok k b hb (by omega)
  rw [e]
  simp only [Option.bind_some]
  obtain ⟨c, i1, h1, e, j1⟩ := once_ok b hb 0 h0 2 (by omega)
  rw [e]
  simp only [Option.bind_some]
  by_cases e0 : c = true
  · rw [if_pos e0]
    obtain ⟨v, i2, h2, e, _, j2⟩ := str_ok b hb i1 h1 [(⟨#[]⟩ : ByteArray), (⟨#[48]⟩ : ByteArray), (⟨#[48, 48]⟩ : ByteArray), (⟨#[45, 49]⟩ : ByteArray), (⟨#[48, 49]⟩ : ByteArray), (⟨#[55]⟩ : ByteArray), (⟨#[49, 48, 48, 48, 48, 48, 48, 48, 48, 48, 48, 48, 48]⟩ : ByteArray), (⟨#[49, 48, 48, 48, 48, 48, 48, 48, 48, 48, 48, 48, 49]⟩ : ByteArray), (⟨#[57, 57, 57, 57, 57, 57, 57, 57, 57, 57, 57, 57, 57, 57]⟩ : ByteArray), (⟨#[49, 120]⟩ : ByteArray), (⟨#[32, 49]⟩ : ByteArray)] (by decide) j1
    rw [e]
    exact ⟨_, rfl⟩
  · rw [if_neg e0]
    obtain ⟨n, i2, h2, e, hn, j2⟩ := num_ok b hb i1 h1 j1
    rw [e]
    simp only [Option.bind_some]
    rw [specFmt k n (by omega) (by omega) (by omega)]
    exact ⟨_, rfl⟩
theorem drawFmt_ok (k : Nat) (b : List Int) (hb : b.length ≤ 140737488351232) (hk : b.length + 100 < k) : ∃ n, spec_DrawFormatInt.f k b = some n ∧ (-9223372036854775808 ≤ n ∧ n ≤ 9223372036854775807) := by
  unfold spec_DrawFormatInt.f
  obtain ⟨h0, e⟩ := new_ok k b hb (by omega)
  rw [e]
  simp only [Option.bind_some]
  obtain ⟨n, i1, h1, e, hn, j1⟩ := one_ok b hb 0 h0 (by omega)
  rw [e]
  exact ⟨_, rfl, hn⟩
theorem drawCeil_ok (k : Nat) (b : List Int) (hb : b.length ≤ 140737488351232) (hk : b.length + 100 < k) : ∃ n m, spec_DrawCeilDiv.f k b = some (n, m) ∧ (-9223372036854775808 ≤ n ∧ n ≤ 9223372036854775807) ∧ (-9223372036854775808 ≤ m ∧ m ≤ 9223372036854775807) := by
  unfold spec_DrawCeilDiv.f
  obtain ⟨h0, e⟩ := new_ok k b hb (by omega)
  rw [e]
  simp only [Option.bind_some]
  obtain ⟨n, i1, h1, e, hn, j1⟩ := one_ok b hb 0 h0 (by omega)
  rw [e]
  simp only [Option.bind_some]
  obtain ⟨m, i2, h2, e, hm, j2⟩ := one_ok b hb i1 h1 j1
  rw [e]
  exact ⟨_, _, rfl, hn, hm⟩
theorem tail_ok (k : Nat) (a b : Int) : laws_FnIntegers.j0 (k + 1 + 1 + 1) a b (ceilV a b) (modV a b) false = some true := by
  obtain ⟨K, hK⟩ : ∃ K, K = k + 1 + 1 := ⟨_, rfl⟩
  rw [← hK]
  simp only [laws_FnIntegers.j0, Bool.false_eq_true, if_false]
  by_cases hb : 1 ≤ b ∧ b ≤ 1000000000000
  · rw [if_neg (by omega), decide_eq_false (by omega), hK]
    obtain ⟨m0, m1, m2⟩ := mod_facts a b hb
    obtain ⟨K1, hK1⟩ : ∃ K, K = k + 1 := ⟨_, rfl⟩
    rw [← hK1]
    simp only [laws_FnIntegers.j1, Bool.false_eq_true, if_false]
    rw [if_neg (by omega), if_neg (by omega), if_neg (by omega), m2, hK1]
    simp only [laws_FnIntegers.j2, bne_self_eq_false, Bool.false_eq_true, if_false]
    by_cases ha : a < 0
    · rw [if_pos ha]
      have e : ceilV a b = 0 := by
        unfold ceilV
        rw [if_neg (by omega)]
      rw [e]
      rfl
    · rw [if_neg ha]
      by_cases ha2 : a > 1000000000000
      · rw [if_pos ha2]
        have e : ceilV a b = 0 := by
          unfold ceilV
          rw [if_neg (by omega)]
        rw [e]
        rfl
      · rw [if_neg ha2]
        have e : ceilV a b = (a + b - 1) / b := by
          unfold ceilV
          rw [if_pos ⟨by omega, hb⟩]
        obtain ⟨_, _, q2, q3⟩ := quo_bds (a + b - 1) b (by omega) hb.1
        rw [← e] at q2 q3
        generalize ceilV a b * b = z at *
        have e1 : wrap64 z = z := by unfold wrap64; omega
        have e2 : wrap64 (z - a) = z - a := by unfold wrap64; omega
        rw [e1, e2, if_pos (by omega), decide_eq_true (by omega)]
  · have e1 : ceilV a b = 0 := by
      unfold ceilV
      rw [if_neg (fun h => hb h.2)]
    have e2 : modV a b = 0 := by
      unfold modV
      rw [if_neg hb]
    rw [e1, e2]
    have hj : laws_FnIntegers.j1 K a b 0 0 true = some true := by
      rw [hK]
      obtain ⟨K1, hK1⟩ : ∃ K, K = k + 1 := ⟨_, rfl⟩
      rw [← hK1]
      simp only [laws_FnIntegers.j1, if_true]
      rfl
    by_cases hb1 : b < 1
    · rw [if_pos hb1, hj]
    · rw [if_neg hb1, decide_eq_true (by omega), hj]
theorem FnIntegers : laws_FnIntegers.Pure := by
  intro l hm hl hw
  obtain ⟨K, hK⟩ : ∃ K, K = l.length + 200 := ⟨_, rfl⟩
  refine ⟨K + 1 + 1 + 1, ?_⟩
  unfold laws_FnIntegers.f laws_big.f
  simp only [Option.bind_some]
  by_cases hbig : (l.length : Int) > 1048576
  · rw [decide_eq_true hbig, if_pos rfl]
  rw [decide_eq_false hbig, if_neg (by decide)]
  obtain ⟨s, es⟩ := drawParse_ok (K + 1 + 1 + 1) l (by omega) (by omega)
  obtain ⟨m, em, hmb⟩ := drawFmt_ok (K + 1 + 1 + 1) l (by omega) (by omega)
  obtain ⟨a, b, eab, hab, _⟩ := drawCeil_ok (K + 1 + 1 + 1) l (by omega) (by omega)
  have ht := tail_ok K a b
  rw [es]
  simp only [Option.bind_some]
  rw [implParse (K + 1 + 1 + 1) s (by omega), em]
  simp only [Option.bind_some]
  rw [implFmt m hmb.1 hmb.2]
  simp only [Option.bind_some]
  rw [implParse (K + 1 + 1 + 1) _ (by omega), eab, parse_itoa]
  simp only [Option.bind_some]
  rw [ceil_ok, mod_ok a b hab]
  simp only [Option.bind_some]
  have hb1 : ∀ x : Bool, (x != x) = false := by decide
  have hi1 : ∀ x : Int, (x != x) = false := by simp
  -- the second half: what the parse of m's numeral answers
  have second : ∀ r : Option Bool, (if m ≥ 0 then
      (if ((if 0 ≤ m ∧ m ≤ 1000000000000 then (m, true) else ((0 : Int), false)).2 != (decide (m ≤ 1000000000000))) = true then r
        else (if (if 0 ≤ m ∧ m ≤ 1000000000000 then (m, true) else ((0 : Int), false)).2 = true then laws_FnIntegers.j0 (K + 1 + 1 + 1) a b (ceilV a b) (modV a b) ((if 0 ≤ m ∧ m ≤ 1000000000000 then (m, true) else ((0 : Int), false)).1 != m) else laws_FnIntegers.j0 (K + 1 + 1 + 1) a b (ceilV a b) (modV a b) false))
      else
      (if ((if 0 ≤ m ∧ m ≤ 1000000000000 then (m, true) else ((0 : Int), false)).2 != false) = true then r
        else (if (if 0 ≤ m ∧ m ≤ 1000000000000 then (m, true) else ((0 : Int), false)).2 = true then laws_FnIntegers.j0 (K + 1 + 1 + 1) a b (ceilV a b) (modV a b) ((if 0 ≤ m ∧ m ≤ 1000000000000 then (m, true) else ((0 : Int), false)).1 != m) else laws_FnIntegers.j0 (K + 1 + 1 + 1) a b (ceilV a b) (modV a b) false))) = some true := by
    intro r
    by_cases h1 : 0 ≤ m ∧ m ≤ 1000000000000
    · rw [if_pos h1, if_pos h1.1]
      simp only [h1.2, decide_true, hb1, Bool.false_eq_true, if_false, if_true, hi1]
      exact ht
    · rw [if_neg h1]
      by_cases h2 : m ≥ 0
      · rw [if_pos h2, decide_eq_false (by omega)]
        simp only [hb1, Bool.false_eq_true, if_false]
        exact ht
      · rw [if_neg h2]
        simp only [hb1, Bool.false_eq_true, if_false]
        exact ht
  obtain ⟨⟨n, ok⟩, hp⟩ : ∃ p, p = parseV s := ⟨_, rfl⟩
  rw [← hp]
  cases ok with
  | true =>
    obtain ⟨t1, t2, t3⟩ := parse_true s n hp.symm
    simp only [if_true]
    rw [implFmt n (by omega) (by omega)]
    simp only [Option.bind_some]
    rw [if_pos t1]
    exact second _
  | false =>
    simp only [Bool.false_eq_true, if_false]
    exact second _
end Go.Proofs.YtddkpgmomakkcaaDoor.Pure
