/- The law FnExactDeriveFromString answers true for every integer and string. No condition. -/
import Derived.Test.YtgnpindamkgggaaPFnExactDeriveFromStringx1
namespace Go.Proofs.Ytgnpindamkgggaa.Pure
open Go.RowKit Go.Proofs.Ytgnpindamkgggaa.PFnExactDeriveFromString Go.Proofs.YtgnpindamkgggaaW.PrintWords Go.Proofs.YtgnpindamkgggaaW.PrintLast Go.Proofs.YtgnpindamkgggaaW.PrintMore
set_option linter.unusedVariables false
set_option linter.unusedSimpArgs false
theorem inr (a b c : Int) : impl_InRange.f a b c = some (decide (b ≤ a ∧ a ≤ c)) := by
  unfold impl_InRange.f
  by_cases h : b ≤ a <;> simp [h]
theorem l1in (a b c : Int) : spec_l1In.f a b c = some (decide (b ≤ a ∧ a ≤ c)) := by
  unfold spec_l1In.f
  by_cases h : b ≤ a <;> simp [h]
theorem wrap_nat {m n : Nat} (h : m < n) (hn : n ≤ 140737488351232) : wrap64 ((m : Int) + 1) = ((m + 1 : Nat) : Int) := by
  unfold wrap64
  omega
theorem getD_set_self {α : Type} (l : List α) (i j : Nat) (v d : α) : (l.set i v).getD j d = if i = j ∧ i < l.length then v else l.getD j d := by
  simp only [List.getD_eq_getElem?_getD, List.getElem?_set]
  by_cases h : i = j
  · subst h
    by_cases h2 : i < l.length
    · simp [h2]
    · simp [h2]
  · simp [h]
theorem ext_getD {α : Type} (a b : List α) (d : α) (hl : a.length = b.length) (h : ∀ j, j < b.length → a.getD j d = b.getD j d) : a = b := by
  refine List.ext_getElem hl fun j h1 h2 => ?_
  have := h j h2
  simpa [List.getD_eq_getElem?_getD, List.getElem?_eq_getElem h1, List.getElem?_eq_getElem h2] using this
theorem copy_loop {α : Type} (F : Nat → Nat → List α → Option (List α)) (x0 : List α) (dv : α)
    (hend : ∀ k s, s.length = x0.length → F (k + 1) x0.length s = some s)
    (hstep : ∀ k i s, i < x0.length → s.length = x0.length → F (k + 1) i s = F k (i + 1) (s.set i (x0.getD i dv))) :
    ∀ (d k i : Nat) (s : List α), i + d = x0.length → d < k → s.length = x0.length → (∀ j, j < i → s.getD j dv = x0.getD j dv) → F k i s = some x0 := by
  intro d
  induction d with
  | zero =>
    intro k i s hi hk hs hj
    obtain ⟨k, rfl⟩ : ∃ m, k = m + 1 := ⟨k - 1, by omega⟩
    obtain rfl : i = x0.length := by omega
    rw [hend k s hs, ext_getD s x0 dv hs hj]
  | succ d ih =>
    intro k i s hi hk hs hj
    obtain ⟨k, rfl⟩ : ∃ m, k = m + 1 := ⟨k - 1, by omega⟩
    rw [hstep k i s (by omega) hs]
    refine ih k (i + 1) _ (by omega) (by omega) (by simpa using hs) fun j h => ?_
    rw [getD_set_self]
    by_cases e : i = j
    · subst e
      rw [if_pos ⟨rfl, by omega⟩]
    · rw [if_neg (fun h => e h.1)]
      exact hj j (by omega)
theorem eq_loop {α : Type} [DecidableEq α] (F : Nat → Nat → Option Bool) (x0 x1 : List α) (dv : α) (hl : x0.length = x1.length)
    (hend : ∀ k, F (k + 1) x0.length = some true)
    (hstep : ∀ k i, i < x0.length → F (k + 1) i = if x0.getD i dv = x1.getD i dv then F k (i + 1) else some false) :
    ∀ (d k i : Nat), i + d = x0.length → d < k → F k i = some (decide (x0.drop i = x1.drop i)) := by
  intro d
  induction d with
  | zero =>
    intro k i hi hk
    obtain ⟨k, rfl⟩ : ∃ m, k = m + 1 := ⟨k - 1, by omega⟩
    obtain rfl : i = x0.length := by omega
    rw [hend]
    simp [hl]
  | succ d ih =>
    intro k i hi hk
    obtain ⟨k, rfl⟩ : ∃ m, k = m + 1 := ⟨k - 1, by omega⟩
    have h0 : i < x0.length := by omega
    have h1 : i < x1.length := by omega
    rw [hstep k i h0, ih k (i + 1) (by omega) (by omega), List.drop_eq_getElem_cons h0, List.drop_eq_getElem_cons h1]
    simp only [List.getD_eq_getElem?_getD, List.getElem?_eq_getElem h0, List.getElem?_eq_getElem h1, Option.getD_some, List.cons.injEq]
    by_cases e : x0[i] = x1[i] <;> simp [e]
theorem mark_loop {α : Type} (F : Nat → Nat → List α → Option (Int × List α)) (n : Nat) (val : Nat → α)
    (hend : ∀ k s, s.length = n → F (k + 1) n s = some (1 + (n : Int), s))
    (hstep : ∀ k i s, i < n → s.length = n → F (k + 1) i s = F k (i + 1) (s.set i (val i))) (dv : α) :
    ∀ (d k i : Nat) (s : List α), i + d = n → d < k → s.length = n → (∀ j, j < i → s.getD j dv = val j) → F k i s = some (1 + (n : Int), (List.range n).map val) := by
  intro d
  induction d with
  | zero =>
    intro k i s hi hk hs hj
    obtain ⟨k, rfl⟩ : ∃ m, k = m + 1 := ⟨k - 1, by omega⟩
    obtain rfl : i = n := by omega
    rw [hend k s hs]
    have e : s = (List.range i).map val := ext_getD s _ dv (by simpa using hs) fun j h => by
      have h' : j < i := by simpa using h
      rw [hj j h']
      simp [List.getD_eq_getElem?_getD, h']
    rw [← e]
  | succ d ih =>
    intro k i s hi hk hs hj
    obtain ⟨k, rfl⟩ : ∃ m, k = m + 1 := ⟨k - 1, by omega⟩
    rw [hstep k i s (by omega) hs]
    refine ih k (i + 1) _ (by omega) (by omega) (by simpa using hs) fun j h => ?_
    rw [getD_set_self]
    by_cases e : i = j
    · subst e
      rw [if_pos ⟨rfl, by omega⟩]
    · rw [if_neg (fun h => e h.1)]
      exact hj j (by omega)
theorem held_loop (F : Nat → Nat → Option Int) (n : Nat)
    (hend : ∀ k, F (k + 1) n = some (1 + (n : Int)))
    (hstep : ∀ k i, i < n → F (k + 1) i = F k (i + 1)) :
    ∀ (d k i : Nat), i + d = n → d < k → F k i = some (1 + (n : Int)) := by
  intro d
  induction d with
  | zero =>
    intro k i hi hk
    obtain ⟨k, rfl⟩ : ∃ m, k = m + 1 := ⟨k - 1, by omega⟩
    obtain rfl : i = n := by omega
    exact hend k
  | succ d ih =>
    intro k i hi hk
    obtain ⟨k, rfl⟩ : ∃ m, k = m + 1 := ⟨k - 1, by omega⟩
    rw [hstep k i (by omega)]
    exact ih k (i + 1) (by omega) (by omega)
/-- A loop that counts up, told by its step. -/
def runL {σ ρ : Type} (step : Nat → σ → ρ ⊕ σ) (fin : σ → ρ) : Nat → Nat → σ → ρ
  | 0, _, s => fin s
  | d + 1, i, s => match step i s with
    | .inl r => r
    | .inr s' => runL step fin d (i + 1) s'
theorem loop_run {σ ρ : Type} (F : Nat → Nat → σ → Option ρ) (n : Nat) (step : Nat → σ → ρ ⊕ σ) (fin : σ → ρ) (Inv : Nat → σ → Prop)
    (hend : ∀ k s, Inv n s → F (k + 1) n s = some (fin s))
    (hstep : ∀ k i s, i < n → Inv i s → F (k + 1) i s = match step i s with
      | .inl r => some r
      | .inr s' => F k (i + 1) s')
    (hinv : ∀ i s s', i < n → Inv i s → step i s = .inr s' → Inv (i + 1) s') :
    ∀ (d k i : Nat) (s : σ), i + d = n → d < k → Inv i s → F k i s = some (runL step fin d i s) := by
  intro d
  induction d with
  | zero =>
    intro k i s hi hk hs
    obtain ⟨k, rfl⟩ : ∃ m, k = m + 1 := ⟨k - 1, by omega⟩
    obtain rfl : i = n := by omega
    exact hend k s hs
  | succ d ih =>
    intro k i s hi hk hs
    obtain ⟨k, rfl⟩ : ∃ m, k = m + 1 := ⟨k - 1, by omega⟩
    rw [hstep k i s (by omega) hs]
    unfold runL
    cases e : step i s with
    | inl r => rfl
    | inr s' => exact ih k (i + 1) s' (by omega) (by omega) (hinv i s s' (by omega) hs e)
theorem one_neg (n : Nat) : (1 + (n : Int) < 0) = False := by
  simp
  omega
theorem u8_bds {n : Int} (h : (Lit.int .u8 n).wf = true) : 0 ≤ n ∧ n ≤ 255 := by
  simp [Lit.wf, IntKind.min, IntKind.max, IntKind.signed, IntKind.bits] at h
  omega
theorem i64_bds {n : Int} (h : (Lit.int .i64 n).wf = true) : -9223372036854775808 ≤ n ∧ n ≤ 9223372036854775807 := by
  simp [Lit.wf, IntKind.min, IntKind.max, IntKind.signed, IntKind.bits] at h
  omega
theorem tmod_bd (a : Int) {b : Int} (hb : 0 < b) : -b < Int.tmod a b ∧ Int.tmod a b < b := by
  by_cases h : 0 ≤ a
  · rw [Int.tmod_eq_emod_of_nonneg h]
    have := Int.emod_nonneg a (show b ≠ 0 by omega)
    have := Int.emod_lt_of_pos a hb
    omega
  · have e : Int.tmod a b = -(Int.tmod (-a) b) := by rw [Int.neg_tmod]; omega
    rw [e, Int.tmod_eq_emod_of_nonneg (by omega)]
    have := Int.emod_nonneg (-a) (show b ≠ 0 by omega)
    have := Int.emod_lt_of_pos (-a) hb
    omega
def rdStep (l : List Int) (a : Int) (i : Nat) (n : Int) : (Int × Int × Bool) ⊕ Int :=
  if a + i ≥ l.length then .inl (0, 0, false)
  else if rd l (a + i) < 128 then
    if (0 < i ∧ rd l (a + i) = 0) ∨ Go.bits .or .i64 n (shl .i64 (Go.bits .and .i64 (rd l (a + i)) 127) (7 * i)) > 1000000000000 then .inl (0, 0, false)
    else .inl (Go.bits .or .i64 n (shl .i64 (Go.bits .and .i64 (rd l (a + i)) 127) (7 * i)), a + i + 1, true)
  else .inr (Go.bits .or .i64 n (shl .i64 (Go.bits .and .i64 (rd l (a + i)) 127) (7 * i)))
/-- What both ReadUvarint come to. -/
def readU (l : List Int) (a : Int) : Int × Int × Bool :=
  if 0 ≤ a ∧ a < l.length then runL (rdStep l a) (fun _ => (0, 0, false)) 6 0 0 else (0, 0, false)
theorem u8_bd {l : List Int} (h : ∀ x ∈ l, (Lit.int .u8 x).wf = true) (j : Int) : 0 ≤ rd l j ∧ rd l j ≤ 255 := by
  unfold rd
  rw [List.getD_eq_getElem?_getD]
  by_cases hj : j.toNat < l.length
  · rw [List.getElem?_eq_getElem hj]
    exact u8_bds (h _ (List.getElem_mem _))
  · rw [List.getElem?_eq_none (by omega)]
    exact ⟨Int.le_refl 0, by decide⟩
theorem b2i_loop (F : Nat → Nat → List Int → Option (List Int)) (l : List Int)
    (hend : ∀ k s, F (k + 1) l.length s = some s)
    (hstep : ∀ k i s, i < l.length → s.length = i + 1 → F (k + 1) i s = F k (i + 1) (s ++ [rd l i])) :
    ∀ (d k i : Nat) (s : List Int), i + d = l.length → d < k → s = (l.length : Int) :: l.take i → F k i s = some ((l.length : Int) :: l) := by
  intro d
  induction d with
  | zero =>
    intro k i s hi hk hs
    obtain ⟨k, rfl⟩ : ∃ m, k = m + 1 := ⟨k - 1, by omega⟩
    obtain rfl : i = l.length := by omega
    rw [hend, hs, List.take_length]
  | succ d ih =>
    intro k i s hi hk hs
    obtain ⟨k, rfl⟩ : ∃ m, k = m + 1 := ⟨k - 1, by omega⟩
    rw [hstep k i s (by omega) (by rw [hs]; simp; omega)]
    refine ih k (i + 1) _ (by omega) (by omega) ?_
    rw [hs, List.take_succ_eq_append_getElem (by omega)]
    simp [rd, List.getD_eq_getElem?_getD, List.getElem?_eq_getElem (show i < l.length by omega)]
theorem specB2I (k : Nat) (l : List Int) (hl : l.length ≤ 1048576) (hw : ∀ x ∈ l, (Lit.int .u8 x).wf = true) (hk : l.length < k) : spec_BytesToInts.f k l = some ((l.length : Int) :: l) := by
  unfold spec_BytesToInts.f
  refine b2i_loop (fun k i s => spec_BytesToInts.l0 k l s (i : Int)) l (fun k s => ?_) (fun k i s hi hs => ?_) l.length k 0 _ (by omega) hk (by simp)
  · simp only [spec_BytesToInts.l0]
    rw [if_neg (by omega)]
  · simp only [spec_BytesToInts.l0]
    have b := u8_bd hw i
    rw [if_pos (by omega), if_pos (by omega), if_pos (by omega), wrap_nat hi (by omega), show wrap64 (rd l i) = rd l i by unfold wrap64; omega]
theorem implB2I (k : Nat) (l : List Int) (hl : l.length ≤ 1048576) (hw : ∀ x ∈ l, (Lit.int .u8 x).wf = true) (hk : l.length < k) : impl_BytesToInts.f k l = some ((l.length : Int) :: l) := by
  unfold impl_BytesToInts.f
  refine b2i_loop (fun k i s => impl_BytesToInts.l0 k s l (l.length : Int) (i : Int)) l (fun k s => ?_) (fun k i s hi hs => ?_) l.length k 0 _ (by omega) hk (by simp)
  · simp only [impl_BytesToInts.l0]
    rw [if_neg (by omega)]
  · simp only [impl_BytesToInts.l0]
    have b := u8_bd hw i
    rw [if_pos (by omega), if_pos (by omega), if_pos (by omega), if_pos (by omega), wrap_nat hi (by omega), show wrap64 (rd l i) = rd l i by unfold wrap64; omega]
def modM (v : Int) : Int := Int.tmod (wrap64 (Int.tmod v 2147483647 + 2147483647)) 2147483647
def hstep (l : List Int) (i : Nat) (h : Int) : Int ⊕ Int := .inr (Int.tmod (wrap64 (wrap64 (wrap64 (h * 1000003) + modM (rd l i)) + 13)) 2147483647)
/-- What both Hash come to. -/
def hashV (l : List Int) : Int := runL (hstep l) id l.length 0 11
theorem specMod_M (v : Int) : spec_Mod.f v 2147483647 = some (modM v) := by
  unfold spec_Mod.f
  rw [l1in]
  simp [modM]
theorem specHash (k : Nat) (l : List Int) (hl : l.length ≤ 1000000000000) (hk : l.length < k) : spec_Hash.f k l = some (hashV l) := by
  unfold spec_Hash.f hashV
  refine loop_run (fun k i s => spec_Hash.l0 k l s (i : Int)) l.length (hstep l) id (fun _ _ => True) (fun k s _ => ?_) (fun k i s hi _ => ?_) (fun _ _ _ _ _ _ => trivial) l.length k 0 11 (by omega) hk trivial
  · simp only [spec_Hash.l0]
    rw [if_neg (by omega)]
    rfl
  · simp only [spec_Hash.l0]
    rw [if_pos (by omega), if_pos (by omega), wrap_nat hi (by omega), specMod_M]
    rfl
theorem specKeyed (k : Nat) (a : Int) (l : List Int) (hl : l.length ≤ 500000000000) (hk : l.length + 2 < k) : spec_KeyedHash.f k a l = some (hashV ([a] ++ l ++ [a])) := by
  unfold spec_KeyedHash.f
  simp only [Option.bind_some]
  rw [if_pos (by simp; omega), if_pos (by simp; omega), specHash k _ (by simp; omega) (by simp; omega)]
  rfl
theorem implMod_M (v : Int) : impl_Mod.f v 2147483647 = some (modM v) := by
  unfold impl_Mod.f
  rw [inr]
  simp [modM]
theorem implHash (k : Nat) (l : List Int) (hl : l.length ≤ 1000000000000) (hk : l.length < k) : impl_Hash.f k l = some (hashV l) := by
  unfold impl_Hash.f hashV
  refine loop_run (fun k i s => impl_Hash.l0 k s l (l.length : Int) (i : Int)) l.length (hstep l) id (fun _ _ => True) (fun k s _ => ?_) (fun k i s hi _ => ?_) (fun _ _ _ _ _ _ => trivial) l.length k 0 11 (by omega) hk trivial
  · simp only [impl_Hash.l0]
    rw [if_neg (by omega)]
    rfl
  · simp only [impl_Hash.l0]
    rw [if_pos (by omega), if_pos (by omega), if_pos (by omega), wrap_nat hi (by omega), implMod_M]
    rfl
theorem implKeyed (k : Nat) (a : Int) (l : List Int) (hl : l.length ≤ 500000000000) (hk : l.length + 2 < k) : impl_KeyedHash.f k a l = some (hashV ([a] ++ l ++ [a])) := by
  unfold impl_KeyedHash.f
  simp only [Option.bind_some]
  rw [if_pos (by simp; omega), if_pos (by simp; omega), implHash k _ (by simp; omega) (by simp; omega)]
  rfl
def pad (a : Int) (i : Nat) : Int := hashV ([a] ++ [(i : Int)] ++ [a])
def encryptV (a : Int) (l : List Int) : List Int := (List.range l.length).map fun (i : Nat) => (rd l i + pad a i % 256) % 256
def decryptV (a : Int) (l : List Int) : List Int := (List.range l.length).map fun (i : Nat) => (rd l i - pad a i % 256) % 256
theorem hash_range (l : List Int) : ∀ (d i : Nat) (h : Int), 0 ≤ h → h < 2147483647 → 0 ≤ runL (hstep l) id d i h ∧ runL (hstep l) id d i h < 2147483647
  | 0, i, h, h0, h1 => ⟨h0, h1⟩
  | d + 1, i, h, h0, h1 => by
    unfold runL hstep
    have e0 : 0 ≤ modM (rd l i) ∧ modM (rd l i) < 2147483647 := by
      unfold modM
      have r1 := tmod_bd (rd l i) (b := 2147483647) (by omega)
      have r2 : wrap64 (Int.tmod (rd l i) 2147483647 + 2147483647) = Int.tmod (rd l i) 2147483647 + 2147483647 := by unfold wrap64; omega
      rw [r2, Int.tmod_eq_emod_of_nonneg (by omega)]
      omega
    have e1 : wrap64 (wrap64 (wrap64 (h * 1000003) + modM (rd l i)) + 13) = h * 1000003 + modM (rd l i) + 13 := by
      have : wrap64 (h * 1000003) = h * 1000003 := by unfold wrap64; omega
      rw [this]
      have : wrap64 (h * 1000003 + modM (rd l i)) = h * 1000003 + modM (rd l i) := by unfold wrap64; omega
      rw [this]
      unfold wrap64
      omega
    simp only [e1]
    refine hash_range l d (i + 1) _ ?_ ?_
    · rw [Int.tmod_eq_emod_of_nonneg (by omega)]
      omega
    · rw [Int.tmod_eq_emod_of_nonneg (by omega)]
      omega
theorem hashV_range (l : List Int) : 0 ≤ hashV l ∧ hashV l < 2147483647 := hash_range l l.length 0 11 (by omega) (by omega)
theorem pad_range (a : Int) (i : Nat) : 0 ≤ pad a i ∧ pad a i < 2147483647 := hashV_range _
theorem map_loop (F : Nat → Nat → List Int → Option (List Int)) (l : List Int) (v : Nat → Int)
    (hend : ∀ k s, s.length = l.length → F (k + 1) l.length s = some s)
    (hstep : ∀ k i s, 8 < k → i < l.length → s.length = l.length → s.getD i 0 = l.getD i 0 → F (k + 1) i s = F k (i + 1) (s.set i (v i))) :
    ∀ (d k i : Nat) (s : List Int), i + d = l.length → d + 10 < k → s.length = l.length → (∀ j, s.getD j 0 = if j < i then v j else l.getD j 0) → F k i s = some ((List.range l.length).map v) := by
  intro d
  induction d with
  | zero =>
    intro k i s hi hk hs hj
    obtain ⟨k, rfl⟩ : ∃ m, k = m + 1 := ⟨k - 1, by omega⟩
    obtain rfl : i = l.length := by omega
    rw [hend k s hs]
    congr 1
    refine ext_getD s _ 0 (by simpa using hs) fun j h => ?_
    have h' : j < l.length := by simpa using h
    rw [hj j, if_pos h']
    simp [List.getD_eq_getElem?_getD, h']
  | succ d ih =>
    intro k i s hi hk hs hj
    obtain ⟨k, rfl⟩ : ∃ m, k = m + 1 := ⟨k - 1, by omega⟩
    rw [hstep k i s (by omega) (by omega) hs (by rw [hj i, if_neg (by omega)])]
    refine ih k (i + 1) _ (by omega) (by omega) (by simpa using hs) fun j => ?_
    rw [getD_set_self, hj j]
    by_cases e : i = j
    · subst e
      rw [if_pos ⟨rfl, by omega⟩, if_pos (by omega)]
    · rw [if_neg (fun h => e h.1)]
      by_cases h : j < i
      · rw [if_pos h, if_pos (by omega)]
      · rw [if_neg h, if_neg (by omega)]
theorem build_loop (F : Nat → Nat → List Int → Option (List Int)) (n : Nat) (v : Nat → Int)
    (hend : ∀ k s, F (k + 1) n s = some s)
    (hstep : ∀ k i s, 8 < k → i < n → s.length = i → F (k + 1) i s = F k (i + 1) (s ++ [v i])) :
    ∀ (d k i : Nat) (s : List Int), i + d = n → d + 10 < k → s = (List.range i).map v → F k i s = some ((List.range n).map v) := by
  intro d
  induction d with
  | zero =>
    intro k i s hi hk hs
    obtain ⟨k, rfl⟩ : ∃ m, k = m + 1 := ⟨k - 1, by omega⟩
    obtain rfl : i = n := by omega
    rw [hend k s, hs]
  | succ d ih =>
    intro k i s hi hk hs
    obtain ⟨k, rfl⟩ : ∃ m, k = m + 1 := ⟨k - 1, by omega⟩
    rw [hstep k i s (by omega) (by omega) (by rw [hs]; simp)]
    refine ih k (i + 1) _ (by omega) (by omega) ?_
    rw [hs, List.range_succ, List.map_append]
    rfl
theorem bytesOf_wf (s : ByteArray) : ∀ x ∈ bytesOf s, (Lit.int .u8 x).wf = true := by
  intro x hx
  obtain ⟨b, _, rfl⟩ := List.mem_map.1 hx
  have := b.toNat_lt
  simp [Lit.wf, IntKind.min, IntKind.max, IntKind.signed, IntKind.bits]
  omega
theorem FnExactDeriveFromString : laws_FnExactDeriveFromString.Pure := by
  intro a s _ _
  refine ⟨s.size + 20, ?_⟩
  unfold laws_FnExactDeriveFromString.f
  by_cases h : (s.size : Int) > 1048576
  · rw [if_pos h]
  rw [if_neg h]
  unfold spec_DeriveFromString.f impl_DeriveFromString.f
  have hl := bytesOf_length s
  have w := bytesOf_wf s
  rw [if_pos (by omega), if_pos (by omega), specB2I _ (bytesOf s) (by omega) w (by omega), implB2I _ (bytesOf s) (by omega) w (by omega)]
  simp only [Option.bind_some]
  rw [specKeyed _ a _ (by simp; omega) (by simp; omega), implKeyed _ a _ (by simp; omega) (by simp; omega)]
  simp only [Option.bind_some]
  have r := hashV_range ([a] ++ ((bytesOf s).length : Int) :: bytesOf s ++ [a])
  generalize hashV ([a] ++ ((bytesOf s).length : Int) :: bytesOf s ++ [a]) = q at r
  unfold spec_Max.f
  by_cases e : q = 0
  · subst e
    simp
  · rw [if_neg e]
    by_cases g : q > 1
    · rw [if_pos g]
      simp
    · have e1 : q = 1 := by omega
      subst e1
      simp
end Go.Proofs.Ytgnpindamkgggaa.Pure
