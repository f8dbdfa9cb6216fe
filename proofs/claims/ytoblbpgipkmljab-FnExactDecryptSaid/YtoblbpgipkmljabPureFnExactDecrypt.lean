/- The law FnExactDecrypt answers true for every integer and byte slice. No condition. -/
import Derived.Test.YtoblbpgipkmljabPFnExactDecryptx3
namespace Go.Proofs.Ytoblbpgipkmljab.Pure
open Go.RowKit Go.Proofs.Ytoblbpgipkmljab.PFnExactDecrypt Go.Proofs.YtoblbpgipkmljabW.PrintWords Go.Proofs.YtoblbpgipkmljabW.PrintLast Go.Proofs.YtoblbpgipkmljabW.PrintMore
set_option linter.unusedVariables false
set_option linter.unusedSimpArgs false
theorem wrap_nat {m n : Nat} (h : m < n) (hn : n ≤ 140737488351232) : wrap64 ((m : Int) + 1) = ((m + 1 : Nat) : Int) := by
  unfold wrap64
  omega
theorem getD_set_self {α : Type} (l : List α) (i j : Nat) (v d : α) : (l.set i v).getD j d = if i = j ∧ i < l.length then v else l.getD j d := by
  simp only [List.getD_eq_getElem?_getD, List.getElem?_set]
  by_cases h : i = j
  · subst h
    by_cases h2 : i < l.length
    · simp [h2]
    · simp [h2]
  · simp [h]
theorem ext_getD {α : Type} (a b : List α) (d : α) (hl : a.length = b.length) (h : ∀ j, j < b.length → a.getD j d = b.getD j d) : a = b := by
  refine List.ext_getElem hl fun j h1 h2 => ?_
  have := h j h2
  simpa [List.getD_eq_getElem?_getD, List.getElem?_eq_getElem h1, List.getElem?_eq_getElem h2] using this
theorem copy_loop {α : Type} (F : Nat → Nat → List α → Option (List α)) (x0 : List α) (dv : α)
    (hend : ∀ k s, s.length = x0.length → F (k + 1) x0.length s = some s)
    (hstep : ∀ k i s, i < x0.length → s.length = x0.length → F (k + 1) i s = F k (i + 1) (s.set i (x0.getD i dv))) :
    ∀ (d k i : Nat) (s : List α), i + d = x0.length → d < k → s.length = x0.length → (∀ j, j < i → s.getD j dv = x0.getD j dv) → F k i s = some x0 := by
  intro d
  induction d with
  | zero =>
    intro k i s hi hk hs hj
    obtain ⟨k, rfl⟩ : ∃ m, k = m + 1 := ⟨k - 1, by omega⟩
    obtain rfl : i = x0.length := by omega
    rw [hend k s hs, ext_getD s x0 dv hs hj]
  | succ d ih =>
    intro k i s hi hk hs hj
    obtain ⟨k, rfl⟩ : ∃ m, k = m + 1 := ⟨k - 1, by omega⟩
    rw [hstep k i s (by omega) hs]
    refine ih k (i + 1) _ (by omega) (by omega) (by simpa using hs) fun j h => ?_
    rw [getD_set_self]
    by_cases e : i = j
    · subst e
      rw [if_pos ⟨rfl, by omega⟩]
    · rw [if_neg (fun h => e h.1)]
      exact hj j (by omega)
theorem eq_loop {α : Type} [DecidableEq α] (F : Nat → Nat → Option Bool) (x0 x1 : List α) (dv : α) (hl : x0.length = x1.length)
    (hend : ∀ k, F (k + 1) x0.length = some true)
    (hstep : ∀ k i, i < x0.length → F (k + 1) i = if x0.getD i dv = x1.getD i dv then F k (i + 1) else some false) :
    ∀ (d k i : Nat), i + d = x0.length → d < k → F k i = some (decide (x0.drop i = x1.drop i)) := by
  intro d
  induction d with
  | zero =>
    intro k i hi hk
    obtain ⟨k, rfl⟩ : ∃ m, k = m + 1 := ⟨k - 1, by omega⟩
    obtain rfl : i = x0.length := by omega
    rw [hend]
    simp [hl]
  | succ d ih =>
    intro k i hi hk
    obtain ⟨k, rfl⟩ : ∃ m, k = m + 1 := ⟨k - 1, by omega⟩
    have h0 : i < x0.length := by omega
    have h1 : i < x1.length := by omega
    rw [hstep k i h0, ih k (i + 1) (by omega) (by omega), List.drop_eq_getElem_cons h0, List.drop_eq_getElem_cons h1]
    simp only [List.getD_eq_getElem?_getD, List.getElem?_eq_getElem h0, List.getElem?_eq_getElem h1, Option.getD_some, List.cons.injEq]
    by_cases e : x0[i] = x1[i] <;> simp [e]
theorem mark_loop {α : Type} (F : Nat → Nat → List α → Option (Int × List α)) (n : Nat) (val : Nat → α)
    (hend : ∀ k s, s.length = n → F (k + 1) n s = some (1 + (n : Int), s))
    (hstep : ∀ k i s, i < n → s.length = n → F (k + 1) i s = F k (i + 1) (s.set i (val i))) (dv : α) :
    ∀ (d k i : Nat) (s : List α), i + d = n → d < k → s.length = n → (∀ j, j < i → s.getD j dv = val j) → F k i s = some (1 + (n : Int), (List.range n).map val) := by
  intro d
  induction d with
  | zero =>
    intro k i s hi hk hs hj
    obtain ⟨k, rfl⟩ : ∃ m, k = m + 1 := ⟨k - 1, by omega⟩
    obtain rfl : i = n := by omega
    rw [hend k s hs]
    have e : s = (List.range i).map val := ext_getD s _ dv (by simpa using hs) fun j h => by
      have h' : j < i := by simpa using h
      rw [hj j h']
      simp [List.getD_eq_getElem?_getD, h']
    rw [← e]
  | succ d ih =>
    intro k i s hi hk hs hj
    obtain ⟨k, rfl⟩ : ∃ m, k = m + 1 := ⟨k - 1, by omega⟩
    rw [hstep k i s (by omega) hs]
    refine ih k (i + 1) _ (by omega) (by omega) (by simpa using hs) fun j h => ?_
    rw [getD_set_self]
    by_cases e : i = j
    · subst e
      rw [if_pos ⟨rfl, by omega⟩]
    · rw [if_neg (fun h => e h.1)]
      exact hj j (by omega)
theorem held_loop (F : Nat → Nat → Option Int) (n : Nat)
    (hend : ∀ k, F (k + 1) n = some (1 + (n : Int)))
    (hstep : ∀ k i, i < n → F (k + 1) i = F k (i + 1)) :
    ∀ (d k i : Nat), i + d = n → d < k → F k i = some (1 + (n : Int)) := by
  intro d
  induction d with
  | zero =>
    intro k i hi hk
    obtain ⟨k, rfl⟩ : ∃ m, k = m + 1 := ⟨k - 1, by omega⟩
    obtain rfl : i = n := by omega
    exact hend k
  | succ d ih =>
    intro k i hi hk
    obtain ⟨k, rfl⟩ : ∃ m, k = m + 1 := ⟨k - 1, by omega⟩
    rw [hstep k i (by omega)]
    exact ih k (i + 1) (by omega) (by omega)
/-- A loop that counts up, told by its step. -/
def runL {σ ρ : Type} (step : Nat → σ → ρ ⊕ σ) (fin : σ → ρ) : Nat → Nat → σ → ρ
  | 0, _, s => fin s
  | d + 1, i, s => match step i s with
    | .inl r => r
    | .inr s' => runL step fin d (i + 1) s'
theorem loop_run {σ ρ : Type} (F : Nat → Nat → σ → Option ρ) (n : Nat) (step : Nat → σ → ρ ⊕ σ) (fin : σ → ρ) (Inv : Nat → σ → Prop)
    (hend : ∀ k s, Inv n s → F (k + 1) n s = some (fin s))
    (hstep : ∀ k i s, i < n → Inv i s → F (k + 1) i s = match step i s with
      | .inl r => some r
      | .inr s' => F k (i + 1) s')
    (hinv : ∀ i s s', i < n → Inv i s → step i s = .inr s' → Inv (i + 1) s') :
    ∀ (d k i : Nat) (s : σ), i + d = n → d < k → Inv i s → F k i s = some (runL step fin d i s) := by
  intro d
  induction d with
  | zero =>
    intro k i s hi hk hs
    obtain ⟨k, rfl⟩ : ∃ m, k = m + 1 := ⟨k - 1, by omega⟩
    obtain rfl : i = n := by omega
    exact hend k s hs
  | succ d ih =>
    intro k i s hi hk hs
    obtain ⟨k, rfl⟩ : ∃ m, k = m + 1 := ⟨k - 1, by omega⟩
    rw [hstep k i s (by omega) hs]
    unfold runL
    cases e : step i s with
    | inl r => rfl
    | inr s' => exact ih k (i + 1) s' (by omega) (by omega) (hinv i s s' (by omega) hs e)
theorem one_neg (n : Nat) : (1 + (n : Int) < 0) = False := by
  simp
  omega
theorem u8_bds {n : Int} (h : (Lit.int .u8 n).wf = true) : 0 ≤ n ∧ n ≤ 255 := by
  simp [Lit.wf, IntKind.min, IntKind.max, IntKind.signed, IntKind.bits] at h
  omega
theorem i64_bds {n : Int} (h : (Lit.int .i64 n).wf = true) : -9223372036854775808 ≤ n ∧ n ≤ 9223372036854775807 := by
  simp [Lit.wf, IntKind.min, IntKind.max, IntKind.signed, IntKind.bits] at h
  omega
theorem tmod_bd (a : Int) {b : Int} (hb : 0 < b) : -b < Int.tmod a b ∧ Int.tmod a b < b := by
  by_cases h : 0 ≤ a
  · rw [Int.tmod_eq_emod_of_nonneg h]
    have := Int.emod_nonneg a (show b ≠ 0 by omega)
    have := Int.emod_lt_of_pos a hb
    omega
  · have e : Int.tmod a b = -(Int.tmod (-a) b) := by rw [Int.neg_tmod]; omega
    rw [e, Int.tmod_eq_emod_of_nonneg (by omega)]
    have := Int.emod_nonneg (-a) (show b ≠ 0 by omega)
    have := Int.emod_lt_of_pos (-a) hb
    omega
theorem toByteS (k : Nat) (l : List Int) (hl : l.length ≤ 1000000000000) (hk : l.length < k) : laws_toByteS.f k l = some l := by
  unfold laws_toByteS.f
  rw [if_pos (by omega), if_pos (by omega)]
  refine copy_loop (fun k i s => laws_toByteS.l0 k l s (i : Int)) l 0 (fun k s hs => ?_) (fun k i s hi hs => ?_) l.length k 0 _ (by omega) hk (by simp) (fun j h => by omega)
  · simp only [laws_toByteS.l0]
    rw [if_neg (by omega)]
  · simp only [laws_toByteS.l0]
    rw [if_pos (by omega), if_pos (by omega), if_pos (by omega), wrap_nat hi (by omega)]
    simp [rd]
theorem eqByteS (k : Nat) (a b : List Int) (ha : a.length ≤ 1000000000000) (hk : a.length < k) : laws_eqByteS.f k a b = some (decide (a = b)) := by
  unfold laws_eqByteS.f
  by_cases hl : a.length = b.length
  · rw [if_pos (by omega)]
    have h := eq_loop (fun k i => laws_eqByteS.l0 k a b (i : Int)) a b 0 hl (fun k => ?_) (fun k i hi => ?_) a.length k 0 (by omega) hk
    · simpa using h
    · simp only [laws_eqByteS.l0]
      rw [if_neg (by omega)]
    · simp only [laws_eqByteS.l0]
      rw [if_pos (by omega), if_pos (by omega), if_pos (by omega), wrap_nat hi (by omega)]
      simp [rd]
  · rw [if_neg (by omega)]
    have : ¬ a = b := fun e => hl (by rw [e])
    simp [this]
theorem markByteS (k : Nat) (l : List Int) (hl : l.length ≤ 1000000000000) (hk : l.length < k) : laws_markByteS.f k l 1 = some (1 + (l.length : Int), (List.range l.length).map fun (j : Nat) => ((1+(j:Int))%256)) := by
  unfold laws_markByteS.f
  have h := mark_loop (fun k i s => laws_markByteS.l0 k s (1 + (i : Int)) (i : Int)) l.length (fun (j : Nat) => ((1+(j:Int))%256)) (fun k s hs => ?_) (fun k i s hi hs => ?_) 0 l.length k 0 l (by omega) hk rfl (fun j h => by omega)
  · simpa using h
  · simp only [laws_markByteS.l0]
    rw [if_neg (by omega)]
  · simp only [laws_markByteS.l0]
    rw [if_pos (by omega), if_pos (by omega), wrap_nat hi (by omega), show wrap64 (1 + (i : Int) + 1) = 1 + ((i + 1 : Nat) : Int) by unfold wrap64; omega]
    simp
theorem heldByteS (k n : Nat) (hl : n ≤ 1000000000000) (hk : n < k) : laws_heldByteS.f k ((List.range n).map fun (j : Nat) => ((1+(j:Int))%256)) 1 = some (1 + (n : Int)) := by
  unfold laws_heldByteS.f
  have h := held_loop (fun k i => laws_heldByteS.l0 k ((List.range n).map fun (j : Nat) => ((1+(j:Int))%256)) (1 + (i : Int)) (i : Int)) n (fun k => ?_) (fun k i hi => ?_) n k 0 (by omega) hk
  · simpa using h
  · simp only [laws_heldByteS.l0]
    rw [if_neg (by simp)]
  · simp only [laws_heldByteS.l0]
    rw [if_pos (by simp; omega), if_pos (by omega), wrap_nat hi (by omega), show wrap64 (1 + (i : Int) + 1) = 1 + ((i + 1 : Nat) : Int) by unfold wrap64; omega]
    rw [if_pos (by simp [rd, List.getD_eq_getElem?_getD, hi])]
theorem inr (a b c : Int) : impl_InRange.f a b c = some (decide (b ≤ a ∧ a ≤ c)) := by
  unfold impl_InRange.f
  by_cases h : b ≤ a <;> simp [h]
theorem l1in (a b c : Int) : spec_l1In.f a b c = some (decide (b ≤ a ∧ a ≤ c)) := by
  unfold spec_l1In.f
  by_cases h : b ≤ a <;> simp [h]
def modM (v : Int) : Int := Int.tmod (wrap64 (Int.tmod v 2147483647 + 2147483647)) 2147483647
def hstep (l : List Int) (i : Nat) (h : Int) : Int ⊕ Int := .inr (Int.tmod (wrap64 (wrap64 (wrap64 (h * 1000003) + modM (rd l i)) + 13)) 2147483647)
/-- What both Hash come to. -/
def hashV (l : List Int) : Int := runL (hstep l) id l.length 0 11
theorem specMod_M (v : Int) : spec_Mod.f v 2147483647 = some (modM v) := by
  unfold spec_Mod.f
  rw [l1in]
  simp [modM]
theorem specHash (k : Nat) (l : List Int) (hl : l.length ≤ 1000000000000) (hk : l.length < k) : spec_Hash.f k l = some (hashV l) := by
  unfold spec_Hash.f hashV
  refine loop_run (fun k i s => spec_Hash.l0 k l s (i : Int)) l.length (hstep l) id (fun _ _ => True) (fun k s _ => ?_) (fun k i s hi _ => ?_) (fun _ _ _ _ _ _ => trivial) l.length k 0 11 (by omega) hk trivial
  · simp only [spec_Hash.l0]
    rw [if_neg (by omega)]
    rfl
  · simp only [spec_Hash.l0]
    rw [if_pos (by omega), if_pos (by omega), wrap_nat hi (by omega), specMod_M]
    rfl
def rdStep (l : List Int) (a : Int) (i : Nat) (n : Int) : (Int × Int × Bool) ⊕ Int :=
  if a + i ≥ l.length then .inl (0, 0, false)
  else if rd l (a + i) < 128 then
    if (0 < i ∧ rd l (a + i) = 0) ∨ Go.bits .or .i64 n (shl .i64 (Go.bits .and .i64 (rd l (a + i)) 127) (7 * i)) > 1000000000000 then .inl (0, 0, false)
    else .inl (Go.bits .or .i64 n (shl .i64 (Go.bits .and .i64 (rd l (a + i)) 127) (7 * i)), a + i + 1, true)
  else .inr (Go.bits .or .i64 n (shl .i64 (Go.bits .and .i64 (rd l (a + i)) 127) (7 * i)))
/-- What both ReadUvarint come to. -/
def readU (l : List Int) (a : Int) : Int × Int × Bool :=
  if 0 ≤ a ∧ a < l.length then runL (rdStep l a) (fun _ => (0, 0, false)) 6 0 0 else (0, 0, false)
theorem u8_bd {l : List Int} (h : ∀ x ∈ l, (Lit.int .u8 x).wf = true) (j : Int) : 0 ≤ rd l j ∧ rd l j ≤ 255 := by
  unfold rd
  rw [List.getD_eq_getElem?_getD]
  by_cases hj : j.toNat < l.length
  · rw [List.getElem?_eq_getElem hj]
    exact u8_bds (h _ (List.getElem_mem _))
  · rw [List.getElem?_eq_none (by omega)]
    exact ⟨Int.le_refl 0, by decide⟩
def pad (a : Int) (i : Nat) : Int := hashV ([a] ++ [(i : Int)] ++ [a])
def encryptV (a : Int) (l : List Int) : List Int := (List.range l.length).map fun (i : Nat) => (rd l i + pad a i % 256) % 256
def decryptV (a : Int) (l : List Int) : List Int := (List.range l.length).map fun (i : Nat) => (rd l i - pad a i % 256) % 256
theorem hash_range (l : List Int) : ∀ (d i : Nat) (h : Int), 0 ≤ h → h < 2147483647 → 0 ≤ runL (hstep l) id d i h ∧ runL (hstep l) id d i h < 2147483647
  | 0, i, h, h0, h1 => ⟨h0, h1⟩
  | d + 1, i, h, h0, h1 => by
    unfold runL hstep
    have e0 : 0 ≤ modM (rd l i) ∧ modM (rd l i) < 2147483647 := by
      unfold modM
      have r1 := tmod_bd (rd l i) (b := 2147483647) (by omega)
      have r2 : wrap64 (Int.tmod (rd l i) 2147483647 + 2147483647) = Int.tmod (rd l i) 2147483647 + 2147483647 := by unfold wrap64; omega
      rw [r2, Int.tmod_eq_emod_of_nonneg (by omega)]
      omega
    have e1 : wrap64 (wrap64 (wrap64 (h * 1000003) + modM (rd l i)) + 13) = h * 1000003 + modM (rd l i) + 13 := by
      have : wrap64 (h * 1000003) = h * 1000003 := by unfold wrap64; omega
      rw [this]
      have : wrap64 (h * 1000003 + modM (rd l i)) = h * 1000003 + modM (rd l i) := by unfold wrap64; omega
      rw [this]
      unfold wrap64
      omega
    simp only [e1]
    refine hash_range l d (i + 1) _ ?_ ?_
    · rw [Int.tmod_eq_emod_of_nonneg (by omega)]
      omega
    · rw [Int.tmod_eq_emod_of_nonneg (by omega)]
      omega
theorem hashV_range (l : List Int) : 0 ≤ hashV l ∧ hashV l < 2147483647 := hash_range l l.length 0 11 (by omega) (by omega)
theorem pad_range (a : Int) (i : Nat) : 0 ≤ pad a i ∧ pad a i < 2147483647 := hashV_range _
theorem map_loop (F : Nat → Nat → List Int → Option (List Int)) (l : List Int) (v : Nat → Int)
    (hend : ∀ k s, s.length = l.length → F (k + 1) l.length s = some s)
    (hstep : ∀ k i s, 8 < k → i < l.length → s.length = l.length → s.getD i 0 = l.getD i 0 → F (k + 1) i s = F k (i + 1) (s.set i (v i))) :
    ∀ (d k i : Nat) (s : List Int), i + d = l.length → d + 10 < k → s.length = l.length → (∀ j, s.getD j 0 = if j < i then v j else l.getD j 0) → F k i s = some ((List.range l.length).map v) := by
  intro d
  induction d with
  | zero =>
    intro k i s hi hk hs hj
    obtain ⟨k, rfl⟩ : ∃ m, k = m + 1 := ⟨k - 1, by omega⟩
    obtain rfl : i = l.length := by omega
    rw [hend k s hs]
    congr 1
    refine ext_getD s _ 0 (by simpa using hs) fun j h => ?_
    have h' : j < l.length := by simpa using h
    rw [hj j, if_pos h']
    simp [List.getD_eq_getElem?_getD, h']
  | succ d ih =>
    intro k i s hi hk hs hj
    obtain ⟨k, rfl⟩ : ∃ m, k = m + 1 := ⟨k - 1, by omega⟩
    rw [hstep k i s (by omega) (by omega) hs (by rw [hj i, if_neg (by omega)])]
    refine ih k (i + 1) _ (by omega) (by omega) (by simpa using hs) fun j => ?_
    rw [getD_set_self, hj j]
    by_cases e : i = j
    · subst e
      rw [if_pos ⟨rfl, by omega⟩, if_pos (by omega)]
    · rw [if_neg (fun h => e h.1)]
      by_cases h : j < i
      · rw [if_pos h, if_pos (by omega)]
      · rw [if_neg h, if_neg (by omega)]
theorem build_loop (F : Nat → Nat → List Int → Option (List Int)) (n : Nat) (v : Nat → Int)
    (hend : ∀ k s, F (k + 1) n s = some s)
    (hstep : ∀ k i s, 8 < k → i < n → s.length = i → F (k + 1) i s = F k (i + 1) (s ++ [v i])) :
    ∀ (d k i : Nat) (s : List Int), i + d = n → d + 10 < k → s = (List.range i).map v → F k i s = some ((List.range n).map v) := by
  intro d
  induction d with
  | zero =>
    intro k i s hi hk hs
    obtain ⟨k, rfl⟩ : ∃ m, k = m + 1 := ⟨k - 1, by omega⟩
    obtain rfl : i = n := by omega
    rw [hend k s, hs]
  | succ d ih =>
    intro k i s hi hk hs
    obtain ⟨k, rfl⟩ : ∃ m, k = m + 1 := ⟨k - 1, by omega⟩
    rw [hstep k i s (by omega) (by omega) (by rw [hs]; simp)]
    refine ih k (i + 1) _ (by omega) (by omega) ?_
    rw [hs, List.range_succ, List.map_append]
    rfl
theorem specKeyed (k : Nat) (a : Int) (l : List Int) (hl : l.length ≤ 500000000000) (hk : l.length + 2 < k) : spec_KeyedHash.f k a l = some (hashV ([a] ++ l ++ [a])) := by
  unfold spec_KeyedHash.f
  simp only [Option.bind_some]
  rw [if_pos (by simp; omega), if_pos (by simp; omega), specHash k _ (by simp; omega) (by simp; omega)]
  rfl
theorem specDecrypt (k : Nat) (a : Int) (l : List Int) (hw : ∀ x ∈ l, (Lit.int .u8 x).wf = true) (hl : l.length ≤ 1000000000000) (hk : l.length + 10 < k) : spec_Decrypt.f k a l = some (decryptV a l) := by
  unfold spec_Decrypt.f decryptV
  refine build_loop (fun k i s => spec_Decrypt.l0 k a l s (i : Int)) l.length _ (fun k s => ?_) (fun k i s hk hi hs => ?_) l.length k 0 [] (by omega) (by omega) rfl
  · simp only [spec_Decrypt.l0]
    rw [if_neg (by omega)]
  · simp only [spec_Decrypt.l0]
    rw [if_pos (by omega), if_pos (by omega), specKeyed k a _ (by simp) (by simp; omega)]
    have p := pad_range a i
    have b := u8_bd hw i
    have e : hashV ([a] ++ [(i : Int)] ++ [a]) = pad a i := rfl
    have e2 : wrap64 (wrap64 (rd l i) - Int.tmod (pad a i) 256) = rd l i - pad a i % 256 := by
      rw [show wrap64 (rd l i) = rd l i by unfold wrap64; omega, Int.tmod_eq_emod_of_nonneg p.1]
      unfold wrap64
      omega
    have e3 : spec_Mod.f (rd l i - pad a i % 256) 256 = some ((rd l i - pad a i % 256) % 256) := by
      unfold spec_Mod.f
      rw [l1in]
      have t : Int.tmod (rd l i - pad a i % 256) 256 = rd l i - pad a i % 256 ∨ ∃ q, Int.tmod (rd l i - pad a i % 256) 256 = rd l i - pad a i % 256 - 256 * q := Or.inr ⟨Int.tdiv (rd l i - pad a i % 256) 256, by have := Int.mul_tdiv_add_tmod (rd l i - pad a i % 256) 256; omega⟩
      have t2 := tmod_bd (rd l i - pad a i % 256) (b := 256) (by omega)
      simp only [Option.bind_some]
      rw [if_pos (by decide), if_neg (by decide), show wrap64 (Int.tmod (rd l i - pad a i % 256) 256 + 256) = Int.tmod (rd l i - pad a i % 256) 256 + 256 by unfold wrap64; omega, Int.tmod_eq_emod_of_nonneg (by omega)]
      congr 1
      rcases t with t | ⟨q, t⟩
      · omega
      · omega
    simp only [Option.bind_some, e, e2, e3]
    rw [if_pos (by omega), wrap_nat hi (by omega), show (rd l i - pad a i % 256) % 256 % 256 = (rd l i - pad a i % 256) % 256 by omega]
theorem implMod_M (v : Int) : impl_Mod.f v 2147483647 = some (modM v) := by
  unfold impl_Mod.f
  rw [inr]
  simp [modM]
theorem implHash (k : Nat) (l : List Int) (hl : l.length ≤ 1000000000000) (hk : l.length < k) : impl_Hash.f k l = some (hashV l) := by
  unfold impl_Hash.f hashV
  refine loop_run (fun k i s => impl_Hash.l0 k s l (l.length : Int) (i : Int)) l.length (hstep l) id (fun _ _ => True) (fun k s _ => ?_) (fun k i s hi _ => ?_) (fun _ _ _ _ _ _ => trivial) l.length k 0 11 (by omega) hk trivial
  · simp only [impl_Hash.l0]
    rw [if_neg (by omega)]
    rfl
  · simp only [impl_Hash.l0]
    rw [if_pos (by omega), if_pos (by omega), if_pos (by omega), wrap_nat hi (by omega), implMod_M]
    rfl
theorem implKeyed (k : Nat) (a : Int) (l : List Int) (hl : l.length ≤ 500000000000) (hk : l.length + 2 < k) : impl_KeyedHash.f k a l = some (hashV ([a] ++ l ++ [a])) := by
  unfold impl_KeyedHash.f
  simp only [Option.bind_some]
  rw [if_pos (by simp; omega), if_pos (by simp; omega), implHash k _ (by simp; omega) (by simp; omega)]
  rfl
theorem cloneB (l : List Int) (hl : l.length ≤ 2000000000000) : slices_Clone_byte_byte.f l = some l := by
  unfold slices_Clone_byte_byte.f
  rw [if_pos (by omega)]
theorem implDecrypt (k : Nat) (a : Int) (l : List Int) (hw : ∀ x ∈ l, (Lit.int .u8 x).wf = true) (hl : l.length ≤ 1000000000000) (hk : l.length + 10 < k) : impl_Decrypt.f k a l = some (decryptV a l) := by
  unfold impl_Decrypt.f decryptV
  rw [cloneB l (by omega)]
  simp only [Option.bind_some]
  refine map_loop (fun k i s => impl_Decrypt.l0 k a s (l.length : Int) (i : Int)) l _ (fun k s hs => ?_) (fun k i s hk hi hs hg => ?_) l.length k 0 l (by omega) (by omega) rfl (fun j => by simp)
  · simp only [impl_Decrypt.l0]
    rw [if_neg (by omega)]
  · simp only [impl_Decrypt.l0]
    rw [if_pos (by omega), if_pos (by omega), if_pos (by omega), implKeyed k a _ (by simp) (by simp; omega)]
    simp only [Option.bind_some]
    rw [wrap_nat hi (by omega)]
    have e : rd s i = rd l i := by simpa [rd] using hg
    rw [e]
    rfl
theorem FnExactDecrypt : laws_FnExactDecrypt.Pure := by
  intro a l ha _ _ hw
  refine ⟨(l).length + (decryptV a l).length + 30, ?_⟩
  unfold laws_FnExactDecrypt.f
  by_cases hl : (l.length : Int) > 1048576
  · rw [if_pos hl]
  rw [if_neg hl]
  have K1 : (l).length + (decryptV a l).length + 15 < (l).length + (decryptV a l).length + 30 := by omega
  have K2 : (l).length + (decryptV a l).length + 15 < (l).length + (decryptV a l).length + 29 := by omega
  have hr : (decryptV a l).length ≤ l.length := by simp [decryptV]
  have T0 : ∀ k, (l).length + (decryptV a l).length + 15 < k → laws_toByteS.f k l = some l := fun k h => toByteS k l (by omega) (by omega)
  have E0 : ∀ k, (l).length + (decryptV a l).length + 15 < k → laws_eqByteS.f k l l = some (decide (l = l)) := fun k h => eqByteS k l l (by omega) (by omega)
  have M0 := fun k (h : (l).length + (decryptV a l).length + 15 < k) => markByteS k l (by omega) (by omega)
  have S : ∀ k, (l).length + (decryptV a l).length + 15 < k → spec_Decrypt.f k a l = some (decryptV a l) := fun k h => specDecrypt k a l hw (by omega) (by omega)
  have I : ∀ k, (l).length + (decryptV a l).length + 15 < k → impl_Decrypt.f k a l = some (decryptV a l) := fun k h => implDecrypt k a l hw (by omega) (by omega)
  generalize hg : (decryptV a l) = g at *
  have EG : ∀ k, (l).length + g.length + 15 < k → laws_eqByteS.f k g g = some (decide (g = g)) := fun k h => eqByteS k g g (by omega) (by omega)
  have MG := fun k (h : (l).length + g.length + 15 < k) => markByteS k g (by omega) (by omega)
  have HG := fun k (h : (l).length + g.length + 15 < k) => heldByteS k g.length (by omega) (by omega)
  clear hg
  simp only [T0 _ K1, E0 _ K1, M0 _ K1, S _ K1, I _ K1, EG _ K1, Option.bind_some, decide_true, if_true, one_neg, if_false, Bool.not_true, laws_FnExactDecrypt.j0, T0 _ K2, E0 _ K2, M0 _ K2, I _ K2, EG _ K2, MG _ K2, HG _ K2, Bool.false_eq_true]
end Go.Proofs.Ytoblbpgipkmljab.Pure
