/- The law FnExactIsSymmetric answers true for every grid. No condition. -/
import Derived.Test.YtgnpindamkgggaaPFnExactIsSymmetricx3
namespace Go.Proofs.Ytgnpindamkgggaa.Pure
open Go.RowKit Go.Proofs.Ytgnpindamkgggaa.PFnExactIsSymmetric Go.Proofs.YtgnpindamkgggaaW.PrintWords Go.Proofs.YtgnpindamkgggaaW.PrintLast Go.Proofs.YtgnpindamkgggaaW.PrintMore
set_option linter.unusedVariables false
set_option linter.unusedSimpArgs false
theorem wrap_nat {m n : Nat} (h : m < n) (hn : n ≤ 140737488351232) : wrap64 ((m : Int) + 1) = ((m + 1 : Nat) : Int) := by
  unfold wrap64
  omega
theorem getD_set_self {α : Type} (l : List α) (i j : Nat) (v d : α) : (l.set i v).getD j d = if i = j ∧ i < l.length then v else l.getD j d := by
  simp only [List.getD_eq_getElem?_getD, List.getElem?_set]
  by_cases h : i = j
  · subst h
    by_cases h2 : i < l.length
    · simp [h2]
    · simp [h2]
  · simp [h]
theorem ext_getD {α : Type} (a b : List α) (d : α) (hl : a.length = b.length) (h : ∀ j, j < b.length → a.getD j d = b.getD j d) : a = b := by
  refine List.ext_getElem hl fun j h1 h2 => ?_
  have := h j h2
  simpa [List.getD_eq_getElem?_getD, List.getElem?_eq_getElem h1, List.getElem?_eq_getElem h2] using this
theorem copy_loop {α : Type} (F : Nat → Nat → List α → Option (List α)) (x0 : List α) (dv : α)
    (hend : ∀ k s, s.length = x0.length → F (k + 1) x0.length s = some s)
    (hstep : ∀ k i s, i < x0.length → s.length = x0.length → F (k + 1) i s = F k (i + 1) (s.set i (x0.getD i dv))) :
    ∀ (d k i : Nat) (s : List α), i + d = x0.length → d < k → s.length = x0.length → (∀ j, j < i → s.getD j dv = x0.getD j dv) → F k i s = some x0 := by
  intro d
  induction d with
  | zero =>
    intro k i s hi hk hs hj
    obtain ⟨k, rfl⟩ : ∃ m, k = m + 1 := ⟨k - 1, by omega⟩
    obtain rfl : i = x0.length := by omega
    rw [hend k s hs, ext_getD s x0 dv hs hj]
  | succ d ih =>
    intro k i s hi hk hs hj
    obtain ⟨k, rfl⟩ : ∃ m, k = m + 1 := ⟨k - 1, by omega⟩
    rw [hstep k i s (by omega) hs]
    refine ih k (i + 1) _ (by omega) (by omega) (by simpa using hs) fun j h => ?_
    rw [getD_set_self]
    by_cases e : i = j
    · subst e
      rw [if_pos ⟨rfl, by omega⟩]
    · rw [if_neg (fun h => e h.1)]
      exact hj j (by omega)
theorem eq_loop {α : Type} [DecidableEq α] (F : Nat → Nat → Option Bool) (x0 x1 : List α) (dv : α) (hl : x0.length = x1.length)
    (hend : ∀ k, F (k + 1) x0.length = some true)
    (hstep : ∀ k i, i < x0.length → F (k + 1) i = if x0.getD i dv = x1.getD i dv then F k (i + 1) else some false) :
    ∀ (d k i : Nat), i + d = x0.length → d < k → F k i = some (decide (x0.drop i = x1.drop i)) := by
  intro d
  induction d with
  | zero =>
    intro k i hi hk
    obtain ⟨k, rfl⟩ : ∃ m, k = m + 1 := ⟨k - 1, by omega⟩
    obtain rfl : i = x0.length := by omega
    rw [hend]
    simp [hl]
  | succ d ih =>
    intro k i hi hk
    obtain ⟨k, rfl⟩ : ∃ m, k = m + 1 := ⟨k - 1, by omega⟩
    have h0 : i < x0.length := by omega
    have h1 : i < x1.length := by omega
    rw [hstep k i h0, ih k (i + 1) (by omega) (by omega), List.drop_eq_getElem_cons h0, List.drop_eq_getElem_cons h1]
    simp only [List.getD_eq_getElem?_getD, List.getElem?_eq_getElem h0, List.getElem?_eq_getElem h1, Option.getD_some, List.cons.injEq]
    by_cases e : x0[i] = x1[i] <;> simp [e]
theorem mark_loop {α : Type} (F : Nat → Nat → List α → Option (Int × List α)) (n : Nat) (val : Nat → α)
    (hend : ∀ k s, s.length = n → F (k + 1) n s = some (1 + (n : Int), s))
    (hstep : ∀ k i s, i < n → s.length = n → F (k + 1) i s = F k (i + 1) (s.set i (val i))) (dv : α) :
    ∀ (d k i : Nat) (s : List α), i + d = n → d < k → s.length = n → (∀ j, j < i → s.getD j dv = val j) → F k i s = some (1 + (n : Int), (List.range n).map val) := by
  intro d
  induction d with
  | zero =>
    intro k i s hi hk hs hj
    obtain ⟨k, rfl⟩ : ∃ m, k = m + 1 := ⟨k - 1, by omega⟩
    obtain rfl : i = n := by omega
    rw [hend k s hs]
    have e : s = (List.range i).map val := ext_getD s _ dv (by simpa using hs) fun j h => by
      have h' : j < i := by simpa using h
      rw [hj j h']
      simp [List.getD_eq_getElem?_getD, h']
    rw [← e]
  | succ d ih =>
    intro k i s hi hk hs hj
    obtain ⟨k, rfl⟩ : ∃ m, k = m + 1 := ⟨k - 1, by omega⟩
    rw [hstep k i s (by omega) hs]
    refine ih k (i + 1) _ (by omega) (by omega) (by simpa using hs) fun j h => ?_
    rw [getD_set_self]
    by_cases e : i = j
    · subst e
      rw [if_pos ⟨rfl, by omega⟩]
    · rw [if_neg (fun h => e h.1)]
      exact hj j (by omega)
theorem held_loop (F : Nat → Nat → Option Int) (n : Nat)
    (hend : ∀ k, F (k + 1) n = some (1 + (n : Int)))
    (hstep : ∀ k i, i < n → F (k + 1) i = F k (i + 1)) :
    ∀ (d k i : Nat), i + d = n → d < k → F k i = some (1 + (n : Int)) := by
  intro d
  induction d with
  | zero =>
    intro k i hi hk
    obtain ⟨k, rfl⟩ : ∃ m, k = m + 1 := ⟨k - 1, by omega⟩
    obtain rfl : i = n := by omega
    exact hend k
  | succ d ih =>
    intro k i hi hk
    obtain ⟨k, rfl⟩ : ∃ m, k = m + 1 := ⟨k - 1, by omega⟩
    rw [hstep k i (by omega)]
    exact ih k (i + 1) (by omega) (by omega)
/-- A loop that counts up, told by its step. -/
def runL {σ ρ : Type} (step : Nat → σ → ρ ⊕ σ) (fin : σ → ρ) : Nat → Nat → σ → ρ
  | 0, _, s => fin s
  | d + 1, i, s => match step i s with
    | .inl r => r
    | .inr s' => runL step fin d (i + 1) s'
theorem loop_run {σ ρ : Type} (F : Nat → Nat → σ → Option ρ) (n : Nat) (step : Nat → σ → ρ ⊕ σ) (fin : σ → ρ) (Inv : Nat → σ → Prop)
    (hend : ∀ k s, Inv n s → F (k + 1) n s = some (fin s))
    (hstep : ∀ k i s, i < n → Inv i s → F (k + 1) i s = match step i s with
      | .inl r => some r
      | .inr s' => F k (i + 1) s')
    (hinv : ∀ i s s', i < n → Inv i s → step i s = .inr s' → Inv (i + 1) s') :
    ∀ (d k i : Nat) (s : σ), i + d = n → d < k → Inv i s → F k i s = some (runL step fin d i s) := by
  intro d
  induction d with
  | zero =>
    intro k i s hi hk hs
    obtain ⟨k, rfl⟩ : ∃ m, k = m + 1 := ⟨k - 1, by omega⟩
    obtain rfl : i = n := by omega
    exact hend k s hs
  | succ d ih =>
    intro k i s hi hk hs
    obtain ⟨k, rfl⟩ : ∃ m, k = m + 1 := ⟨k - 1, by omega⟩
    rw [hstep k i s (by omega) hs]
    unfold runL
    cases e : step i s with
    | inl r => rfl
    | inr s' => exact ih k (i + 1) s' (by omega) (by omega) (hinv i s s' (by omega) hs e)
theorem one_neg (n : Nat) : (1 + (n : Int) < 0) = False := by
  simp
  omega
theorem u8_bds {n : Int} (h : (Lit.int .u8 n).wf = true) : 0 ≤ n ∧ n ≤ 255 := by
  simp [Lit.wf, IntKind.min, IntKind.max, IntKind.signed, IntKind.bits] at h
  omega
theorem i64_bds {n : Int} (h : (Lit.int .i64 n).wf = true) : -9223372036854775808 ≤ n ∧ n ≤ 9223372036854775807 := by
  simp [Lit.wf, IntKind.min, IntKind.max, IntKind.signed, IntKind.bits] at h
  omega
theorem tmod_bd (a : Int) {b : Int} (hb : 0 < b) : -b < Int.tmod a b ∧ Int.tmod a b < b := by
  by_cases h : 0 ≤ a
  · rw [Int.tmod_eq_emod_of_nonneg h]
    have := Int.emod_nonneg a (show b ≠ 0 by omega)
    have := Int.emod_lt_of_pos a hb
    omega
  · have e : Int.tmod a b = -(Int.tmod (-a) b) := by rw [Int.neg_tmod]; omega
    rw [e, Int.tmod_eq_emod_of_nonneg (by omega)]
    have := Int.emod_nonneg (-a) (show b ≠ 0 by omega)
    have := Int.emod_lt_of_pos (-a) hb
    omega
def allF (f : Int → Bool) : Nat → Int → Bool
  | 0, _ => true
  | d + 1, i => f i && allF f d (i + 1)
theorem wrap_up {i n : Int} (h0 : 0 ≤ i) (h : i < n) (hn : n ≤ 140737488351232) : wrap64 (i + 1) = i + 1 := by
  unfold wrap64
  omega
def letB (c : Int) : Bool := decide (97 ≤ c ∧ c ≤ 122)
def isWordB (s : ByteArray) : Bool := decide (1 ≤ s.size ∧ s.size ≤ 8) && allF (fun i => letB (bt s i)) s.size 0
def grB (c : Int) : Bool := decide (c = 35) || decide (c = 46)
def isGridB (a b : Int) (s : ByteArray) : Bool := decide (2 ≤ a ∧ a ≤ 6) && decide (2 ≤ b ∧ b ≤ 6) && decide ((s.size : Int) = wrap64 (a * b)) && allF (fun i => grB (bt s i)) s.size 0
theorem sz_grid (a b : Int) (s : ByteArray) (ws : s.size ≤ maxLen) : laws_szGrid.f a b s 1048576 = some (if s.size ≤ 1048576 then 1048576 - (s.size : Int) else -1) := by
  unfold maxLen at ws
  unfold laws_szGrid.f
  have e : wrap64 (1048576 - (s.size : Int)) = 1048576 - s.size := by
    unfold wrap64
    omega
  rw [e]
  by_cases h : s.size ≤ 1048576
  · rw [if_neg (by omega), if_pos h]
  · rw [if_pos (by omega), if_neg h]
theorem l1in (a b c : Int) : spec_l1In.f a b c = some (decide (b ≤ a ∧ a ≤ c)) := by
  unfold spec_l1In.f
  by_cases h : b ≤ a <;> simp [h]
theorem specIsGrid_l0 (a b : Int) (s : ByteArray) (hn : (s.size : Int) ≤ 140737488351232) : ∀ (d k : Nat) (i : Int), 0 ≤ i → (s.size : Int) - i = d → d < k →
    spec_IsGrid.l0 k i a b s = some (allF (fun i => grB (bt s i)) d i) := by
  intro d
  induction d with
  | zero =>
    intro k i h0 hd hk
    obtain ⟨k, rfl⟩ : ∃ m, k = m + 1 := ⟨k - 1, by omega⟩
    simp only [spec_IsGrid.l0]
    rw [if_neg (by omega)]
    rfl
  | succ d ih =>
    intro k i h0 hd hk
    obtain ⟨k, rfl⟩ : ∃ m, k = m + 1 := ⟨k - 1, by omega⟩
    have hlt : i < (s.size : Int) := by omega
    simp only [spec_IsGrid.l0]
    rw [if_pos hlt, if_pos h0, wrap_up h0 hlt hn, ih k (i + 1) (by omega) (by omega) (by omega)]
    simp only [allF, grB]
    by_cases h1 : bt s i = 35
    · simp [h1]
    · by_cases h2 : bt s i = 46 <;> simp [h1, h2]
theorem specIsGrid (k : Nat) (a b : Int) (s : ByteArray) (hn : s.size ≤ 140737488351232) (hk : s.size + 2 < k) : spec_IsGrid.f k a b s = some (isGridB a b s) := by
  obtain ⟨k, rfl⟩ : ∃ m, k = m + 1 := ⟨k - 1, by omega⟩
  unfold spec_IsGrid.f isGridB
  rw [l1in]
  simp only [Option.bind_some, l1in, spec_IsGrid.j0]
  have e := specIsGrid_l0 a b s (by omega) s.size k 0 (by omega) (by omega) (by omega)
  by_cases h1 : 2 ≤ a ∧ a ≤ 6
  · by_cases h2 : 2 ≤ b ∧ b ≤ 6
    · by_cases h3 : (s.size : Int) = wrap64 (a * b)
      · have h4 : ((s.size : Int) != wrap64 (a * b)) = false := by simp [h3]
        simp only [h1, h2, h3, and_self, decide_true, if_true, Bool.true_and, bne_self_eq_false, Bool.false_eq_true, if_false]
        first
          | exact e
          | (rw [← h3]; exact e)
      · have h4 : ((s.size : Int) != wrap64 (a * b)) = true := by simp [h3]
        simp [h1, h2, h3]
    · simp [h1, h2]
  · simp [h1]
theorem inr (a b c : Int) : impl_InRange.f a b c = some (decide (b ≤ a ∧ a ≤ c)) := by
  unfold impl_InRange.f
  by_cases h : b ≤ a <;> simp [h]
theorem implIsGrid_l0 (a b : Int) (s : ByteArray) (hn : (s.size : Int) ≤ 140737488351232) : ∀ (d k : Nat) (i : Int), 0 ≤ i → (s.size : Int) - i = d → d < k →
    impl_IsGrid.l0 k (s.size : Int) i a b s = some (allF (fun i => grB (bt s i)) d i) := by
  intro d
  induction d with
  | zero =>
    intro k i h0 hd hk
    obtain ⟨k, rfl⟩ : ∃ m, k = m + 1 := ⟨k - 1, by omega⟩
    simp only [impl_IsGrid.l0]
    rw [if_neg (by omega)]
    rfl
  | succ d ih =>
    intro k i h0 hd hk
    obtain ⟨k, rfl⟩ : ∃ m, k = m + 1 := ⟨k - 1, by omega⟩
    have hlt : i < (s.size : Int) := by omega
    simp only [impl_IsGrid.l0]
    rw [if_pos hlt, if_pos h0, if_pos hlt, wrap_up h0 hlt hn, ih k (i + 1) (by omega) (by omega) (by omega)]
    simp only [allF, grB]
    by_cases h1 : bt s i = 35
    · simp [h1]
    · by_cases h2 : bt s i = 46 <;> simp [h1, h2]
theorem implIsGrid (k : Nat) (a b : Int) (s : ByteArray) (hn : s.size ≤ 140737488351232) (hk : s.size + 2 < k) : impl_IsGrid.f k a b s = some (isGridB a b s) := by
  obtain ⟨k, rfl⟩ : ∃ m, k = m + 1 := ⟨k - 1, by omega⟩
  unfold impl_IsGrid.f isGridB
  rw [inr]
  simp only [Option.bind_some, inr, impl_IsGrid.j0]
  have e := implIsGrid_l0 a b s (by omega) s.size k 0 (by omega) (by omega) (by omega)
  by_cases h1 : 2 ≤ a ∧ a ≤ 6
  · by_cases h2 : 2 ≤ b ∧ b ≤ 6
    · by_cases h3 : (s.size : Int) = wrap64 (a * b)
      · have h4 : ((s.size : Int) != wrap64 (a * b)) = false := by simp [h3]
        simp only [h1, h2, h3, and_self, decide_true, if_true, Bool.true_and, bne_self_eq_false, Bool.false_eq_true, if_false]
        first
          | exact e
          | (rw [← h3]; exact e)
      · have h4 : ((s.size : Int) != wrap64 (a * b)) = true := by simp [h3]
        simp [h1, h2, h3]
    · simp [h1, h2]
  · simp [h1]
def backAcc (s : ByteArray) (i : Nat) : ByteArray := ⟨(s.data.toList.take i).reverse.toArray⟩
theorem backAcc_step (s : ByteArray) (i : Nat) (h : i < s.size) : s.extract i (i + 1) ++ backAcc s i = backAcc s (i + 1) := by
  have hl : i < s.data.toList.length := by rw [Array.length_toList]; exact h
  apply ByteArray.ext
  apply Array.ext'
  simp only [backAcc, ByteArray.data_append, ByteArray.data_extract, Array.toList_append, Array.toList_extract, List.extract_eq_take_drop]
  rw [List.take_succ_eq_append_getElem hl, List.reverse_append, show i + 1 - i = 1 by omega, List.drop_eq_getElem_cons hl]
  rfl
theorem backAcc_size (s : ByteArray) (i : Nat) (h : i ≤ s.size) : (backAcc s i).size = i := by
  have : s.data.toList.length = s.size := Array.length_toList
  simp only [backAcc, ByteArray.size, List.size_toArray, List.length_reverse, List.length_take]
  omega
theorem specBack_l0 (s : ByteArray) (hn : s.size ≤ 100) : ∀ (d k i : Nat), i + d = s.size → d < k → spec_Backwards.l0 k s (backAcc s i) (i : Int) = some (backAcc s s.size) := by
  intro d
  induction d with
  | zero =>
    intro k i hi hk
    obtain ⟨k, rfl⟩ : ∃ m, k = m + 1 := ⟨k - 1, by omega⟩
    simp only [spec_Backwards.l0]
    rw [if_neg (by omega)]
    rw [show i = s.size by omega]
  | succ d ih =>
    intro k i hi hk
    obtain ⟨k, rfl⟩ : ∃ m, k = m + 1 := ⟨k - 1, by omega⟩
    have hw : wrap64 ((i : Int) + 1) = ((i + 1 : Nat) : Int) := by unfold wrap64; omega
    have hx : (((i + 1 : Nat) : Int)).toNat = i + 1 := by omega
    have hy : ((i : Int)).toNat = i := by omega
    simp only [spec_Backwards.l0, hw, hx, hy]
    rw [backAcc_step s i (by omega), if_pos (by omega), if_pos (by omega), if_pos (by omega), if_pos (by omega), if_pos (by omega), if_pos ?_]
    · exact ih k (i + 1) (by omega) (by omega)
    · have := backAcc_size s i (by omega)
      simp only [ByteArray.size_extract]
      omega
theorem specBack (k : Nat) (s : ByteArray) (hn : s.size ≤ 140737488351232) (hk : s.size + 1 < k) : spec_Backwards.f k s = some (if s.size ≤ 100 then backAcc s s.size else ⟨#[]⟩) := by
  unfold spec_Backwards.f
  by_cases h : s.size ≤ 100
  · rw [if_pos h]
    have := specBack_l0 s h s.size k 0 (by omega) (by omega)
    exact this
  · rw [if_neg h]
    obtain ⟨k, rfl⟩ : ∃ m, k = m + 1 := ⟨k - 1, by omega⟩
    simp only [spec_Backwards.l0]
    rw [if_pos (by omega), if_neg (by omega)]
theorem implBack (s : ByteArray) : impl_Backwards.f s = some (if s.size ≤ 100 then backAcc s s.size else ⟨#[]⟩) := by
  unfold impl_Backwards.f Go.Proofs.YtgnpindamkgggaaRev.backF
  congr 1
  by_cases h : s.size ≤ 100
  · rw [if_pos h, if_pos h]
    unfold backAcc strOfNums bytesOf
    congr 2
    rw [← List.map_reverse, List.map_map, List.take_of_length_le (by rw [Array.length_toList]; exact Nat.le_refl _)]
    conv => rhs; rw [← List.map_id s.data.toList.reverse]
    apply List.map_congr_left
    intro b _
    simp
  · rw [if_neg h, if_neg h]
theorem FnExactIsSymmetric (a b : Int) (s : ByteArray) (_wa : (Lit.int .i64 a).wf = true) (_wb : (Lit.int .i64 b).wf = true) (ws : s.size ≤ maxLen) : ∃ k, laws_FnExactIsSymmetric.f k a b s = some true := by
  refine ⟨s.size + 10, ?_⟩
  unfold laws_FnExactIsSymmetric.f laws_toGrid.f
  rw [sz_grid a b s ws]
  simp only [Option.bind_some]
  by_cases h : s.size ≤ 1048576
  · rw [if_pos h, if_neg (by omega)]
    have ws' : s.size ≤ 140737488351232 := by omega
    unfold spec_IsSymmetric.f impl_IsSymmetric.f spec_TurnGrid.f impl_TurnGrid.f
    rw [specIsGrid _ a b s ws' (by omega), implIsGrid _ a b s ws' (by omega), specBack _ s ws' (by omega), implBack]
    simp only [Option.bind_some]
    generalize (if s.size ≤ 100 then backAcc s s.size else ⟨#[]⟩) = g
    cases isGridB a b s
    · simp
    · have e : (g.toList == s.toList) = (s.toList == g.toList) := Bool.beq_comm
      simp only [if_true, Option.bind_some, beq_self_eq_true, Bool.true_and, e, bne_self_eq_false, Bool.false_eq_true, if_false]
  · rw [if_neg h, if_pos (by decide)]
end Go.Proofs.Ytgnpindamkgggaa.Pure
