/- The law FnExactIsRearranged answers true for every two strings. No condition. -/
import Derived.Test.YtgnpindamkgggaaPFnExactIsRearrangedx2
namespace Go.Proofs.Ytgnpindamkgggaa.Pure
open Go.RowKit Go.Proofs.Ytgnpindamkgggaa.PFnExactIsRearranged Go.Proofs.YtgnpindamkgggaaW.PrintWords Go.Proofs.YtgnpindamkgggaaW.PrintLast Go.Proofs.YtgnpindamkgggaaW.PrintMore
set_option linter.unusedVariables false
set_option linter.unusedSimpArgs false
theorem wrap_nat {m n : Nat} (h : m < n) (hn : n ≤ 140737488351232) : wrap64 ((m : Int) + 1) = ((m + 1 : Nat) : Int) := by
  unfold wrap64
  omega
theorem getD_set_self {α : Type} (l : List α) (i j : Nat) (v d : α) : (l.set i v).getD j d = if i = j ∧ i < l.length then v else l.getD j d := by
  simp only [List.getD_eq_getElem?_getD, List.getElem?_set]
  by_cases h : i = j
  · subst h
    by_cases h2 : i < l.length
    · simp [h2]
    · simp [h2]
  · simp [h]
theorem ext_getD {α : Type} (a b : List α) (d : α) (hl : a.length = b.length) (h : ∀ j, j < b.length → a.getD j d = b.getD j d) : a = b := by
  refine List.ext_getElem hl fun j h1 h2 => ?_
  have := h j h2
  simpa [List.getD_eq_getElem?_getD, List.getElem?_eq_getElem h1, List.getElem?_eq_getElem h2] using this
theorem copy_loop {α : Type} (F : Nat → Nat → List α → Option (List α)) (x0 : List α) (dv : α)
    (hend : ∀ k s, s.length = x0.length → F (k + 1) x0.length s = some s)
    (hstep : ∀ k i s, i < x0.length → s.length = x0.length → F (k + 1) i s = F k (i + 1) (s.set i (x0.getD i dv))) :
    ∀ (d k i : Nat) (s : List α), i + d = x0.length → d < k → s.length = x0.length → (∀ j, j < i → s.getD j dv = x0.getD j dv) → F k i s = some x0 := by
  intro d
  induction d with
  | zero =>
    intro k i s hi hk hs hj
    obtain ⟨k, rfl⟩ : ∃ m, k = m + 1 := ⟨k - 1, by omega⟩
    obtain rfl : i = x0.length := by omega
    rw [hend k s hs, ext_getD s x0 dv hs hj]
  | succ d ih =>
    intro k i s hi hk hs hj
    obtain ⟨k, rfl⟩ : ∃ m, k = m + 1 := ⟨k - 1, by omega⟩
    rw [hstep k i s (by omega) hs]
    refine ih k (i + 1) _ (by omega) (by omega) (by simpa using hs) fun j h => ?_
    rw [getD_set_self]
    by_cases e : i = j
    · subst e
      rw [if_pos ⟨rfl, by omega⟩]
    · rw [if_neg (fun h => e h.1)]
      exact hj j (by omega)
theorem eq_loop {α : Type} [DecidableEq α] (F : Nat → Nat → Option Bool) (x0 x1 : List α) (dv : α) (hl : x0.length = x1.length)
    (hend : ∀ k, F (k + 1) x0.length = some true)
    (hstep : ∀ k i, i < x0.length → F (k + 1) i = if x0.getD i dv = x1.getD i dv then F k (i + 1) else some false) :
    ∀ (d k i : Nat), i + d = x0.length → d < k → F k i = some (decide (x0.drop i = x1.drop i)) := by
  intro d
  induction d with
  | zero =>
    intro k i hi hk
    obtain ⟨k, rfl⟩ : ∃ m, k = m + 1 := ⟨k - 1, by omega⟩
    obtain rfl : i = x0.length := by omega
    rw [hend]
    simp [hl]
  | succ d ih =>
    intro k i hi hk
    obtain ⟨k, rfl⟩ : ∃ m, k = m + 1 := ⟨k - 1, by omega⟩
    have h0 : i < x0.length := by omega
    have h1 : i < x1.length := by omega
    rw [hstep k i h0, ih k (i + 1) (by omega) (by omega), List.drop_eq_getElem_cons h0, List.drop_eq_getElem_cons h1]
    simp only [List.getD_eq_getElem?_getD, List.getElem?_eq_getElem h0, List.getElem?_eq_getElem h1, Option.getD_some, List.cons.injEq]
    by_cases e : x0[i] = x1[i] <;> simp [e]
theorem mark_loop {α : Type} (F : Nat → Nat → List α → Option (Int × List α)) (n : Nat) (val : Nat → α)
    (hend : ∀ k s, s.length = n → F (k + 1) n s = some (1 + (n : Int), s))
    (hstep : ∀ k i s, i < n → s.length = n → F (k + 1) i s = F k (i + 1) (s.set i (val i))) (dv : α) :
    ∀ (d k i : Nat) (s : List α), i + d = n → d < k → s.length = n → (∀ j, j < i → s.getD j dv = val j) → F k i s = some (1 + (n : Int), (List.range n).map val) := by
  intro d
  induction d with
  | zero =>
    intro k i s hi hk hs hj
    obtain ⟨k, rfl⟩ : ∃ m, k = m + 1 := ⟨k - 1, by omega⟩
    obtain rfl : i = n := by omega
    rw [hend k s hs]
    have e : s = (List.range i).map val := ext_getD s _ dv (by simpa using hs) fun j h => by
      have h' : j < i := by simpa using h
      rw [hj j h']
      simp [List.getD_eq_getElem?_getD, h']
    rw [← e]
  | succ d ih =>
    intro k i s hi hk hs hj
    obtain ⟨k, rfl⟩ : ∃ m, k = m + 1 := ⟨k - 1, by omega⟩
    rw [hstep k i s (by omega) hs]
    refine ih k (i + 1) _ (by omega) (by omega) (by simpa using hs) fun j h => ?_
    rw [getD_set_self]
    by_cases e : i = j
    · subst e
      rw [if_pos ⟨rfl, by omega⟩]
    · rw [if_neg (fun h => e h.1)]
      exact hj j (by omega)
theorem held_loop (F : Nat → Nat → Option Int) (n : Nat)
    (hend : ∀ k, F (k + 1) n = some (1 + (n : Int)))
    (hstep : ∀ k i, i < n → F (k + 1) i = F k (i + 1)) :
    ∀ (d k i : Nat), i + d = n → d < k → F k i = some (1 + (n : Int)) := by
  intro d
  induction d with
  | zero =>
    intro k i hi hk
    obtain ⟨k, rfl⟩ : ∃ m, k = m + 1 := ⟨k - 1, by omega⟩
    obtain rfl : i = n := by omega
    exact hend k
  | succ d ih =>
    intro k i hi hk
    obtain ⟨k, rfl⟩ : ∃ m, k = m + 1 := ⟨k - 1, by omega⟩
    rw [hstep k i (by omega)]
    exact ih k (i + 1) (by omega) (by omega)
/-- A loop that counts up, told by its step. -/
def runL {σ ρ : Type} (step : Nat → σ → ρ ⊕ σ) (fin : σ → ρ) : Nat → Nat → σ → ρ
  | 0, _, s => fin s
  | d + 1, i, s => match step i s with
    | .inl r => r
    | .inr s' => runL step fin d (i + 1) s'
theorem loop_run {σ ρ : Type} (F : Nat → Nat → σ → Option ρ) (n : Nat) (step : Nat → σ → ρ ⊕ σ) (fin : σ → ρ) (Inv : Nat → σ → Prop)
    (hend : ∀ k s, Inv n s → F (k + 1) n s = some (fin s))
    (hstep : ∀ k i s, i < n → Inv i s → F (k + 1) i s = match step i s with
      | .inl r => some r
      | .inr s' => F k (i + 1) s')
    (hinv : ∀ i s s', i < n → Inv i s → step i s = .inr s' → Inv (i + 1) s') :
    ∀ (d k i : Nat) (s : σ), i + d = n → d < k → Inv i s → F k i s = some (runL step fin d i s) := by
  intro d
  induction d with
  | zero =>
    intro k i s hi hk hs
    obtain ⟨k, rfl⟩ : ∃ m, k = m + 1 := ⟨k - 1, by omega⟩
    obtain rfl : i = n := by omega
    exact hend k s hs
  | succ d ih =>
    intro k i s hi hk hs
    obtain ⟨k, rfl⟩ : ∃ m, k = m + 1 := ⟨k - 1, by omega⟩
    rw [hstep k i s (by omega) hs]
    unfold runL
    cases e : step i s with
    | inl r => rfl
    | inr s' => exact ih k (i + 1) s' (by omega) (by omega) (hinv i s s' (by omega) hs e)
theorem one_neg (n : Nat) : (1 + (n : Int) < 0) = False := by
  simp
  omega
theorem u8_bds {n : Int} (h : (Lit.int .u8 n).wf = true) : 0 ≤ n ∧ n ≤ 255 := by
  simp [Lit.wf, IntKind.min, IntKind.max, IntKind.signed, IntKind.bits] at h
  omega
theorem i64_bds {n : Int} (h : (Lit.int .i64 n).wf = true) : -9223372036854775808 ≤ n ∧ n ≤ 9223372036854775807 := by
  simp [Lit.wf, IntKind.min, IntKind.max, IntKind.signed, IntKind.bits] at h
  omega
theorem tmod_bd (a : Int) {b : Int} (hb : 0 < b) : -b < Int.tmod a b ∧ Int.tmod a b < b := by
  by_cases h : 0 ≤ a
  · rw [Int.tmod_eq_emod_of_nonneg h]
    have := Int.emod_nonneg a (show b ≠ 0 by omega)
    have := Int.emod_lt_of_pos a hb
    omega
  · have e : Int.tmod a b = -(Int.tmod (-a) b) := by rw [Int.neg_tmod]; omega
    rw [e, Int.tmod_eq_emod_of_nonneg (by omega)]
    have := Int.emod_nonneg (-a) (show b ≠ 0 by omega)
    have := Int.emod_lt_of_pos (-a) hb
    omega
theorem inr (a b c : Int) : impl_InRange.f a b c = some (decide (b ≤ a ∧ a ≤ c)) := by
  unfold impl_InRange.f
  by_cases h : b ≤ a <;> simp [h]
theorem l1in (a b c : Int) : spec_l1In.f a b c = some (decide (b ≤ a ∧ a ≤ c)) := by
  unfold spec_l1In.f
  by_cases h : b ≤ a <;> simp [h]
def allF (f : Int → Bool) : Nat → Int → Bool
  | 0, _ => true
  | d + 1, i => f i && allF f d (i + 1)
theorem wrap_up {i n : Int} (h0 : 0 ≤ i) (h : i < n) (hn : n ≤ 140737488351232) : wrap64 (i + 1) = i + 1 := by
  unfold wrap64
  omega
def letB (c : Int) : Bool := decide (97 ≤ c ∧ c ≤ 122)
def isWordB (s : ByteArray) : Bool := decide (1 ≤ s.size ∧ s.size ≤ 8) && allF (fun i => letB (bt s i)) s.size 0
theorem specIsWord_l0 (s : ByteArray) (hn : (s.size : Int) ≤ 140737488351232) : ∀ (d k : Nat) (i : Int), 0 ≤ i → (s.size : Int) - i = d → d < k →
    spec_IsWord.l0 k s i = some (allF (fun i => letB (bt s i)) d i) := by
  intro d
  induction d with
  | zero =>
    intro k i h0 hd hk
    obtain ⟨k, rfl⟩ : ∃ m, k = m + 1 := ⟨k - 1, by omega⟩
    simp only [spec_IsWord.l0]
    rw [if_neg (by omega)]
    rfl
  | succ d ih =>
    intro k i h0 hd hk
    obtain ⟨k, rfl⟩ : ∃ m, k = m + 1 := ⟨k - 1, by omega⟩
    have hlt : i < (s.size : Int) := by omega
    simp only [spec_IsWord.l0]
    rw [if_pos hlt, if_pos h0, wrap_up h0 hlt hn, ih k (i + 1) (by omega) (by omega) (by omega)]
    simp only [allF, letB]
    by_cases h1 : bt s i < 97
    · simp [h1, show ¬ 97 ≤ bt s i by omega]
    · by_cases h2 : bt s i > 122
      · simp [h1, h2, show ¬ bt s i ≤ 122 by omega]
      · simp [h1, h2, show 97 ≤ bt s i by omega, show bt s i ≤ 122 by omega]
theorem specIsWord_eq (s : ByteArray) (hn : s.size ≤ 140737488351232) (k : Nat) (hk : s.size < k) : spec_IsWord.f k s = some (isWordB s) := by
  unfold spec_IsWord.f isWordB
  rw [l1in, specIsWord_l0 s (by omega) s.size k 0 (by omega) (by omega) hk]
  simp only [Option.bind_some]
  by_cases h : 1 ≤ s.size ∧ s.size ≤ 8
  · rw [if_pos (by simp; omega)]
    simp [h]
  · rw [if_neg (by simp; omega)]
    simp [h]
theorem isLetter_eq (c : Int) : impl_isLetter.f c = some (letB c) := by
  unfold impl_isLetter.f letB
  by_cases h : c ≥ 97 <;> simp [h]
theorem implIsWord_l0 (s : ByteArray) (hn : (s.size : Int) ≤ 140737488351232) : ∀ (d k : Nat) (i : Int), 0 ≤ i → (s.size : Int) - i = d → d < k →
    impl_IsWord.l0 k s (s.size : Int) i = some (allF (fun i => letB (bt s i)) d i) := by
  intro d
  induction d with
  | zero =>
    intro k i h0 hd hk
    obtain ⟨k, rfl⟩ : ∃ m, k = m + 1 := ⟨k - 1, by omega⟩
    simp only [impl_IsWord.l0]
    rw [if_neg (by omega)]
    rfl
  | succ d ih =>
    intro k i h0 hd hk
    obtain ⟨k, rfl⟩ : ∃ m, k = m + 1 := ⟨k - 1, by omega⟩
    have hlt : i < (s.size : Int) := by omega
    simp only [impl_IsWord.l0]
    rw [if_pos hlt, if_pos h0, if_pos hlt, wrap_up h0 hlt hn, ih k (i + 1) (by omega) (by omega) (by omega), isLetter_eq]
    simp only [allF, Option.bind_some]
    cases letB (bt s i) <;> simp
theorem implIsWord_eq (s : ByteArray) (hn : s.size ≤ 140737488351232) (k : Nat) (hk : s.size < k) : impl_IsWord.f k s = some (isWordB s) := by
  unfold impl_IsWord.f isWordB
  rw [inr, implIsWord_l0 s (by omega) s.size k 0 (by omega) (by omega) hk]
  simp only [Option.bind_some]
  by_cases h : 1 ≤ s.size ∧ s.size ≤ 8
  · rw [if_pos (by simp; omega)]
    simp [h]
  · rw [if_neg (by simp; omega)]
    simp [h]
def eqc (c : Int) (b : UInt8) : Bool := decide ((b.toNat : Int) = c)
def buckets (L : List UInt8) : Int → Nat → List UInt8
  | _, 0 => []
  | c, d + 1 => L.filter (eqc c) ++ buckets L (c + 1) d
def sortV (s : ByteArray) : ByteArray := ⟨(buckets s.data.toList 97 26).toArray⟩
theorem size_list (s : ByteArray) : s.data.toList.length = s.size := Array.length_toList
theorem app_one (s : ByteArray) (A : List UInt8) (i : Nat) (h : i < s.data.toList.length) : (⟨A.toArray⟩ : ByteArray) ++ s.extract i (i + 1) = ⟨(A ++ [s.data.toList[i]]).toArray⟩ := by
  apply ByteArray.ext
  apply Array.ext'
  simp only [ByteArray.data_append, ByteArray.data_extract, Array.toList_append, Array.toList_extract, List.extract_eq_take_drop]
  rw [show i + 1 - i = 1 by omega, List.drop_eq_getElem_cons h]
  rfl
theorem bt_list (s : ByteArray) (i : Nat) (h : i < s.data.toList.length) : bt s (i : Int) = ((s.data.toList[i]).toNat : Int) := by
  have h' : ((i : Int)).toNat < s.size := by rw [size_list] at h; omega
  rw [← bt_at s i h']
  rfl
theorem specSort_l1 (s : ByteArray) (c : Int) (hn : s.size ≤ 1000) : ∀ (d k i : Nat) (A : List UInt8), i + d = s.size → A.length + d ≤ 1000000 →
    spec_SortLetters.l1 (k + d + 1) s ⟨A.toArray⟩ c (i : Int) = spec_SortLetters.l0 k s ⟨(A ++ (s.data.toList.drop i).filter (eqc c)).toArray⟩ (wrap32 (c + 1)) := by
  have hL := size_list s
  intro d
  induction d with
  | zero =>
    intro k i A hi hA
    simp only [Nat.add_zero, spec_SortLetters.l1]
    rw [if_neg (by omega), List.drop_of_length_le (by omega)]
    simp
  | succ d ih =>
    intro k i A hi hA
    have hlt : i < s.data.toList.length := by omega
    have hw : wrap64 ((i : Int) + 1) = ((i + 1 : Nat) : Int) := by unfold wrap64; omega
    have hx : (((i + 1 : Nat) : Int)).toNat = i + 1 := by omega
    have hy : ((i : Int)).toNat = i := by omega
    have hr := bt_range s (i : Int)
    have hb : wrap32 (bt s (i : Int)) = bt s (i : Int) := by unfold wrap32; omega
    rw [show k + (d + 1) + 1 = (k + d + 1) + 1 by omega]
    obtain ⟨K, hK⟩ : ∃ K, K = k + d + 1 := ⟨_, rfl⟩
    rw [← hK]
    simp only [spec_SortLetters.l1, hw, hx, hy, hb]
    subst hK
    rw [if_pos (by omega), if_pos (by omega), List.drop_eq_getElem_cons hlt, List.filter_cons]
    by_cases h : bt s (i : Int) = c
    · have he : eqc c (s.data.toList[i]) = true := by
        rw [bt_list s i hlt] at h
        exact decide_eq_true h
      rw [if_pos h, if_pos (by omega), if_pos (by omega), if_pos ?_, app_one s A i hlt, ih k (i + 1) _ (by omega) (by simp; omega), if_pos he]
      · simp
      · have h1 : (⟨A.toArray⟩ : ByteArray).size = A.length := by simp [ByteArray.size]
        rw [h1]
        simp only [ByteArray.size_extract]
        omega
    · have he : ¬ eqc c (s.data.toList[i]) = true := by
        rw [bt_list s i hlt] at h
        unfold eqc
        rw [decide_eq_true_eq]
        exact h
      rw [if_neg h, ih k (i + 1) A (by omega) (by omega), if_neg he]
theorem filter_len (L : List UInt8) (p : UInt8 → Bool) : (L.filter p).length ≤ L.length := List.length_filter_le _ _
theorem specSort_l0 (s : ByteArray) (hn : s.size ≤ 1000) (hw : isWordB s = true) : ∀ (d m : Nat) (c : Int) (A : List UInt8), c + d = 123 → 0 ≤ c → A.length + d * 1000 ≤ 900000 →
    spec_SortLetters.l0 (m + 2 + d * (s.size + 3)) s ⟨A.toArray⟩ c = some ⟨(A ++ buckets s.data.toList c d).toArray⟩ := by
  intro d
  induction d with
  | zero =>
    intro m c A hc h0 hA
    simp only [Nat.zero_mul, Nat.add_zero, spec_SortLetters.l0]
    rw [if_neg (by omega)]
    simp only [spec_SortLetters.j1]
    simp [buckets]
  | succ d ih =>
    intro m c A hc h0 hA
    have hl := filter_len s.data.toList (eqc c)
    have hL := size_list s
    have e : m + 2 + (d + 1) * (s.size + 3) = (m + 2 + d * (s.size + 3)) + s.size + 1 + 1 + 1 := by
      rw [Nat.add_mul, Nat.one_mul]
      omega
    rw [e]
    obtain ⟨K, hK⟩ : ∃ K, K = (m + 2 + d * (s.size + 3)) + s.size + 1 := ⟨_, rfl⟩
    rw [← hK]
    simp only [spec_SortLetters.l0]
    rw [if_pos (by omega), specIsWord_eq s (by omega) _ (by omega), hw]
    simp only [Option.bind_some, spec_SortLetters.j1, if_true]
    subst hK
    have h := specSort_l1 s c hn s.size (m + 2 + d * (s.size + 3)) 0 A (by omega) (by omega)
    have hw32 : wrap32 (c + 1) = c + 1 := by unfold wrap32; omega
    rw [hw32] at h
    have h' : spec_SortLetters.l1 (m + 2 + d * (s.size + 3) + s.size + 1) s ⟨A.toArray⟩ c 0 = _ := h
    rw [h', List.drop_zero, ih m (c + 1) _ (by omega) (by omega) (by simp only [List.length_append]; omega)]
    simp [buckets]
theorem specSort (m : Nat) (s : ByteArray) (hn : s.size ≤ 140737488351232) : spec_SortLetters.f (m + s.size + 2 + 26 * (s.size + 3)) s = some (if isWordB s = true then sortV s else ⟨#[]⟩) := by
  unfold spec_SortLetters.f
  by_cases hw : isWordB s = true
  · rw [if_pos hw]
    have h8 : s.size ≤ 1000 := by
      unfold isWordB at hw
      simp only [Bool.and_eq_true, decide_eq_true_eq] at hw
      omega
    have h := specSort_l0 s h8 hw 26 (m + s.size) 97 [] (by omega) (by omega) (by simp)
    simpa [sortV] using h
  · rw [if_neg hw]
    have hf : isWordB s = false := by simpa using hw
    rw [show m + s.size + 2 + 26 * (s.size + 3) = (m + s.size + 26 * (s.size + 3)) + 1 + 1 by omega]
    simp only [spec_SortLetters.l0]
    rw [if_pos (by omega), specIsWord_eq s hn _ (by omega), hf]
    simp only [Option.bind_some, spec_SortLetters.j1]
    simp
theorem count_buckets (L : List UInt8) (x : UInt8) : ∀ (d : Nat) (c : Int), (buckets L c d).count x = if c ≤ (x.toNat : Int) ∧ (x.toNat : Int) < c + d then L.count x else 0 := by
  intro d
  induction d with
  | zero =>
    intro c
    rw [if_neg (by omega)]
    rfl
  | succ d ih =>
    intro c
    simp only [buckets, List.count_append]
    rw [ih (c + 1)]
    by_cases h : (x.toNat : Int) = c
    · rw [List.count_filter (by simp [eqc, h]), if_neg (by omega), if_pos (by omega)]
      rfl
    · rw [List.count_eq_zero_of_not_mem (by simp [eqc, h])]
      by_cases h2 : c + 1 ≤ (x.toNat : Int) ∧ (x.toNat : Int) < c + 1 + d
      · rw [if_pos h2, if_pos (by omega), Nat.zero_add]
      · rw [if_neg h2, if_neg (by omega)]
theorem mem_buckets (L : List UInt8) (x : UInt8) : ∀ (d : Nat) (c : Int), x ∈ buckets L c d → c ≤ (x.toNat : Int) ∧ (x.toNat : Int) < c + d := by
  intro d
  induction d with
  | zero => intro c h; simp [buckets] at h
  | succ d ih =>
    intro c h
    simp only [buckets, List.mem_append, List.mem_filter, eqc, decide_eq_true_eq] at h
    rcases h with h | h
    · omega
    · have := ih (c + 1) h
      omega
theorem sorted_buckets (L : List UInt8) : ∀ (d : Nat) (c : Int), (buckets L c d).Pairwise (fun x y => x.toNat ≤ y.toNat) := by
  intro d
  induction d with
  | zero => intro c; simp [buckets]
  | succ d ih =>
    intro c
    simp only [buckets]
    rw [List.pairwise_append]
    refine ⟨?_, ih (c + 1), ?_⟩
    · refine List.Pairwise.imp_of_mem (R := fun _ _ => True) ?_ (List.pairwise_of_forall (fun _ _ => trivial))
      intro a b ha hb _
      simp only [List.mem_filter, eqc, decide_eq_true_eq] at ha hb
      omega
    · intro a ha b hb
      have := mem_buckets L b d (c + 1) hb
      simp only [List.mem_filter, eqc, decide_eq_true_eq] at ha
      omega
theorem allF_at (f : Int → Bool) : ∀ (d : Nat) (i : Int), allF f d i = true → ∀ j : Nat, j < d → f (i + j) = true := by
  intro d
  induction d with
  | zero => intro i _ j hj; omega
  | succ d ih =>
    intro i h j hj
    simp only [allF, Bool.and_eq_true] at h
    cases j with
    | zero => simpa using h.1
    | succ j =>
      have := ih (i + 1) h.2 j (by omega)
      rw [show i + ((j + 1 : Nat) : Int) = i + 1 + (j : Int) by omega]
      exact this
theorem letters_of_word (s : ByteArray) (hw : isWordB s = true) : ∀ x ∈ s.data.toList, 97 ≤ (x.toNat : Int) ∧ (x.toNat : Int) ≤ 122 := by
  intro x hx
  obtain ⟨i, hi, rfl⟩ := List.mem_iff_getElem.mp hx
  unfold isWordB at hw
  simp only [Bool.and_eq_true] at hw
  have h := allF_at _ s.size 0 hw.2 i (by rw [← size_list]; exact hi)
  rw [Int.zero_add] at h
  have hb := bt_list s i hi
  simp only [letB, hb, Bool.and_eq_true, decide_eq_true_eq] at h
  omega
theorem sort_same (s : ByteArray) (hw : isWordB s = true) : Go.Proofs.YtgnpindamkgggaaRev.srtF s = sortV s := by
  unfold Go.Proofs.YtgnpindamkgggaaRev.srtF sortV Go.Proofs.YtgnpindamkgggaaRev.srt
  have hp : (buckets s.data.toList 97 26).Perm s.data.toList := by
    rw [List.perm_iff_count]
    intro x
    rw [count_buckets]
    by_cases h : x ∈ s.data.toList
    · have := letters_of_word s hw x h
      rw [if_pos (by omega)]
    · rw [List.count_eq_zero_of_not_mem h]
      split <;> rfl
  have hs : (bytesOf s).mergeSort (fun x y => decide (x ≤ y)) = (buckets s.data.toList 97 26).map fun b => (b.toNat : Int) := by
    have tr : ∀ (a b c : Int), decide (a ≤ b) = true → decide (b ≤ c) = true → decide (a ≤ c) = true := by
      intro a b c h1 h2
      simp only [decide_eq_true_eq] at *
      omega
    have tot : ∀ (a b : Int), (decide (a ≤ b) || decide (b ≤ a)) = true := by
      intro a b
      simp only [Bool.or_eq_true, decide_eq_true_eq]
      omega
    refine List.Perm.eq_of_pairwise (le := fun a b => decide (a ≤ b) = true) (fun a b _ _ h1 h2 => by simp only [decide_eq_true_eq] at h1 h2; omega) (List.pairwise_mergeSort tr tot _) ?_ ((List.mergeSort_perm _ _).trans ?_)
    · rw [List.pairwise_map]
      refine (sorted_buckets s.data.toList 26 97).imp ?_
      intro a b h
      simp only [decide_eq_true_eq]
      omega
    · exact (hp.map _).symm
  rw [hs]
  unfold strOfNums
  congr 2
  rw [List.map_map]
  conv => rhs; rw [← List.map_id (buckets s.data.toList 97 26)]
  apply List.map_congr_left
  intro b _
  simp
theorem implSort (k : Nat) (s : ByteArray) (hn : s.size ≤ 140737488351232) (hk : s.size < k) : impl_SortLetters.f k s = some (if isWordB s = true then sortV s else ⟨#[]⟩) := by
  unfold impl_SortLetters.f
  rw [implIsWord_eq s hn k hk]
  simp only [Option.bind_some]
  by_cases hw : isWordB s = true
  · rw [if_pos hw, if_pos hw, if_pos hn, sort_same s hw]
  · rw [if_neg hw, if_neg hw]
theorem FnExactIsRearranged : laws_FnExactIsRearranged.Pure := by
  intro s t hs ht
  refine ⟨(26 * (t.size + 3) + t.size) + s.size + 2 + 26 * (s.size + 3), ?_⟩
  unfold laws_FnExactIsRearranged.f
  by_cases h : (s.size : Int) > 1048576
  · rw [if_pos h]
  rw [if_neg h]
  by_cases h2 : (t.size : Int) > 1048576
  · rw [if_pos h2]
  rw [if_neg h2]
  have S := specSort (26 * (t.size + 3) + t.size) s hs
  have T := specSort (26 * (s.size + 3) + s.size) t ht
  rw [show 26 * (s.size + 3) + s.size + t.size + 2 + 26 * (t.size + 3) = (26 * (t.size + 3) + t.size) + s.size + 2 + 26 * (s.size + 3) by omega] at T
  unfold spec_IsRearranged.f impl_IsRearranged.f
  rw [S, T, implSort _ s hs (by omega), implSort _ t ht (by omega), specIsWord_eq s hs _ (by omega), specIsWord_eq t ht _ (by omega), implIsWord_eq s hs _ (by omega), implIsWord_eq t ht _ (by omega)]
  simp only [Option.bind_some]
  cases isWordB s
  · simp
  · cases isWordB t
    · simp
    · simp only [if_true]
      by_cases e : s.toList = t.toList
      · rw [if_pos e]
        simp
      · rw [if_neg e]
        simp
end Go.Proofs.Ytgnpindamkgggaa.Pure
