/- The law FnWords answers true for every byte slice. No condition. -/
import Derived.Test.YtgnpindamkgggaaPFnWordsx3
namespace Go.Proofs.Ytgnpindamkgggaa.Pure
open Go.RowKit Go.Proofs.Ytgnpindamkgggaa.PFnWords Go.Proofs.YtgnpindamkgggaaW.PrintWords Go.Proofs.YtgnpindamkgggaaW.PrintLast Go.Proofs.YtgnpindamkgggaaW.PrintMore
set_option linter.unusedVariables false
set_option linter.unusedSimpArgs false
theorem ba_ext {a b : ByteArray} : a.toList = b.toList ↔ a = b := by
  constructor
  · intro h
    rw [ByteArray.toList_eq, ByteArray.toList_eq] at h
    cases a
    cases b
    congr 1
    exact Array.ext' h
  · rintro rfl
    rfl
theorem wrap_nat {m n : Nat} (h : m < n) (hn : n ≤ 140737488351232) : wrap64 ((m : Int) + 1) = ((m + 1 : Nat) : Int) := by
  unfold wrap64
  omega
theorem getD_set_self {α : Type} (l : List α) (i j : Nat) (v d : α) : (l.set i v).getD j d = if i = j ∧ i < l.length then v else l.getD j d := by
  simp only [List.getD_eq_getElem?_getD, List.getElem?_set]
  by_cases h : i = j
  · subst h
    by_cases h2 : i < l.length
    · simp [h2]
    · simp [h2]
  · simp [h]
theorem ext_getD {α : Type} (a b : List α) (d : α) (hl : a.length = b.length) (h : ∀ j, j < b.length → a.getD j d = b.getD j d) : a = b := by
  refine List.ext_getElem hl fun j h1 h2 => ?_
  have := h j h2
  simpa [List.getD_eq_getElem?_getD, List.getElem?_eq_getElem h1, List.getElem?_eq_getElem h2] using this
theorem copy_loop {α : Type} (F : Nat → Nat → List α → Option (List α)) (x0 : List α) (dv : α)
    (hend : ∀ k s, s.length = x0.length → F (k + 1) x0.length s = some s)
    (hstep : ∀ k i s, i < x0.length → s.length = x0.length → F (k + 1) i s = F k (i + 1) (s.set i (x0.getD i dv))) :
    ∀ (d k i : Nat) (s : List α), i + d = x0.length → d < k → s.length = x0.length → (∀ j, j < i → s.getD j dv = x0.getD j dv) → F k i s = some x0 := by
  intro d
  induction d with
  | zero =>
    intro k i s hi hk hs hj
    obtain ⟨k, rfl⟩ : ∃ m, k = m + 1 := ⟨k - 1, by omega⟩
    obtain rfl : i = x0.length := by omega
    rw [hend k s hs, ext_getD s x0 dv hs hj]
  | succ d ih =>
    intro k i s hi hk hs hj
    obtain ⟨k, rfl⟩ : ∃ m, k = m + 1 := ⟨k - 1, by omega⟩
    rw [hstep k i s (by omega) hs]
    refine ih k (i + 1) _ (by omega) (by omega) (by simpa using hs) fun j h => ?_
    rw [getD_set_self]
    by_cases e : i = j
    · subst e
      rw [if_pos ⟨rfl, by omega⟩]
    · rw [if_neg (fun h => e h.1)]
      exact hj j (by omega)
theorem eq_loop {α : Type} [DecidableEq α] (F : Nat → Nat → Option Bool) (x0 x1 : List α) (dv : α) (hl : x0.length = x1.length)
    (hend : ∀ k, F (k + 1) x0.length = some true)
    (hstep : ∀ k i, i < x0.length → F (k + 1) i = if x0.getD i dv = x1.getD i dv then F k (i + 1) else some false) :
    ∀ (d k i : Nat), i + d = x0.length → d < k → F k i = some (decide (x0.drop i = x1.drop i)) := by
  intro d
  induction d with
  | zero =>
    intro k i hi hk
    obtain ⟨k, rfl⟩ : ∃ m, k = m + 1 := ⟨k - 1, by omega⟩
    obtain rfl : i = x0.length := by omega
    rw [hend]
    simp [hl]
  | succ d ih =>
    intro k i hi hk
    obtain ⟨k, rfl⟩ : ∃ m, k = m + 1 := ⟨k - 1, by omega⟩
    have h0 : i < x0.length := by omega
    have h1 : i < x1.length := by omega
    rw [hstep k i h0, ih k (i + 1) (by omega) (by omega), List.drop_eq_getElem_cons h0, List.drop_eq_getElem_cons h1]
    simp only [List.getD_eq_getElem?_getD, List.getElem?_eq_getElem h0, List.getElem?_eq_getElem h1, Option.getD_some, List.cons.injEq]
    by_cases e : x0[i] = x1[i] <;> simp [e]
theorem mark_loop {α : Type} (F : Nat → Nat → List α → Option (Int × List α)) (n : Nat) (val : Nat → α)
    (hend : ∀ k s, s.length = n → F (k + 1) n s = some (1 + (n : Int), s))
    (hstep : ∀ k i s, i < n → s.length = n → F (k + 1) i s = F k (i + 1) (s.set i (val i))) (dv : α) :
    ∀ (d k i : Nat) (s : List α), i + d = n → d < k → s.length = n → (∀ j, j < i → s.getD j dv = val j) → F k i s = some (1 + (n : Int), (List.range n).map val) := by
  intro d
  induction d with
  | zero =>
    intro k i s hi hk hs hj
    obtain ⟨k, rfl⟩ : ∃ m, k = m + 1 := ⟨k - 1, by omega⟩
    obtain rfl : i = n := by omega
    rw [hend k s hs]
    have e : s = (List.range i).map val := ext_getD s _ dv (by simpa using hs) fun j h => by
      have h' : j < i := by simpa using h
      rw [hj j h']
      simp [List.getD_eq_getElem?_getD, h']
    rw [← e]
  | succ d ih =>
    intro k i s hi hk hs hj
    obtain ⟨k, rfl⟩ : ∃ m, k = m + 1 := ⟨k - 1, by omega⟩
    rw [hstep k i s (by omega) hs]
    refine ih k (i + 1) _ (by omega) (by omega) (by simpa using hs) fun j h => ?_
    rw [getD_set_self]
    by_cases e : i = j
    · subst e
      rw [if_pos ⟨rfl, by omega⟩]
    · rw [if_neg (fun h => e h.1)]
      exact hj j (by omega)
theorem held_loop (F : Nat → Nat → Option Int) (n : Nat)
    (hend : ∀ k, F (k + 1) n = some (1 + (n : Int)))
    (hstep : ∀ k i, i < n → F (k + 1) i = F k (i + 1)) :
    ∀ (d k i : Nat), i + d = n → d < k → F k i = some (1 + (n : Int)) := by
  intro d
  induction d with
  | zero =>
    intro k i hi hk
    obtain ⟨k, rfl⟩ : ∃ m, k = m + 1 := ⟨k - 1, by omega⟩
    obtain rfl : i = n := by omega
    exact hend k
  | succ d ih =>
    intro k i hi hk
    obtain ⟨k, rfl⟩ : ∃ m, k = m + 1 := ⟨k - 1, by omega⟩
    rw [hstep k i (by omega)]
    exact ih k (i + 1) (by omega) (by omega)
/-- A loop that counts up, told by its step. -/
def runL {σ ρ : Type} (step : Nat → σ → ρ ⊕ σ) (fin : σ → ρ) : Nat → Nat → σ → ρ
  | 0, _, s => fin s
  | d + 1, i, s => match step i s with
    | .inl r => r
    | .inr s' => runL step fin d (i + 1) s'
theorem loop_run {σ ρ : Type} (F : Nat → Nat → σ → Option ρ) (n : Nat) (step : Nat → σ → ρ ⊕ σ) (fin : σ → ρ) (Inv : Nat → σ → Prop)
    (hend : ∀ k s, Inv n s → F (k + 1) n s = some (fin s))
    (hstep : ∀ k i s, i < n → Inv i s → F (k + 1) i s = match step i s with
      | .inl r => some r
      | .inr s' => F k (i + 1) s')
    (hinv : ∀ i s s', i < n → Inv i s → step i s = .inr s' → Inv (i + 1) s') :
    ∀ (d k i : Nat) (s : σ), i + d = n → d < k → Inv i s → F k i s = some (runL step fin d i s) := by
  intro d
  induction d with
  | zero =>
    intro k i s hi hk hs
    obtain ⟨k, rfl⟩ : ∃ m, k = m + 1 := ⟨k - 1, by omega⟩
    obtain rfl : i = n := by omega
    exact hend k s hs
  | succ d ih =>
    intro k i s hi hk hs
    obtain ⟨k, rfl⟩ : ∃ m, k = m + 1 := ⟨k - 1, by omega⟩
    rw [hstep k i s (by omega) hs]
    unfold runL
    cases e : step i s with
    | inl r => rfl
    | inr s' => exact ih k (i + 1) s' (by omega) (by omega) (hinv i s s' (by omega) hs e)
theorem one_neg (n : Nat) : (1 + (n : Int) < 0) = False := by
  simp
  omega
theorem u8_bds {n : Int} (h : (Lit.int .u8 n).wf = true) : 0 ≤ n ∧ n ≤ 255 := by
  simp [Lit.wf, IntKind.min, IntKind.max, IntKind.signed, IntKind.bits] at h
  omega
theorem i64_bds {n : Int} (h : (Lit.int .i64 n).wf = true) : -9223372036854775808 ≤ n ∧ n ≤ 9223372036854775807 := by
  simp [Lit.wf, IntKind.min, IntKind.max, IntKind.signed, IntKind.bits] at h
  omega
theorem tmod_bd (a : Int) {b : Int} (hb : 0 < b) : -b < Int.tmod a b ∧ Int.tmod a b < b := by
  by_cases h : 0 ≤ a
  · rw [Int.tmod_eq_emod_of_nonneg h]
    have := Int.emod_nonneg a (show b ≠ 0 by omega)
    have := Int.emod_lt_of_pos a hb
    omega
  · have e : Int.tmod a b = -(Int.tmod (-a) b) := by rw [Int.neg_tmod]; omega
    rw [e, Int.tmod_eq_emod_of_nonneg (by omega)]
    have := Int.emod_nonneg (-a) (show b ≠ 0 by omega)
    have := Int.emod_lt_of_pos (-a) hb
    omega
theorem inr (a b c : Int) : impl_InRange.f a b c = some (decide (b ≤ a ∧ a ≤ c)) := by
  unfold impl_InRange.f
  by_cases h : b ≤ a <;> simp [h]
def allF (f : Int → Bool) : Nat → Int → Bool
  | 0, _ => true
  | d + 1, i => f i && allF f d (i + 1)
theorem wrap_up {i n : Int} (h0 : 0 ≤ i) (h : i < n) (hn : n ≤ 140737488351232) : wrap64 (i + 1) = i + 1 := by
  unfold wrap64
  omega
def letB (c : Int) : Bool := decide (97 ≤ c ∧ c ≤ 122)
def isWordB (s : ByteArray) : Bool := decide (1 ≤ s.size ∧ s.size ≤ 8) && allF (fun i => letB (bt s i)) s.size 0
theorem isLetter_eq (c : Int) : impl_isLetter.f c = some (letB c) := by
  unfold impl_isLetter.f letB
  by_cases h : c ≥ 97 <;> simp [h]
theorem implIsWord_l0 (s : ByteArray) (hn : (s.size : Int) ≤ 140737488351232) : ∀ (d k : Nat) (i : Int), 0 ≤ i → (s.size : Int) - i = d → d < k →
    impl_IsWord.l0 k s (s.size : Int) i = some (allF (fun i => letB (bt s i)) d i) := by
  intro d
  induction d with
  | zero =>
    intro k i h0 hd hk
    obtain ⟨k, rfl⟩ : ∃ m, k = m + 1 := ⟨k - 1, by omega⟩
    simp only [impl_IsWord.l0]
    rw [if_neg (by omega)]
    rfl
  | succ d ih =>
    intro k i h0 hd hk
    obtain ⟨k, rfl⟩ : ∃ m, k = m + 1 := ⟨k - 1, by omega⟩
    have hlt : i < (s.size : Int) := by omega
    simp only [impl_IsWord.l0]
    rw [if_pos hlt, if_pos h0, if_pos hlt, wrap_up h0 hlt hn, ih k (i + 1) (by omega) (by omega) (by omega), isLetter_eq]
    simp only [allF, Option.bind_some]
    cases letB (bt s i) <;> simp
theorem implIsWord_eq (s : ByteArray) (hn : s.size ≤ 140737488351232) (k : Nat) (hk : s.size < k) : impl_IsWord.f k s = some (isWordB s) := by
  unfold impl_IsWord.f isWordB
  rw [inr, implIsWord_l0 s (by omega) s.size k 0 (by omega) (by omega) hk]
  simp only [Option.bind_some]
  by_cases h : 1 ≤ s.size ∧ s.size ≤ 8
  · rw [if_pos (by simp; omega)]
    simp [h]
  · rw [if_neg (by simp; omega)]
    simp [h]
def eqc (c : Int) (b : UInt8) : Bool := decide ((b.toNat : Int) = c)
def buckets (L : List UInt8) : Int → Nat → List UInt8
  | _, 0 => []
  | c, d + 1 => L.filter (eqc c) ++ buckets L (c + 1) d
def sortV (s : ByteArray) : ByteArray := ⟨(buckets s.data.toList 97 26).toArray⟩
theorem size_list (s : ByteArray) : s.data.toList.length = s.size := Array.length_toList
theorem bt_list (s : ByteArray) (i : Nat) (h : i < s.data.toList.length) : bt s (i : Int) = ((s.data.toList[i]).toNat : Int) := by
  have h' : ((i : Int)).toNat < s.size := by rw [size_list] at h; omega
  rw [← bt_at s i h']
  rfl
theorem count_buckets (L : List UInt8) (x : UInt8) : ∀ (d : Nat) (c : Int), (buckets L c d).count x = if c ≤ (x.toNat : Int) ∧ (x.toNat : Int) < c + d then L.count x else 0 := by
  intro d
  induction d with
  | zero =>
    intro c
    rw [if_neg (by omega)]
    rfl
  | succ d ih =>
    intro c
    simp only [buckets, List.count_append]
    rw [ih (c + 1)]
    by_cases h : (x.toNat : Int) = c
    · rw [List.count_filter (by simp [eqc, h]), if_neg (by omega), if_pos (by omega)]
      rfl
    · rw [List.count_eq_zero_of_not_mem (by simp [eqc, h])]
      by_cases h2 : c + 1 ≤ (x.toNat : Int) ∧ (x.toNat : Int) < c + 1 + d
      · rw [if_pos h2, if_pos (by omega), Nat.zero_add]
      · rw [if_neg h2, if_neg (by omega)]
theorem mem_buckets (L : List UInt8) (x : UInt8) : ∀ (d : Nat) (c : Int), x ∈ buckets L c d → c ≤ (x.toNat : Int) ∧ (x.toNat : Int) < c + d := by
  intro d
  induction d with
  | zero => intro c h; simp [buckets] at h
  | succ d ih =>
    intro c h
    simp only [buckets, List.mem_append, List.mem_filter, eqc, decide_eq_true_eq] at h
    rcases h with h | h
    · omega
    · have := ih (c + 1) h
      omega
theorem sorted_buckets (L : List UInt8) : ∀ (d : Nat) (c : Int), (buckets L c d).Pairwise (fun x y => x.toNat ≤ y.toNat) := by
  intro d
  induction d with
  | zero => intro c; simp [buckets]
  | succ d ih =>
    intro c
    simp only [buckets]
    rw [List.pairwise_append]
    refine ⟨?_, ih (c + 1), ?_⟩
    · refine List.Pairwise.imp_of_mem (R := fun _ _ => True) ?_ (List.pairwise_of_forall (fun _ _ => trivial))
      intro a b ha hb _
      simp only [List.mem_filter, eqc, decide_eq_true_eq] at ha hb
      omega
    · intro a ha b hb
      have := mem_buckets L b d (c + 1) hb
      simp only [List.mem_filter, eqc, decide_eq_true_eq] at ha
      omega
theorem allF_at (f : Int → Bool) : ∀ (d : Nat) (i : Int), allF f d i = true → ∀ j : Nat, j < d → f (i + j) = true := by
  intro d
  induction d with
  | zero => intro i _ j hj; omega
  | succ d ih =>
    intro i h j hj
    simp only [allF, Bool.and_eq_true] at h
    cases j with
    | zero => simpa using h.1
    | succ j =>
      have := ih (i + 1) h.2 j (by omega)
      rw [show i + ((j + 1 : Nat) : Int) = i + 1 + (j : Int) by omega]
      exact this
theorem letters_of_word (s : ByteArray) (hw : isWordB s = true) : ∀ x ∈ s.data.toList, 97 ≤ (x.toNat : Int) ∧ (x.toNat : Int) ≤ 122 := by
  intro x hx
  obtain ⟨i, hi, rfl⟩ := List.mem_iff_getElem.mp hx
  unfold isWordB at hw
  simp only [Bool.and_eq_true] at hw
  have h := allF_at _ s.size 0 hw.2 i (by rw [← size_list]; exact hi)
  rw [Int.zero_add] at h
  have hb := bt_list s i hi
  simp only [letB, hb, Bool.and_eq_true, decide_eq_true_eq] at h
  omega
theorem sort_same (s : ByteArray) (hw : isWordB s = true) : Go.Proofs.YtgnpindamkgggaaRev.srtF s = sortV s := by
  unfold Go.Proofs.YtgnpindamkgggaaRev.srtF sortV Go.Proofs.YtgnpindamkgggaaRev.srt
  have hp : (buckets s.data.toList 97 26).Perm s.data.toList := by
    rw [List.perm_iff_count]
    intro x
    rw [count_buckets]
    by_cases h : x ∈ s.data.toList
    · have := letters_of_word s hw x h
      rw [if_pos (by omega)]
    · rw [List.count_eq_zero_of_not_mem h]
      split <;> rfl
  have hs : (bytesOf s).mergeSort (fun x y => decide (x ≤ y)) = (buckets s.data.toList 97 26).map fun b => (b.toNat : Int) := by
    have tr : ∀ (a b c : Int), decide (a ≤ b) = true → decide (b ≤ c) = true → decide (a ≤ c) = true := by
      intro a b c h1 h2
      simp only [decide_eq_true_eq] at *
      omega
    have tot : ∀ (a b : Int), (decide (a ≤ b) || decide (b ≤ a)) = true := by
      intro a b
      simp only [Bool.or_eq_true, decide_eq_true_eq]
      omega
    refine List.Perm.eq_of_pairwise (le := fun a b => decide (a ≤ b) = true) (fun a b _ _ h1 h2 => by simp only [decide_eq_true_eq] at h1 h2; omega) (List.pairwise_mergeSort tr tot _) ?_ ((List.mergeSort_perm _ _).trans ?_)
    · rw [List.pairwise_map]
      refine (sorted_buckets s.data.toList 26 97).imp ?_
      intro a b h
      simp only [decide_eq_true_eq]
      omega
    · exact (hp.map _).symm
  rw [hs]
  unfold strOfNums
  congr 2
  rw [List.map_map]
  conv => rhs; rw [← List.map_id (buckets s.data.toList 97 26)]
  apply List.map_congr_left
  intro b _
  simp
theorem implSort (k : Nat) (s : ByteArray) (hn : s.size ≤ 140737488351232) (hk : s.size < k) : impl_SortLetters.f k s = some (if isWordB s = true then sortV s else ⟨#[]⟩) := by
  unfold impl_SortLetters.f
  rw [implIsWord_eq s hn k hk]
  simp only [Option.bind_some]
  by_cases hw : isWordB s = true
  · rw [if_pos hw, if_pos hw, if_pos hn, sort_same s hw]
  · rw [if_neg hw, if_neg hw]
def backAcc (s : ByteArray) (i : Nat) : ByteArray := ⟨(s.data.toList.take i).reverse.toArray⟩
theorem backAcc_step (s : ByteArray) (i : Nat) (h : i < s.size) : s.extract i (i + 1) ++ backAcc s i = backAcc s (i + 1) := by
  have hl : i < s.data.toList.length := by rw [Array.length_toList]; exact h
  apply ByteArray.ext
  apply Array.ext'
  simp only [backAcc, ByteArray.data_append, ByteArray.data_extract, Array.toList_append, Array.toList_extract, List.extract_eq_take_drop]
  rw [List.take_succ_eq_append_getElem hl, List.reverse_append, show i + 1 - i = 1 by omega, List.drop_eq_getElem_cons hl]
  rfl
theorem backAcc_size (s : ByteArray) (i : Nat) (h : i ≤ s.size) : (backAcc s i).size = i := by
  have : s.data.toList.length = s.size := Array.length_toList
  simp only [backAcc, ByteArray.size, List.size_toArray, List.length_reverse, List.length_take]
  omega
theorem specBack_l0 (s : ByteArray) (hn : s.size ≤ 100) : ∀ (d k i : Nat), i + d = s.size → d < k → spec_Backwards.l0 k s (backAcc s i) (i : Int) = some (backAcc s s.size) := by
  intro d
  induction d with
  | zero =>
    intro k i hi hk
    obtain ⟨k, rfl⟩ : ∃ m, k = m + 1 := ⟨k - 1, by omega⟩
    simp only [spec_Backwards.l0]
    rw [if_neg (by omega)]
    rw [show i = s.size by omega]
  | succ d ih =>
    intro k i hi hk
    obtain ⟨k, rfl⟩ : ∃ m, k = m + 1 := ⟨k - 1, by omega⟩
    have hw : wrap64 ((i : Int) + 1) = ((i + 1 : Nat) : Int) := by unfold wrap64; omega
    have hx : (((i + 1 : Nat) : Int)).toNat = i + 1 := by omega
    have hy : ((i : Int)).toNat = i := by omega
    simp only [spec_Backwards.l0, hw, hx, hy]
    rw [backAcc_step s i (by omega), if_pos (by omega), if_pos (by omega), if_pos (by omega), if_pos (by omega), if_pos (by omega), if_pos ?_]
    · exact ih k (i + 1) (by omega) (by omega)
    · have := backAcc_size s i (by omega)
      simp only [ByteArray.size_extract]
      omega
theorem specBack (k : Nat) (s : ByteArray) (hn : s.size ≤ 140737488351232) (hk : s.size + 1 < k) : spec_Backwards.f k s = some (if s.size ≤ 100 then backAcc s s.size else ⟨#[]⟩) := by
  unfold spec_Backwards.f
  by_cases h : s.size ≤ 100
  · rw [if_pos h]
    have := specBack_l0 s h s.size k 0 (by omega) (by omega)
    exact this
  · rw [if_neg h]
    obtain ⟨k, rfl⟩ : ∃ m, k = m + 1 := ⟨k - 1, by omega⟩
    simp only [spec_Backwards.l0]
    rw [if_pos (by omega), if_neg (by omega)]
theorem implBack (s : ByteArray) : impl_Backwards.f s = some (if s.size ≤ 100 then backAcc s s.size else ⟨#[]⟩) := by
  unfold impl_Backwards.f Go.Proofs.YtgnpindamkgggaaRev.backF
  congr 1
  by_cases h : s.size ≤ 100
  · rw [if_pos h, if_pos h]
    unfold backAcc strOfNums bytesOf
    congr 2
    rw [← List.map_reverse, List.map_map, List.take_of_length_le (by rw [Array.length_toList]; exact Nat.le_refl _)]
    conv => rhs; rw [← List.map_id s.data.toList.reverse]
    apply List.map_congr_left
    intro b _
    simp
  · rw [if_neg h, if_neg h]
def cntStep (s : ByteArray) (c : Int) (i : Nat) (n : Int) : Int ⊕ Int := .inr (if bt s i = c then wrap64 (n + 1) else n)
def cntV (s t : ByteArray) : Int := if isWordB s = true ∧ t.size = 1 ∧ letB (bt t 0) = true then runL (cntStep s (bt t 0)) id s.size 0 0 else 0
theorem implCount (k : Nat) (s t : ByteArray) (hs : s.size ≤ 140737488351232) (hk : s.size + 4 < k) : impl_CountLetter.f k s t = some (cntV s t) := by
  obtain ⟨k, rfl⟩ : ∃ m, k = m + 1 := ⟨k - 1, by omega⟩
  unfold impl_CountLetter.f cntV
  rw [implIsWord_eq s hs _ (by omega)]
  simp only [Option.bind_some, isLetter_eq]
  by_cases h1 : isWordB s = true
  · rw [if_pos h1]
    by_cases h2 : t.size = 1
    · rw [if_pos (by omega), if_pos (by omega)]
      by_cases h3 : letB (bt t 0) = true
      · rw [if_pos ⟨h1, h2, h3⟩, h3]
        simp only [impl_CountLetter.j0, Bool.not_true, Bool.false_eq_true, if_false]
        refine loop_run (fun k i n => impl_CountLetter.l0 k s t n (s.size : Int) (i : Int)) s.size (cntStep s (bt t 0)) id (fun _ _ => True) (fun k n _ => ?_) (fun k i n hi _ => ?_) (fun _ _ _ _ _ _ => trivial) s.size k 0 0 (by omega) (by omega) trivial
        · simp only [impl_CountLetter.l0]
          rw [if_neg (by omega)]
          rfl
        · simp only [impl_CountLetter.l0]
          rw [if_pos (by omega), if_pos (by omega), if_pos (by omega), if_pos (by omega), wrap_nat hi hs]
          unfold cntStep
          by_cases h : bt s i = bt t 0 <;> simp [h]
      · rw [if_neg (fun h => h3 h.2.2)]
        simp [impl_CountLetter.j0, h3]
    · rw [if_neg (by omega), if_neg (fun h => h2 h.2.1)]
      simp [impl_CountLetter.j0]
  · rw [if_neg h1, if_neg (fun h => h1 h.1)]
    simp [impl_CountLetter.j0]
theorem allF_of (f : Int → Bool) : ∀ (d : Nat) (i : Int), (∀ j : Nat, j < d → f (i + j) = true) → allF f d i = true := by
  intro d
  induction d with
  | zero => intro i _; rfl
  | succ d ih =>
    intro i h
    simp only [allF, Bool.and_eq_true]
    refine ⟨by have := h 0 (by omega); simpa using this, ih (i + 1) fun j hj => ?_⟩
    have := h (j + 1) (by omega)
    rw [show i + ((j + 1 : Nat) : Int) = i + 1 + (j : Int) by omega] at this
    exact this
theorem word_iff (s : ByteArray) : isWordB s = true ↔ (1 ≤ s.size ∧ s.size ≤ 8) ∧ ∀ x ∈ s.data.toList, 97 ≤ (x.toNat : Int) ∧ (x.toNat : Int) ≤ 122 := by
  constructor
  · intro h
    refine ⟨?_, letters_of_word s h⟩
    unfold isWordB at h
    simp only [Bool.and_eq_true, decide_eq_true_eq] at h
    exact h.1
  · rintro ⟨h1, h2⟩
    unfold isWordB
    simp only [Bool.and_eq_true, decide_eq_true_eq]
    refine ⟨h1, allF_of _ _ _ fun j hj => ?_⟩
    have hj' : j < s.data.toList.length := by rw [size_list]; exact hj
    rw [Int.zero_add, bt_list s j hj']
    have := h2 _ (List.getElem_mem hj')
    simp only [letB, decide_eq_true_eq]
    exact this
def rev8 (s : ByteArray) : ByteArray := ⟨s.data.toList.reverse.toArray⟩
theorem rev8_list (s : ByteArray) : (rev8 s).data.toList = s.data.toList.reverse := rfl
theorem rev8_size (s : ByteArray) : (rev8 s).size = s.size := by
  rw [← size_list, rev8_list, List.length_reverse, size_list]
theorem rev8_rev8 (s : ByteArray) : rev8 (rev8 s) = s := by
  unfold rev8
  simp
theorem back_small (s : ByteArray) (h : s.size ≤ 100) : impl_Backwards.f s = some (rev8 s) := by
  rw [implBack, if_pos h]
  unfold backAcc rev8
  rw [List.take_of_length_le (by rw [size_list]; exact Nat.le_refl _)]
theorem word_rev8 (s : ByteArray) : isWordB (rev8 s) = isWordB s := by
  rw [Bool.eq_iff_iff, word_iff, word_iff, rev8_size, rev8_list]
  simp only [List.mem_reverse]
theorem buckets_perm (s : ByteArray) (hw : isWordB s = true) : (buckets s.data.toList 97 26).Perm s.data.toList := by
  rw [List.perm_iff_count]
  intro x
  rw [count_buckets]
  by_cases h : x ∈ s.data.toList
  · have := letters_of_word s hw x h
    rw [if_pos (by omega)]
  · rw [List.count_eq_zero_of_not_mem h]
    split <;> rfl
theorem sortV_size (s : ByteArray) (hw : isWordB s = true) : (sortV s).size = s.size := by
  rw [← size_list s, ← (buckets_perm s hw).length_eq]
  simp [sortV, ByteArray.size]
theorem buckets_of_perm (L M : List UInt8) (h : L.Perm M) (c : Int) (d : Nat) : buckets L c d = buckets M c d := by
  refine List.Perm.eq_of_pairwise (le := fun a b : UInt8 => a.toNat ≤ b.toNat) (fun a b _ _ h1 h2 => ?_) (sorted_buckets L d c) (sorted_buckets M d c) ?_
  · exact UInt8.toNat_inj.mp (by omega)
  · rw [List.perm_iff_count]
    intro x
    rw [count_buckets, count_buckets, List.Perm.count_eq h]
theorem sortV_rev8 (s : ByteArray) : sortV (rev8 s) = sortV s := by
  unfold sortV
  rw [rev8_list, buckets_of_perm _ _ (List.reverse_perm s.data.toList)]
def rearrB (a b : ByteArray) : Bool := isWordB a && isWordB b && !decide (a = b) && decide (sortV a = sortV b)
theorem implRearr (k : Nat) (a b : ByteArray) (ha : a.size ≤ 140737488351232) (hb : b.size ≤ 140737488351232) (ka : a.size < k) (kb : b.size < k) : impl_IsRearranged.f k a b = some (rearrB a b) := by
  unfold impl_IsRearranged.f rearrB
  rw [implIsWord_eq a ha k ka, implIsWord_eq b hb k kb, implSort k a ha ka, implSort k b hb kb]
  simp only [Option.bind_some]
  cases isWordB a
  · simp
  · cases isWordB b
    · simp
    · by_cases e : a = b
      · subst e
        simp
      · have e' : ¬ a.toList = b.toList := fun h => e (ba_ext.mp h)
        simp only [if_true, if_neg e', Option.bind_some, Bool.true_and, decide_eq_false e, Bool.not_false]
        by_cases s : sortV a = sortV b
        · simp [s]
        · have s' : ¬ (sortV a).toList = (sortV b).toList := fun h => s (ba_ext.mp h)
          simp [s, s']
theorem rearr_symm (a b : ByteArray) : rearrB a b = rearrB b a := by
  unfold rearrB
  rw [Bool.and_comm (isWordB a) (isWordB b), show decide (a = b) = decide (b = a) from decide_eq_decide.mpr eq_comm, show decide (sortV a = sortV b) = decide (sortV b = sortV a) from decide_eq_decide.mpr eq_comm]
theorem rearr_self (a : ByteArray) : rearrB a a = false := by
  simp [rearrB]
theorem rearr_true {a b : ByteArray} (h : rearrB a b = true) : isWordB a = true ∧ isWordB b = true ∧ a.size = b.size ∧ a.data.toList.Perm b.data.toList := by
  simp only [rearrB, Bool.and_eq_true, decide_eq_true_eq] at h
  obtain ⟨⟨⟨h1, h2⟩, _⟩, h4⟩ := h
  refine ⟨h1, h2, by rw [← sortV_size a h1, ← sortV_size b h2, h4], ?_⟩
  have e : buckets a.data.toList 97 26 = buckets b.data.toList 97 26 := by
    have := congrArg (fun x : ByteArray => x.data.toList) h4
    simpa [sortV] using this
  exact (buckets_perm a h1).symm.trans (e ▸ buckets_perm b h2)
theorem run_count (s : ByteArray) (c : Int) (hs : s.size ≤ 1000) : ∀ (d i : Nat) (n : Int), i + d = s.size → 0 ≤ n → n + d ≤ 100000 →
    runL (cntStep s c) id d i n = n + (((s.data.toList.drop i).filter (eqc c)).length : Int) := by
  intro d
  induction d with
  | zero =>
    intro i n hi _ _
    rw [List.drop_of_length_le (by rw [size_list]; omega)]
    simp [runL]
  | succ d ih =>
    intro i n hi h0 h1
    have hlt : i < s.data.toList.length := by rw [size_list]; omega
    have hw : wrap64 (n + 1) = n + 1 := by unfold wrap64; omega
    simp only [runL, cntStep, hw]
    rw [List.drop_eq_getElem_cons hlt, List.filter_cons, bt_list s i hlt]
    by_cases h : ((s.data.toList[i]).toNat : Int) = c
    · have he : eqc c (s.data.toList[i]) = true := decide_eq_true h
      rw [if_pos h, if_pos he, ih (i + 1) (n + 1) (by omega) (by omega) (by omega)]
      simp only [List.length_cons]
      omega
    · have he : ¬ eqc c (s.data.toList[i]) = true := by
        unfold eqc
        rw [decide_eq_true_eq]
        exact h
      rw [if_neg h, if_neg he, ih (i + 1) n (by omega) (by omega) (by omega)]
theorem cnt_perm {a b : ByteArray} (t : ByteArray) (ha : isWordB a = true) (hb : isWordB b = true) (hs : a.size = b.size) (hp : a.data.toList.Perm b.data.toList) : cntV a t = cntV b t := by
  have a8 := ((word_iff a).mp ha).1
  unfold cntV
  rw [ha, hb]
  have e := run_count a (bt t 0) (by omega) a.size 0 0 (by omega) (by omega) (by omega)
  have f := run_count b (bt t 0) (by omega) b.size 0 0 (by omega) (by omega) (by omega)
  rw [e, f, List.drop_zero, List.drop_zero, (hp.filter (eqc (bt t 0))).length_eq]
theorem before_tri (a b : ByteArray) : ∃ p q, impl_BeforeWord.f a b = some p ∧ impl_BeforeWord.f b a = some q ∧ (p && q) = false ∧ (p = false → q = false → a = b) := by
  unfold impl_BeforeWord.f
  by_cases h : (a.size : Int) = (b.size : Int)
  · rw [if_pos h, if_pos h.symm]
    refine ⟨_, _, rfl, rfl, ?_, ?_⟩
    · rw [Go.Proofs.bytesLess_eq, Go.Proofs.bytesLess_eq]
      by_cases h1 : a.toList < b.toList
      · have : ¬ b.toList < a.toList := fun h2 => List.lt_irrefl _ (List.lt_trans h1 h2)
        simp [this]
      · simp [h1]
    · rw [Go.Proofs.bytesLess_eq, Go.Proofs.bytesLess_eq]
      intro h1 h2
      simp only [decide_eq_false_iff_not, List.not_lt] at h1 h2
      exact ba_ext.mp (List.le_antisymm h2 h1)
  · rw [if_neg h, if_neg (fun e => h e.symm)]
    refine ⟨_, _, rfl, rfl, ?_, ?_⟩
    · by_cases h1 : (a.size : Int) < b.size
      · have : ¬ (b.size : Int) < a.size := by omega
        simp [this]
      · simp only [h1, decide_false, Bool.false_and]
    · intro h1 h2
      simp only [decide_eq_false_iff_not] at h1 h2
      omega
theorem wraps62 (n : Int) (h0 : 0 ≤ n) (h1 : n < 2 ^ 62) : IntKind.i64.wrap n = n := by
  rw [IntKind.wrap_i64]
  omega
theorem and127 (c : Int) (h0 : 0 ≤ c) (h1 : c < 2 ^ 62) : Go.bits .and .i64 c 127 = c % 128 := bits_mask .i64 62 (by decide) wraps62 7 (by decide) c h0 h1
theorem or_low (n s : Int) (j : Nat) (hj : j ≤ 62) (h0 : 0 ≤ n) (h1 : n < 2 ^ j) (hs0 : 0 ≤ s) (hs : s % 2 ^ j = 0) (hs1 : s < 2 ^ 62) : Go.bits .or .i64 n s = n + s := by
  have hn : n < 2 ^ 62 := Int.lt_of_lt_of_le h1 (by have h := Nat.pow_le_pow_right (show 0 < 2 by decide) hj; exact_mod_cast h)
  have e := bits_join .i64 62 (by decide) wraps62 j s n hs0 hs hs1 h0 h1 hn
  obtain ⟨a, rfl⟩ := Int.eq_ofNat_of_zero_le h0
  obtain ⟨b, rfl⟩ := Int.eq_ofNat_of_zero_le hs0
  have ha : a < 2 ^ 62 := by exact_mod_cast hn
  have hb : b < 2 ^ 62 := by exact_mod_cast hs1
  rw [(bits_nat .i64 62 (by decide) wraps62 a b ha hb).2]
  rw [(bits_nat .i64 62 (by decide) wraps62 b a hb ha).2] at e
  rw [Nat.or_comm, e]
  omega
/-- What a byte adds to a varint's number. -/
theorem comb_eq (n c : Int) (i : Nat) (hi : i < 6) (h0 : 0 ≤ n) (h1 : n < 2 ^ (7 * i)) (hc : 0 ≤ c ∧ c ≤ 255) :
    Go.bits .or .i64 n (shl .i64 (Go.bits .and .i64 c 127) (7 * (i : Int))) = n + c % 128 * 2 ^ (7 * i) := by
  rw [and127 c hc.1 (by omega)]
  have hm : 0 ≤ c % 128 ∧ c % 128 < 128 := ⟨by omega, by omega⟩
  generalize c % 128 = m at hm
  have e : shl .i64 m (7 * (i : Int)) = m * 2 ^ (7 * i) := by
    unfold shl
    have : min (7 * (i : Int)).toNat IntKind.i64.bits = 7 * i := by
      show min (7 * (i : Int)).toNat 64 = 7 * i
      omega
    rw [this]
    have hi' : i = 0 ∨ i = 1 ∨ i = 2 ∨ i = 3 ∨ i = 4 ∨ i = 5 := by omega
    rcases hi' with rfl | rfl | rfl | rfl | rfl | rfl <;> exact wraps62 _ (by simp; omega) (by simp; omega)
  rw [e]
  have hi' : i = 0 ∨ i = 1 ∨ i = 2 ∨ i = 3 ∨ i = 4 ∨ i = 5 := by omega
  refine or_low n _ (7 * i) (by omega) h0 h1 (by rcases hi' with rfl | rfl | rfl | rfl | rfl | rfl <;> simp <;> omega) (Int.mul_emod_left _ _) ?_
  rcases hi' with rfl | rfl | rfl | rfl | rfl | rfl <;> simp <;> omega
theorem and_mask (x : Int) (m : Nat) (hm : m < 2 ^ 31) : 0 ≤ Go.bits .and .i64 x m ∧ Go.bits .and .i64 x m ≤ m := by
  have h : (BitVec.ofInt 64 x &&& BitVec.ofInt 64 (m : Int)).toNat ≤ m := by
    rw [BitVec.toNat_and]
    refine Nat.le_trans Nat.and_le_right ?_
    rw [BitVec.ofInt_natCast, BitVec.toNat_ofNat]
    exact Nat.mod_le _ _
  have e : Go.bits .and .i64 x m = (((BitVec.ofInt 64 x &&& BitVec.ofInt 64 (m : Int)).toNat : Nat) : Int) := by
    simp only [Go.bits]
    show IntKind.i64.wrap (((BitVec.ofInt 64 x &&& BitVec.ofInt 64 (m : Int)).toNat : Nat) : Int) = _
    exact wraps62 _ (by omega) (by omega)
  rw [e]
  omega
def rdStep (l : List Int) (a : Int) (i : Nat) (n : Int) : (Int × Int × Bool) ⊕ Int :=
  if a + i ≥ l.length then .inl (0, 0, false)
  else if rd l (a + i) < 128 then
    if (0 < i ∧ rd l (a + i) = 0) ∨ Go.bits .or .i64 n (shl .i64 (Go.bits .and .i64 (rd l (a + i)) 127) (7 * i)) > 1000000000000 then .inl (0, 0, false)
    else .inl (Go.bits .or .i64 n (shl .i64 (Go.bits .and .i64 (rd l (a + i)) 127) (7 * i)), a + i + 1, true)
  else .inr (Go.bits .or .i64 n (shl .i64 (Go.bits .and .i64 (rd l (a + i)) 127) (7 * i)))
/-- What both ReadUvarint come to. -/
def readU (l : List Int) (a : Int) : Int × Int × Bool :=
  if 0 ≤ a ∧ a < l.length then runL (rdStep l a) (fun _ => (0, 0, false)) 6 0 0 else (0, 0, false)
theorem u8_bd {l : List Int} (h : ∀ x ∈ l, (Lit.int .u8 x).wf = true) (j : Int) : 0 ≤ rd l j ∧ rd l j ≤ 255 := by
  unfold rd
  rw [List.getD_eq_getElem?_getD]
  by_cases hj : j.toNat < l.length
  · rw [List.getElem?_eq_getElem hj]
    exact u8_bds (h _ (List.getElem_mem _))
  · rw [List.getElem?_eq_none (by omega)]
    exact ⟨Int.le_refl 0, by decide⟩
/-- The cursor: what it reads, where it stands. -/
theorem byte_ok (b : List Int) (hb : b.length ≤ 140737488351232) (i h : Int) (hi : 0 ≤ i) : ∃ v i' h', spec_l1Byte.f b i h = some (v, i', h') ∧ 0 ≤ v ∧ v ≤ 255 ∧ 0 ≤ i' := by
  unfold spec_l1Byte.f
  by_cases h1 : i < b.length
  · rw [if_pos h1, if_pos hi]
    refine ⟨_, _, _, rfl, (and_mask _ 255 (by decide)).1, (and_mask _ 255 (by decide)).2, ?_⟩
    unfold wrap64
    omega
  · rw [if_neg h1]
    exact ⟨_, _, _, rfl, (and_mask _ 255 (by decide)).1, (and_mask _ 255 (by decide)).2, hi⟩
theorem below_ok (b : List Int) (hb : b.length ≤ 140737488351232) (i h n : Int) (hi : 0 ≤ i) : ∃ v i' h', spec_l1Below.f b i h n = some (v, i', h') ∧ 0 ≤ v ∧ (0 < n → v < n) ∧ (n ≤ 0 → v = 0) ∧ 0 ≤ i' := by
  unfold spec_l1Below.f
  by_cases h1 : n ≤ 0
  · rw [if_pos h1]
    exact ⟨_, _, _, rfl, Int.le_refl _, fun h => by omega, fun _ => rfl, hi⟩
  · rw [if_neg h1]
    by_cases h2 : n ≤ 256
    · rw [if_pos h2]
      obtain ⟨v, i', h', e, v0, v1, i0⟩ := byte_ok b hb i h hi
      rw [e]
      simp only [Option.bind_some]
      rw [if_neg (by omega)]
      have t := tmod_bd v (b := n) (by omega)
      exact ⟨_, _, _, rfl, by rw [Int.tmod_eq_emod_of_nonneg v0]; exact Int.emod_nonneg _ (by omega), fun _ => t.2, fun h => by omega, i0⟩
    · rw [if_neg h2]
      obtain ⟨x, i1, h1', e1, x0, x1, j1⟩ := byte_ok b hb i h hi
      rw [e1]
      simp only [Option.bind_some]
      obtain ⟨y, i2, h2', e2, y0, y1, j2⟩ := byte_ok b hb i1 h1' j1
      rw [e2]
      simp only [Option.bind_some]
      obtain ⟨z, i3, h3', e3, z0, z1, j3⟩ := byte_ok b hb i2 h2' j2
      rw [e3]
      simp only [Option.bind_some]
      rw [if_neg (by omega)]
      have q : wrap64 (wrap64 (wrap64 (x * 65536) + wrap64 (y * 256)) + z) = x * 65536 + y * 256 + z := by
        have q1 : wrap64 (x * 65536) = x * 65536 := by unfold wrap64; omega
        have q2 : wrap64 (y * 256) = y * 256 := by unfold wrap64; omega
        rw [q1, q2]
        have q3 : wrap64 (x * 65536 + y * 256) = x * 65536 + y * 256 := by unfold wrap64; omega
        rw [q3]
        unfold wrap64
        omega
      rw [q]
      have t := tmod_bd (x * 65536 + y * 256 + z) (b := n) (by omega)
      exact ⟨_, _, _, rfl, by rw [Int.tmod_eq_emod_of_nonneg (by omega)]; exact Int.emod_nonneg _ (by omega), fun _ => t.2, fun h => by omega, j3⟩
theorem new_loop (b : List Int) (hb : b.length ≤ 140737488351232) : ∀ (d k : Nat) (i : Nat) (h : Int), (b.length - i : Nat) = d → i ≤ b.length → d < k → ∃ h', spec_l1New.l0 k b h (i : Int) = some (b, 0, h') := by
  intro d
  induction d with
  | zero =>
    intro k i h hd hi hk
    obtain ⟨k, rfl⟩ : ∃ m, k = m + 1 := ⟨k - 1, by omega⟩
    simp only [spec_l1New.l0]
    rw [if_neg (by omega)]
    exact ⟨_, rfl⟩
  | succ d ih =>
    intro k i h hd hi hk
    obtain ⟨k, rfl⟩ : ∃ m, k = m + 1 := ⟨k - 1, by omega⟩
    simp only [spec_l1New.l0]
    rw [if_pos (by omega)]
    by_cases h4 : (i : Int) < 4000
    · rw [if_pos h4, if_pos (by omega), wrap_nat (n := b.length) (by omega) hb]
      exact ih k (i + 1) _ (by omega) (by omega) (by omega)
    · rw [if_neg h4]
      exact ⟨_, rfl⟩
theorem new_ok (k : Nat) (b : List Int) (hb : b.length ≤ 140737488351232) (hk : b.length < k) : ∃ h, spec_l1New.f k b = some (b, 0, h) := by
  unfold spec_l1New.f
  exact new_loop b hb b.length k 0 _ (by omega) (by omega) hk
theorem str_ok (b : List Int) (hb : b.length ≤ 140737488351232) (i h : Int) (l : List ByteArray) (hl : 0 < l.length) (hi : 0 ≤ i) : ∃ v i' h', spec_l1Str.f b i h l = some (v, i', h') ∧ v ∈ l ∧ 0 ≤ i' := by
  unfold spec_l1Str.f
  obtain ⟨v, i', h', e, v0, v1, _, i0⟩ := below_ok b hb i h (l.length : Int) hi
  rw [e]
  simp only [Option.bind_some]
  have := v1 (by omega)
  rw [if_pos v0, if_pos this]
  refine ⟨_, _, _, rfl, ?_, i0⟩
  unfold rdOf
  rw [List.getD_eq_getElem?_getD, List.getElem?_eq_getElem (by omega)]
  exact List.getElem_mem _
theorem once_ok (b : List Int) (hb : b.length ≤ 140737488351232) (i h n : Int) (hi : 0 ≤ i) : ∃ v i' h', spec_l1Once.f b i h n = some (v, i', h') ∧ 0 ≤ i' := by
  unfold spec_l1Once.f
  obtain ⟨v, i', h', e, _, _, _, i0⟩ := below_ok b hb i h n hi
  rw [e]
  exact ⟨_, _, _, rfl, i0⟩
theorem word4_ok (b : List Int) (hb : b.length ≤ 140737488351232) (i h : Int) (hi : 0 ≤ i) : ∃ v i' h', spec_l4Word.f b i h = some (v, i', h') ∧ v.size ≤ 5 ∧ 0 ≤ i' := by
  unfold spec_l4Word.f
  obtain ⟨l, el, hl, hs⟩ : ∃ l, spec_l4Words.f = some l ∧ 0 < l.length ∧ ∀ v ∈ l, v.size ≤ 5 := by
    refine ⟨_, rfl, by decide, ?_⟩
    simp only [List.mem_cons, List.not_mem_nil, or_false]
    intro v hv
    repeat' (rcases hv with rfl | hv)
    all_goals first | decide | (subst hv; decide)
  rw [el]
  simp only [Option.bind_some]
  obtain ⟨v, i1, h1, e, hm, j1⟩ := str_ok b hb i h l hl hi
  rw [e]
  simp only [Option.bind_some]
  exact ⟨_, _, _, rfl, hs v hm, j1⟩
theorem any4_ok (b : List Int) (hb : b.length ≤ 140737488351232) (i h : Int) (hi : 0 ≤ i) : ∃ v i' h', spec_l4Any.f b i h = some (v, i', h') ∧ v.size ≤ 10 ∧ 0 ≤ i' := by
  unfold spec_l4Any.f
  obtain ⟨v, i1, h1, e, hm, j1⟩ := word4_ok b hb i h hi
  rw [e]
  simp only [Option.bind_some]
  rw [if_pos (by omega)]
  obtain ⟨u, i2, h2, e2, hm2, j2⟩ := str_ok b hb i1 h1 [v, v, v, v, v, (⟨#[]⟩ : ByteArray), (⟨#[65]⟩ : ByteArray), (⟨#[97, 32, 98]⟩ : ByteArray), (⟨#[116, 111, 111, 108, 111, 110, 103, 101, 114]⟩ : ByteArray), (⟨#[116, 111, 111, 108, 111, 110, 103]⟩ : ByteArray), v ++ (⟨#[63]⟩ : ByteArray), (⟨#[122]⟩ : ByteArray)] (by simp) j1
  rw [e2]
  simp only [Option.bind_some]
  refine ⟨_, _, _, rfl, ?_, j2⟩
  have hz : (v ++ (⟨#[63]⟩ : ByteArray)).size = v.size + 1 := by
    rw [ByteArray.size_append]
    rfl
  simp only [List.mem_cons, List.not_mem_nil, or_false] at hm2
  rcases hm2 with rfl | rfl | rfl | rfl | rfl | rfl | rfl | rfl | rfl | rfl | rfl | rfl
  all_goals first | omega | decide
theorem drawRearr (K : Nat) (l : List Int) (hb : l.length ≤ 140737488351232) (hk : l.length + 50 < K) : ∃ a b, spec_DrawIsRearranged.f K l = some (a, b) ∧ a.size ≤ 10 ∧ b.size ≤ 10 := by
  unfold spec_DrawIsRearranged.f
  obtain ⟨h0, e0⟩ := new_ok K l hb (by omega)
  rw [e0]
  simp only [Option.bind_some]
  obtain ⟨a, i1, h1, e1, sa, j1⟩ := any4_ok l hb 0 h0 (by omega)
  rw [e1]
  simp only [Option.bind_some]
  obtain ⟨o, i2, h2, e2, j2⟩ := once_ok l hb i1 h1 3 j1
  rw [e2]
  simp only [Option.bind_some]
  cases o
  · rw [if_neg (by decide)]
    obtain ⟨b, i3, h3, e3, sb, _⟩ := any4_ok l hb i2 h2 j2
    rw [e3]
    exact ⟨a, b, rfl, sa, sb⟩
  · rw [if_pos rfl, specBack K a (by omega) (by omega), if_pos (by omega)]
    refine ⟨_, _, rfl, sa, ?_⟩
    rw [backAcc_size a a.size (Nat.le_refl _)]
    exact sa
theorem drawBefore (K : Nat) (l : List Int) (hb : l.length ≤ 140737488351232) (hk : l.length + 50 < K) : ∃ a b, spec_DrawBeforeWord.f K l = some (a, b) := by
  unfold spec_DrawBeforeWord.f
  obtain ⟨h0, e0⟩ := new_ok K l hb (by omega)
  rw [e0]
  simp only [Option.bind_some]
  obtain ⟨a, i1, h1, e1, sa, j1⟩ := any4_ok l hb 0 h0 (by omega)
  rw [e1]
  simp only [Option.bind_some]
  obtain ⟨b, i3, h3, e3, sb, _⟩ := any4_ok l hb i1 h1 j1
  rw [e3]
  exact ⟨a, b, rfl⟩
theorem words_j2 (K : Nat) (l : List Int) (hb : l.length ≤ 140737488351232) (hk : l.length + 50 < K) : laws_FnWords.j2 (K + 1) l false = some true := by
  simp only [laws_FnWords.j2]
  rw [if_neg (by decide)]
  obtain ⟨a, b, e⟩ := drawBefore K l hb hk
  rw [e]
  obtain ⟨p, q, ep, eq, h1, h2⟩ := before_tri a b
  simp only [Option.bind_some, ep, eq]
  cases p <;> cases q
  · have := h2 rfl rfl
    subst this
    simp
  · simp
  · simp
  · simp at h1
theorem words_j1 (K : Nat) (l : List Int) (hb : l.length ≤ 140737488351232) (hk : l.length + 50 < K) : laws_FnWords.j1 (K + 1 + 1) l false = some true := by
  obtain ⟨J, hJ⟩ : ∃ J, J = K + 1 := ⟨_, rfl⟩
  rw [← hJ]
  simp only [laws_FnWords.j1]
  rw [if_neg (by decide)]
  obtain ⟨a, b, e, sa, sb⟩ := drawRearr J l hb (by omega)
  rw [e]
  simp only [Option.bind_some]
  rw [implRearr J a b (by omega) (by omega) (by omega) (by omega), implRearr J b a (by omega) (by omega) (by omega) (by omega), implRearr J a a (by omega) (by omega) (by omega) (by omega), rearr_symm b a, rearr_self]
  have J2 := words_j2 K l hb hk
  rw [← hJ] at J2
  simp only [Option.bind_some, bne_self_eq_false, Bool.false_eq_true, if_false]
  cases h : rearrB a b
  · rw [if_neg (by decide)]
    exact J2
  · rw [if_pos rfl]
    obtain ⟨wa, wb, hs, hp⟩ := rearr_true h
    rw [if_pos (by omega), implCount J a _ (by omega) (by omega), implCount J b _ (by omega) (by omega), cnt_perm _ wa wb hs hp]
    simp only [Option.bind_some, bne_self_eq_false]
    exact J2
theorem words_j0 (K : Nat) (l : List Int) (v : ByteArray) (hv : v.size ≤ 10) (hb : l.length ≤ 140737488351232) (hk : l.length + 50 < K) : laws_FnWords.j0 (K + 1 + 1 + 1) l v false = some true := by
  obtain ⟨J, hJ⟩ : ∃ J, J = K + 1 + 1 := ⟨_, rfl⟩
  rw [← hJ]
  simp only [laws_FnWords.j0]
  rw [if_neg (by decide)]
  have J1 := words_j1 K l hb hk
  rw [← hJ] at J1
  have hr := rev8_size v
  rw [implSort J v (by omega) (by omega), implIsWord_eq v (by omega) J (by omega), back_small v (by omega)]
  simp only [Option.bind_some]
  rw [implSort J (rev8 v) (by omega) (by omega), word_rev8, sortV_rev8]
  simp only [Option.bind_some]
  cases h : isWordB v
  · have e : ((⟨#[]⟩ : ByteArray).toList != []) = false := by
      rw [ByteArray.toList_eq]
      rfl
    simp only [Bool.false_eq_true, if_false, e]
    exact J1
  · simp only [if_true]
    rw [if_pos (by rw [sortV_size v h])]
    exact J1
theorem FnWords : laws_FnWords.Pure := by
  intro l _ hb _
  refine ⟨l.length + 200, ?_⟩
  unfold laws_FnWords.f laws_big.f
  simp only [Option.bind_some, decide_eq_true_eq]
  by_cases h : (l.length : Int) > 1048576
  · rw [if_pos h]
  rw [if_neg h]
  unfold spec_DrawIsWord.f
  obtain ⟨h0, e0⟩ := new_ok (l.length + 200) l (by omega) (by omega)
  rw [e0]
  simp only [Option.bind_some]
  obtain ⟨v, i1, h1, e1, sv, j1⟩ := any4_ok l (by omega) 0 h0 (by omega)
  rw [e1]
  simp only [Option.bind_some]
  have hr := rev8_size v
  rw [back_small v (by omega)]
  simp only [Option.bind_some]
  rw [back_small (rev8 v) (by omega), rev8_rev8]
  simp only [Option.bind_some, if_true]
  rw [implIsWord_eq v (by omega) _ (by omega), implIsWord_eq (rev8 v) (by omega) _ (by omega), word_rev8]
  simp only [Option.bind_some, bne_self_eq_false]
  exact words_j0 (l.length + 197) l v sv (by omega) (by omega)
end Go.Proofs.Ytgnpindamkgggaa.Pure
