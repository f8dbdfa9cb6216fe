/- The law FnExactMeetPatterns answers true for every two strings. No condition. -/
import Derived.Test.YtgnpindamkgggaaPFnExactMeetPatternsx2
namespace Go.Proofs.Ytgnpindamkgggaa.Pure
open Go.RowKit Go.Proofs.Ytgnpindamkgggaa.PFnExactMeetPatterns Go.Proofs.YtgnpindamkgggaaW.PrintWords Go.Proofs.YtgnpindamkgggaaW.PrintLast Go.Proofs.YtgnpindamkgggaaW.PrintMore
set_option linter.unusedVariables false
set_option linter.unusedSimpArgs false
theorem inr (a b c : Int) : impl_InRange.f a b c = some (decide (b ≤ a ∧ a ≤ c)) := by
  unfold impl_InRange.f
  by_cases h : b ≤ a <;> simp [h]
theorem l1in (a b c : Int) : spec_l1In.f a b c = some (decide (b ≤ a ∧ a ≤ c)) := by
  unfold spec_l1In.f
  by_cases h : b ≤ a <;> simp [h]
theorem wrap_nat {m n : Nat} (h : m < n) (hn : n ≤ 140737488351232) : wrap64 ((m : Int) + 1) = ((m + 1 : Nat) : Int) := by
  unfold wrap64
  omega
theorem getD_set_self {α : Type} (l : List α) (i j : Nat) (v d : α) : (l.set i v).getD j d = if i = j ∧ i < l.length then v else l.getD j d := by
  simp only [List.getD_eq_getElem?_getD, List.getElem?_set]
  by_cases h : i = j
  · subst h
    by_cases h2 : i < l.length
    · simp [h2]
    · simp [h2]
  · simp [h]
theorem ext_getD {α : Type} (a b : List α) (d : α) (hl : a.length = b.length) (h : ∀ j, j < b.length → a.getD j d = b.getD j d) : a = b := by
  refine List.ext_getElem hl fun j h1 h2 => ?_
  have := h j h2
  simpa [List.getD_eq_getElem?_getD, List.getElem?_eq_getElem h1, List.getElem?_eq_getElem h2] using this
theorem copy_loop {α : Type} (F : Nat → Nat → List α → Option (List α)) (x0 : List α) (dv : α)
    (hend : ∀ k s, s.length = x0.length → F (k + 1) x0.length s = some s)
    (hstep : ∀ k i s, i < x0.length → s.length = x0.length → F (k + 1) i s = F k (i + 1) (s.set i (x0.getD i dv))) :
    ∀ (d k i : Nat) (s : List α), i + d = x0.length → d < k → s.length = x0.length → (∀ j, j < i → s.getD j dv = x0.getD j dv) → F k i s = some x0 := by
  intro d
  induction d with
  | zero =>
    intro k i s hi hk hs hj
    obtain ⟨k, rfl⟩ : ∃ m, k = m + 1 := ⟨k - 1, by omega⟩
    obtain rfl : i = x0.length := by omega
    rw [hend k s hs, ext_getD s x0 dv hs hj]
  | succ d ih =>
    intro k i s hi hk hs hj
    obtain ⟨k, rfl⟩ : ∃ m, k = m + 1 := ⟨k - 1, by omega⟩
    rw [hstep k i s (by omega) hs]
    refine ih k (i + 1) _ (by omega) (by omega) (by simpa using hs) fun j h => ?_
    rw [getD_set_self]
    by_cases e : i = j
    · subst e
      rw [if_pos ⟨rfl, by omega⟩]
    · rw [if_neg (fun h => e h.1)]
      exact hj j (by omega)
theorem eq_loop {α : Type} [DecidableEq α] (F : Nat → Nat → Option Bool) (x0 x1 : List α) (dv : α) (hl : x0.length = x1.length)
    (hend : ∀ k, F (k + 1) x0.length = some true)
    (hstep : ∀ k i, i < x0.length → F (k + 1) i = if x0.getD i dv = x1.getD i dv then F k (i + 1) else some false) :
    ∀ (d k i : Nat), i + d = x0.length → d < k → F k i = some (decide (x0.drop i = x1.drop i)) := by
  intro d
  induction d with
  | zero =>
    intro k i hi hk
    obtain ⟨k, rfl⟩ : ∃ m, k = m + 1 := ⟨k - 1, by omega⟩
    obtain rfl : i = x0.length := by omega
    rw [hend]
    simp [hl]
  | succ d ih =>
    intro k i hi hk
    obtain ⟨k, rfl⟩ : ∃ m, k = m + 1 := ⟨k - 1, by omega⟩
    have h0 : i < x0.length := by omega
    have h1 : i < x1.length := by omega
    rw [hstep k i h0, ih k (i + 1) (by omega) (by omega), List.drop_eq_getElem_cons h0, List.drop_eq_getElem_cons h1]
    simp only [List.getD_eq_getElem?_getD, List.getElem?_eq_getElem h0, List.getElem?_eq_getElem h1, Option.getD_some, List.cons.injEq]
    by_cases e : x0[i] = x1[i] <;> simp [e]
theorem mark_loop {α : Type} (F : Nat → Nat → List α → Option (Int × List α)) (n : Nat) (val : Nat → α)
    (hend : ∀ k s, s.length = n → F (k + 1) n s = some (1 + (n : Int), s))
    (hstep : ∀ k i s, i < n → s.length = n → F (k + 1) i s = F k (i + 1) (s.set i (val i))) (dv : α) :
    ∀ (d k i : Nat) (s : List α), i + d = n → d < k → s.length = n → (∀ j, j < i → s.getD j dv = val j) → F k i s = some (1 + (n : Int), (List.range n).map val) := by
  intro d
  induction d with
  | zero =>
    intro k i s hi hk hs hj
    obtain ⟨k, rfl⟩ : ∃ m, k = m + 1 := ⟨k - 1, by omega⟩
    obtain rfl : i = n := by omega
    rw [hend k s hs]
    have e : s = (List.range i).map val := ext_getD s _ dv (by simpa using hs) fun j h => by
      have h' : j < i := by simpa using h
      rw [hj j h']
      simp [List.getD_eq_getElem?_getD, h']
    rw [← e]
  | succ d ih =>
    intro k i s hi hk hs hj
    obtain ⟨k, rfl⟩ : ∃ m, k = m + 1 := ⟨k - 1, by omega⟩
    rw [hstep k i s (by omega) hs]
    refine ih k (i + 1) _ (by omega) (by omega) (by simpa using hs) fun j h => ?_
    rw [getD_set_self]
    by_cases e : i = j
    · subst e
      rw [if_pos ⟨rfl, by omega⟩]
    · rw [if_neg (fun h => e h.1)]
      exact hj j (by omega)
theorem held_loop (F : Nat → Nat → Option Int) (n : Nat)
    (hend : ∀ k, F (k + 1) n = some (1 + (n : Int)))
    (hstep : ∀ k i, i < n → F (k + 1) i = F k (i + 1)) :
    ∀ (d k i : Nat), i + d = n → d < k → F k i = some (1 + (n : Int)) := by
  intro d
  induction d with
  | zero =>
    intro k i hi hk
    obtain ⟨k, rfl⟩ : ∃ m, k = m + 1 := ⟨k - 1, by omega⟩
    obtain rfl : i = n := by omega
    exact hend k
  | succ d ih =>
    intro k i hi hk
    obtain ⟨k, rfl⟩ : ∃ m, k = m + 1 := ⟨k - 1, by omega⟩
    rw [hstep k i (by omega)]
    exact ih k (i + 1) (by omega) (by omega)
/-- A loop that counts up, told by its step. -/
def runL {σ ρ : Type} (step : Nat → σ → ρ ⊕ σ) (fin : σ → ρ) : Nat → Nat → σ → ρ
  | 0, _, s => fin s
  | d + 1, i, s => match step i s with
    | .inl r => r
    | .inr s' => runL step fin d (i + 1) s'
theorem loop_run {σ ρ : Type} (F : Nat → Nat → σ → Option ρ) (n : Nat) (step : Nat → σ → ρ ⊕ σ) (fin : σ → ρ) (Inv : Nat → σ → Prop)
    (hend : ∀ k s, Inv n s → F (k + 1) n s = some (fin s))
    (hstep : ∀ k i s, i < n → Inv i s → F (k + 1) i s = match step i s with
      | .inl r => some r
      | .inr s' => F k (i + 1) s')
    (hinv : ∀ i s s', i < n → Inv i s → step i s = .inr s' → Inv (i + 1) s') :
    ∀ (d k i : Nat) (s : σ), i + d = n → d < k → Inv i s → F k i s = some (runL step fin d i s) := by
  intro d
  induction d with
  | zero =>
    intro k i s hi hk hs
    obtain ⟨k, rfl⟩ : ∃ m, k = m + 1 := ⟨k - 1, by omega⟩
    obtain rfl : i = n := by omega
    exact hend k s hs
  | succ d ih =>
    intro k i s hi hk hs
    obtain ⟨k, rfl⟩ : ∃ m, k = m + 1 := ⟨k - 1, by omega⟩
    rw [hstep k i s (by omega) hs]
    unfold runL
    cases e : step i s with
    | inl r => rfl
    | inr s' => exact ih k (i + 1) s' (by omega) (by omega) (hinv i s s' (by omega) hs e)
theorem one_neg (n : Nat) : (1 + (n : Int) < 0) = False := by
  simp
  omega
theorem u8_bds {n : Int} (h : (Lit.int .u8 n).wf = true) : 0 ≤ n ∧ n ≤ 255 := by
  simp [Lit.wf, IntKind.min, IntKind.max, IntKind.signed, IntKind.bits] at h
  omega
theorem i64_bds {n : Int} (h : (Lit.int .i64 n).wf = true) : -9223372036854775808 ≤ n ∧ n ≤ 9223372036854775807 := by
  simp [Lit.wf, IntKind.min, IntKind.max, IntKind.signed, IntKind.bits] at h
  omega
theorem tmod_bd (a : Int) {b : Int} (hb : 0 < b) : -b < Int.tmod a b ∧ Int.tmod a b < b := by
  by_cases h : 0 ≤ a
  · rw [Int.tmod_eq_emod_of_nonneg h]
    have := Int.emod_nonneg a (show b ≠ 0 by omega)
    have := Int.emod_lt_of_pos a hb
    omega
  · have e : Int.tmod a b = -(Int.tmod (-a) b) := by rw [Int.neg_tmod]; omega
    rw [e, Int.tmod_eq_emod_of_nonneg (by omega)]
    have := Int.emod_nonneg (-a) (show b ≠ 0 by omega)
    have := Int.emod_lt_of_pos (-a) hb
    omega
theorem size_list (s : ByteArray) : s.data.toList.length = s.size := Array.length_toList
theorem bt_list (s : ByteArray) (i : Nat) (h : i < s.data.toList.length) : bt s (i : Int) = ((s.data.toList[i]).toNat : Int) := by
  have h' : ((i : Int)).toNat < s.size := by rw [size_list] at h; omega
  rw [← bt_at s i h']
  rfl
def allF (f : Int → Bool) : Nat → Int → Bool
  | 0, _ => true
  | d + 1, i => f i && allF f d (i + 1)
theorem wrap_up {i n : Int} (h0 : 0 ≤ i) (h : i < n) (hn : n ≤ 140737488351232) : wrap64 (i + 1) = i + 1 := by
  unfold wrap64
  omega
def letB (c : Int) : Bool := decide (97 ≤ c ∧ c ≤ 122)
def isWordB (s : ByteArray) : Bool := decide (1 ≤ s.size ∧ s.size ≤ 8) && allF (fun i => letB (bt s i)) s.size 0
theorem isLetter_eq (c : Int) : impl_isLetter.f c = some (letB c) := by
  unfold impl_isLetter.f letB
  by_cases h : c ≥ 97 <;> simp [h]
def patB (c : Int) : Bool := decide (c = 63) || letB c
def isPatB (s : ByteArray) : Bool := decide (1 ≤ s.size ∧ s.size ≤ 8) && allF (fun i => patB (bt s i)) s.size 0
theorem specIsPattern_l0 (s : ByteArray) (hn : (s.size : Int) ≤ 140737488351232) : ∀ (d k : Nat) (i : Int), 0 ≤ i → (s.size : Int) - i = d → d < k →
    spec_IsPattern.l0 k s i = some (allF (fun i => patB (bt s i)) d i) := by
  intro d
  induction d with
  | zero =>
    intro k i h0 hd hk
    obtain ⟨k, rfl⟩ : ∃ m, k = m + 1 := ⟨k - 1, by omega⟩
    simp only [spec_IsPattern.l0]
    rw [if_neg (by omega)]
    rfl
  | succ d ih =>
    intro k i h0 hd hk
    obtain ⟨k, rfl⟩ : ∃ m, k = m + 1 := ⟨k - 1, by omega⟩
    have hlt : i < (s.size : Int) := by omega
    simp only [spec_IsPattern.l0]
    rw [if_pos hlt, if_pos h0, wrap_up h0 hlt hn, ih k (i + 1) (by omega) (by omega) (by omega)]
    simp only [allF, patB, letB]
    by_cases h0 : bt s i = 63
    · simp [h0]
    · by_cases h1 : bt s i < 97
      · simp [h0, h1, show ¬ 97 ≤ bt s i by omega]
      · by_cases h2 : bt s i > 122
        · simp [h0, h1, h2, show ¬ bt s i ≤ 122 by omega]
        · simp [h0, h1, h2, show 97 ≤ bt s i by omega, show bt s i ≤ 122 by omega]
theorem specIsPattern_eq (s : ByteArray) (hn : s.size ≤ 140737488351232) (k : Nat) (hk : s.size < k) : spec_IsPattern.f k s = some (isPatB s) := by
  unfold spec_IsPattern.f isPatB
  rw [l1in, specIsPattern_l0 s (by omega) s.size k 0 (by omega) (by omega) hk]
  simp only [Option.bind_some]
  by_cases h : 1 ≤ s.size ∧ s.size ≤ 8
  · rw [if_pos (by simp; omega)]
    simp [h]
  · rw [if_neg (by simp; omega)]
    simp [h]
theorem implIsPattern_l0 (s : ByteArray) (hn : (s.size : Int) ≤ 140737488351232) : ∀ (d k : Nat) (i : Int), 0 ≤ i → (s.size : Int) - i = d → d < k →
    impl_IsPattern.l0 k s (s.size : Int) i = some (allF (fun i => patB (bt s i)) d i) := by
  intro d
  induction d with
  | zero =>
    intro k i h0 hd hk
    obtain ⟨k, rfl⟩ : ∃ m, k = m + 1 := ⟨k - 1, by omega⟩
    simp only [impl_IsPattern.l0]
    rw [if_neg (by omega)]
    rfl
  | succ d ih =>
    intro k i h0 hd hk
    obtain ⟨k, rfl⟩ : ∃ m, k = m + 1 := ⟨k - 1, by omega⟩
    have hlt : i < (s.size : Int) := by omega
    simp only [impl_IsPattern.l0]
    rw [if_pos hlt, if_pos h0, if_pos hlt, wrap_up h0 hlt hn, ih k (i + 1) (by omega) (by omega) (by omega), isLetter_eq]
    simp only [allF, patB, Option.bind_some]
    by_cases h0 : bt s i = 63
    · simp [h0]
    · cases letB (bt s i) <;> simp [h0]
theorem implIsPattern_eq (s : ByteArray) (hn : s.size ≤ 140737488351232) (k : Nat) (hk : s.size < k) : impl_IsPattern.f k s = some (isPatB s) := by
  unfold impl_IsPattern.f isPatB
  rw [inr, implIsPattern_l0 s (by omega) s.size k 0 (by omega) (by omega) hk]
  simp only [Option.bind_some]
  by_cases h : 1 ≤ s.size ∧ s.size ≤ 8
  · rw [if_pos (by simp; omega)]
    simp [h]
  · rw [if_neg (by simp; omega)]
    simp [h]
theorem app1 (s : ByteArray) (A : List UInt8) (i : Nat) (h : i < s.data.toList.length) : (⟨A.toArray⟩ : ByteArray) ++ s.extract i (i + 1) = ⟨(A ++ [s.data.toList[i]]).toArray⟩ := by
  apply ByteArray.ext
  apply Array.ext'
  simp only [ByteArray.data_append, ByteArray.data_extract, Array.toList_append, Array.toList_extract, List.extract_eq_take_drop]
  rw [show i + 1 - i = 1 by omega, List.drop_eq_getElem_cons h]
  rfl
def mixL (p q : ByteArray) : List UInt8 := List.zipWith (fun a b => if (a.toNat : Int) = 63 then b else a) p.data.toList q.data.toList
def meetOk (p q : ByteArray) (i : Int) : Bool := decide (bt p i = 63) || decide (bt q i = 63) || decide (bt q i = bt p i)
def meetV (p q : ByteArray) : ByteArray × Bool := if allF (meetOk p q) p.size 0 = true then (⟨(mixL p q).toArray⟩, true) else (⟨#[]⟩, false)
theorem mixL_length (p q : ByteArray) (h : p.size = q.size) : (mixL p q).length = p.size := by
  have hp := size_list p
  have hq := size_list q
  simp only [mixL, List.length_zipWith]
  omega
theorem mix_at (p q : ByteArray) (i : Nat) (hp : i < p.data.toList.length) (hq : i < q.data.toList.length) (h : i < (mixL p q).length) : (mixL p q)[i] = if bt p (i : Int) = 63 then q.data.toList[i] else p.data.toList[i] := by
  simp only [mixL, List.getElem_zipWith]
  rw [bt_list p i hp]
theorem specMeet_l0 (p q : ByteArray) (hs : p.size = q.size) (hn : p.size ≤ 1048576) : ∀ (d k i : Nat), i + d = p.size → 2 * d < k →
    spec_MeetPatterns.l0 k p q ⟨((mixL p q).take i).toArray⟩ (i : Int) = some (if allF (meetOk p q) d (i : Int) = true then (⟨(mixL p q).toArray⟩, true) else (⟨#[]⟩, false)) := by
  have hp := size_list p
  have hq := size_list q
  have hm := mixL_length p q hs
  intro d
  induction d with
  | zero =>
    intro k i hi hk
    obtain ⟨k, rfl⟩ : ∃ m, k = m + 1 := ⟨k - 1, by omega⟩
    simp only [spec_MeetPatterns.l0]
    rw [if_neg (by omega), List.take_of_length_le (by omega)]
    rfl
  | succ d ih =>
    intro k i hi hk
    obtain ⟨k, rfl⟩ : ∃ m, k = m + 1 + 1 := ⟨k - 2, by omega⟩
    obtain ⟨K, hK⟩ : ∃ K, K = k + 1 := ⟨_, rfl⟩
    have ip : i < p.data.toList.length := by omega
    have iq : i < q.data.toList.length := by omega
    have im : i < (mixL p q).length := by omega
    have hw : wrap64 ((i : Int) + 1) = ((i + 1 : Nat) : Int) := by unfold wrap64; omega
    have hx : (((i + 1 : Nat) : Int)).toNat = i + 1 := by omega
    have hy : ((i : Int)).toNat = i := by omega
    have hsz : (⟨((mixL p q).take i).toArray⟩ : ByteArray).size = i := by
      simp only [ByteArray.size, List.size_toArray, List.length_take]
      omega
    have ma := mix_at p q i ip iq im
    have tk : (mixL p q).take (i + 1) = (mixL p q).take i ++ [(mixL p q)[i]] := List.take_succ_eq_append_getElem im
    have J : spec_MeetPatterns.j2 K p q ⟨((mixL p q).take i).toArray⟩ (i : Int) false = spec_MeetPatterns.l0 k p q ⟨((mixL p q).take (i + 1)).toArray⟩ ((i + 1 : Nat) : Int) := by
      rw [hK]
      simp only [spec_MeetPatterns.j2, hw, hx, hy]
      rw [if_neg (by decide), if_pos (by omega), if_pos (by omega)]
      by_cases h : bt p (i : Int) = 63
      · rw [if_pos h] at ma
        rw [if_pos h, if_pos (by omega), if_pos (by omega), if_pos ?_, app1 q _ i iq, tk, ma]
        rw [hsz]
        simp only [ByteArray.size_extract]
        omega
      · rw [if_neg h] at ma
        rw [if_neg h, if_pos (by omega), if_pos (by omega), if_pos ?_, app1 p _ i ip, tk, ma]
        rw [hsz]
        simp only [ByteArray.size_extract]
        omega
    rw [← hK]
    simp only [spec_MeetPatterns.l0]
    rw [if_pos (by omega), if_pos (by omega)]
    have e : allF (meetOk p q) (d + 1) (i : Int) = (meetOk p q (i : Int) && allF (meetOk p q) d ((i + 1 : Nat) : Int)) := by
      simp only [allF]
      rw [show ((i + 1 : Nat) : Int) = (i : Int) + 1 by omega]
    rw [e]
    have IH := ih k (i + 1) (by omega) (by omega)
    by_cases h : bt p (i : Int) = 63
    · rw [if_pos h, J, IH]
      simp [meetOk, h]
    · rw [if_neg h, if_pos (by omega)]
      by_cases h2 : bt q (i : Int) = 63
      · rw [if_pos h2, J, IH]
        simp [meetOk, h2]
      · rw [if_neg h2]
        by_cases h3 : bt p (i : Int) = bt q (i : Int)
        · have hb : (bt p (i : Int) != bt q (i : Int)) = false := by simp [h3]
          rw [hb, J, IH]
          simp [meetOk, h3]
        · have hb : (bt p (i : Int) != bt q (i : Int)) = true := by simp [h3]
          rw [hb, hK]
          simp only [spec_MeetPatterns.j2]
          have h3' : ¬ bt q (i : Int) = bt p (i : Int) := fun x => h3 x.symm
          simp [meetOk, h, h2, h3']
theorem bytesOf_getElem (s : ByteArray) (i : Nat) (h : i < (bytesOf s).length) (h' : i < s.data.toList.length) : (bytesOf s)[i] = ((s.data.toList[i]).toNat : Int) := by
  simp [bytesOf]
def mixI (p q : ByteArray) : List Int := (mixL p q).map fun b => (b.toNat : Int)
theorem mixI_at (p q : ByteArray) (i : Nat) (h : i < (mixL p q).length) (h' : i < (mixI p q).length) : (mixI p q)[i] = (((mixL p q)[i]).toNat : Int) := List.getElem_map _
theorem implMeet_l0 (p q : ByteArray) (hs : p.size = q.size) (hn : p.size ≤ 1048576) : ∀ (d k i : Nat), i + d = p.size → d < k →
    impl_MeetPatterns.l0 k p q ((mixI p q).take i ++ (bytesOf p).drop i) (p.size : Int) (i : Int) = some (if allF (meetOk p q) d (i : Int) = true then (⟨(mixL p q).toArray⟩, true) else (⟨#[]⟩, false)) := by
  have hp := size_list p
  have hq := size_list q
  have hm := mixL_length p q hs
  have hb := bytesOf_length p
  have hmi : (mixI p q).length = p.size := by simp [mixI, hm]
  intro d
  induction d with
  | zero =>
    intro k i hi hk
    obtain ⟨k, rfl⟩ : ∃ m, k = m + 1 := ⟨k - 1, by omega⟩
    simp only [impl_MeetPatterns.l0]
    rw [if_neg (by omega), List.take_of_length_le (by omega), List.drop_of_length_le (by omega), List.append_nil]
    have e : strOfNums (mixI p q) = ⟨(mixL p q).toArray⟩ := by
      unfold strOfNums mixI
      congr 2
      rw [List.map_map]
      conv => rhs; rw [← List.map_id (mixL p q)]
      apply List.map_congr_left
      intro b _
      simp
    rw [e]
    rfl
  | succ d ih =>
    intro k i hi hk
    obtain ⟨k, rfl⟩ : ∃ m, k = m + 1 := ⟨k - 1, by omega⟩
    have ip : i < p.data.toList.length := by omega
    have iq : i < q.data.toList.length := by omega
    have im : i < (mixL p q).length := by omega
    have imi : i < (mixI p q).length := by omega
    have ib : i < (bytesOf p).length := by omega
    have lt : ((mixI p q).take i).length = i := by rw [List.length_take, Nat.min_eq_left (Nat.le_of_lt imi)]
    have len : ((mixI p q).take i ++ (bytesOf p).drop i).length = p.size := by
      rw [List.length_append, lt, List.length_drop, hb]
      exact Nat.add_sub_cancel' (by omega)
    have hge : ((mixI p q).take i).length ≤ i := Nat.le_of_eq lt
    have keep : bt p (i : Int) ≠ 63 → (mixI p q).take i ++ (bytesOf p).drop i = (mixI p q).take (i + 1) ++ (bytesOf p).drop (i + 1) := by
      intro h
      have ma := mix_at p q i ip iq im
      have mi := mixI_at p q i im imi
      have tk : (mixI p q).take (i + 1) = (mixI p q).take i ++ [(mixI p q)[i]] := List.take_succ_eq_append_getElem imi
      have dr : (bytesOf p).drop i = (bytesOf p)[i] :: (bytesOf p).drop (i + 1) := List.drop_eq_getElem_cons ib
      rw [if_neg h] at ma
      rw [tk, dr, mi, ma, bytesOf_getElem p i ib ip]
      simp
    have put : bt p (i : Int) = 63 → ((mixI p q).take i ++ (bytesOf p).drop i).set i (bt q (i : Int)) = (mixI p q).take (i + 1) ++ (bytesOf p).drop (i + 1) := by
      intro h
      have ma := mix_at p q i ip iq im
      have mi := mixI_at p q i im imi
      have tk : (mixI p q).take (i + 1) = (mixI p q).take i ++ [(mixI p q)[i]] := List.take_succ_eq_append_getElem imi
      have dr : (bytesOf p).drop i = (bytesOf p)[i] :: (bytesOf p).drop (i + 1) := List.drop_eq_getElem_cons ib
      rw [if_pos h] at ma
      rw [List.set_append_right _ _ hge, lt, Nat.sub_self, tk, dr, List.set_cons_zero, mi, ma, bt_list q i iq]
      simp
    have IH := ih k (i + 1) (by omega) (by omega)
    have c0 : (0 : Int) ≤ (i : Int) := by omega
    have c1 : (i : Int) < (p.size : Int) := by omega
    have c2 : (i : Int) < (q.size : Int) := by omega
    have l1 : (i : Int) < (((mixI p q).take i ++ (bytesOf p).drop i).length : Int) := by rw [len]; omega
    clear lt len hge
    have hw : wrap64 ((i : Int) + 1) = ((i + 1 : Nat) : Int) := by unfold wrap64; omega
    have hy : ((i : Int)).toNat = i := Int.toNat_natCast i
    simp only [impl_MeetPatterns.l0, hw, hy]
    rw [if_pos c1, if_pos c0, if_pos c1]
    have e : allF (meetOk p q) (d + 1) (i : Int) = (meetOk p q (i : Int) && allF (meetOk p q) d ((i + 1 : Nat) : Int)) := by
      simp only [allF]
      rw [show ((i + 1 : Nat) : Int) = (i : Int) + 1 from rfl]
    rw [e]
    by_cases h : bt p (i : Int) = 63
    · rw [if_pos h, if_pos c2, if_pos l1, put h, IH]
      simp [meetOk, h]
    · rw [if_neg h, if_pos c2]
      by_cases h2 : bt q (i : Int) = 63
      · rw [if_pos h2, keep h, IH]
        simp [meetOk, h2]
      · rw [if_neg h2]
        by_cases h3 : bt q (i : Int) = bt p (i : Int)
        · rw [if_pos h3, keep h, IH]
          simp [meetOk, h3]
        · rw [if_neg h3]
          simp [meetOk, h, h2, h3]
def meetR (p q : ByteArray) : ByteArray × Bool := if isPatB p = true ∧ isPatB q = true ∧ p.size = q.size then meetV p q else (⟨#[]⟩, false)
theorem specMeet (k : Nat) (p q : ByteArray) (hp : p.size ≤ 1048576) (hq : q.size ≤ 1048576) (hk : 2 * p.size + 5 < k) (hk2 : q.size < k) : spec_MeetPatterns.f k p q = some (meetR p q) := by
  obtain ⟨k, rfl⟩ : ∃ m, k = m + 1 := ⟨k - 1, by omega⟩
  unfold spec_MeetPatterns.f meetR
  rw [specIsPattern_eq p (by omega) _ (by omega), specIsPattern_eq q (by omega) _ (by omega)]
  simp only [Option.bind_some, spec_MeetPatterns.j0]
  cases isPatB p
  · simp
  · cases isPatB q
    · simp
    · by_cases h : p.size = q.size
      · have hb : ((p.size : Int) != (q.size : Int)) = false := by simp [h]
        have := specMeet_l0 p q h hp p.size k 0 (by omega) (by omega)
        rw [hb]
        simp only [Bool.false_eq_true, if_false, if_true]
        rw [if_pos ⟨trivial, trivial, h⟩]
        simpa [meetV] using this
      · have hb : ((p.size : Int) != (q.size : Int)) = true := by simp; omega
        rw [hb]
        simp [h]
theorem implMeet (k : Nat) (p q : ByteArray) (hp : p.size ≤ 1048576) (hq : q.size ≤ 1048576) (hk : p.size + 5 < k) (hk2 : q.size < k) : impl_MeetPatterns.f k p q = some (meetR p q) := by
  obtain ⟨k, rfl⟩ : ∃ m, k = m + 1 := ⟨k - 1, by omega⟩
  unfold impl_MeetPatterns.f meetR
  rw [implIsPattern_eq p (by omega) _ (by omega), implIsPattern_eq q (by omega) _ (by omega)]
  simp only [Option.bind_some, impl_MeetPatterns.j0]
  cases isPatB p
  · simp
  · cases isPatB q
    · simp
    · by_cases h : p.size = q.size
      · have hb : ((p.size : Int) != (q.size : Int)) = false := by simp [h]
        have := implMeet_l0 p q h hp p.size k 0 (by omega) (by omega)
        rw [hb]
        simp only [Bool.false_eq_true, if_false, if_true]
        rw [if_pos (by omega : p.size ≤ 140737488351232), if_pos ⟨trivial, trivial, h⟩]
        simpa [meetV] using this
      · have hb : ((p.size : Int) != (q.size : Int)) = true := by simp; omega
        rw [hb]
        simp [h]
theorem FnExactMeetPatterns : laws_FnExactMeetPatterns.Pure := by
  intro p q _ _
  refine ⟨2 * p.size + q.size + 10, ?_⟩
  unfold laws_FnExactMeetPatterns.f
  by_cases h : (p.size : Int) > 1048576
  · rw [if_pos h]
  rw [if_neg h]
  by_cases h2 : (q.size : Int) > 1048576
  · rw [if_pos h2]
  rw [if_neg h2, specMeet _ p q (by omega) (by omega) (by omega) (by omega), implMeet _ p q (by omega) (by omega) (by omega) (by omega)]
  simp
end Go.Proofs.Ytgnpindamkgggaa.Pure
