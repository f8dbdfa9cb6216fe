/- The law FnPatterns answers true for every byte slice. No condition. -/
import Derived.Test.YtgnpindamkgggaaPFnPatternsx5
namespace Go.Proofs.Ytgnpindamkgggaa.Pure
open Go.RowKit Go.Proofs.Ytgnpindamkgggaa.PFnPatterns Go.Proofs.YtgnpindamkgggaaW.PrintWords Go.Proofs.YtgnpindamkgggaaW.PrintLast Go.Proofs.YtgnpindamkgggaaW.PrintMore
set_option linter.unusedVariables false
set_option linter.unusedSimpArgs false
theorem wrap_nat {m n : Nat} (h : m < n) (hn : n ≤ 140737488351232) : wrap64 ((m : Int) + 1) = ((m + 1 : Nat) : Int) := by
  unfold wrap64
  omega
theorem getD_set_self {α : Type} (l : List α) (i j : Nat) (v d : α) : (l.set i v).getD j d = if i = j ∧ i < l.length then v else l.getD j d := by
  simp only [List.getD_eq_getElem?_getD, List.getElem?_set]
  by_cases h : i = j
  · subst h
    by_cases h2 : i < l.length
    · simp [h2]
    · simp [h2]
  · simp [h]
theorem ext_getD {α : Type} (a b : List α) (d : α) (hl : a.length = b.length) (h : ∀ j, j < b.length → a.getD j d = b.getD j d) : a = b := by
  refine List.ext_getElem hl fun j h1 h2 => ?_
  have := h j h2
  simpa [List.getD_eq_getElem?_getD, List.getElem?_eq_getElem h1, List.getElem?_eq_getElem h2] using this
theorem copy_loop {α : Type} (F : Nat → Nat → List α → Option (List α)) (x0 : List α) (dv : α)
    (hend : ∀ k s, s.length = x0.length → F (k + 1) x0.length s = some s)
    (hstep : ∀ k i s, i < x0.length → s.length = x0.length → F (k + 1) i s = F k (i + 1) (s.set i (x0.getD i dv))) :
    ∀ (d k i : Nat) (s : List α), i + d = x0.length → d < k → s.length = x0.length → (∀ j, j < i → s.getD j dv = x0.getD j dv) → F k i s = some x0 := by
  intro d
  induction d with
  | zero =>
    intro k i s hi hk hs hj
    obtain ⟨k, rfl⟩ : ∃ m, k = m + 1 := ⟨k - 1, by omega⟩
    obtain rfl : i = x0.length := by omega
    rw [hend k s hs, ext_getD s x0 dv hs hj]
  | succ d ih =>
    intro k i s hi hk hs hj
    obtain ⟨k, rfl⟩ : ∃ m, k = m + 1 := ⟨k - 1, by omega⟩
    rw [hstep k i s (by omega) hs]
    refine ih k (i + 1) _ (by omega) (by omega) (by simpa using hs) fun j h => ?_
    rw [getD_set_self]
    by_cases e : i = j
    · subst e
      rw [if_pos ⟨rfl, by omega⟩]
    · rw [if_neg (fun h => e h.1)]
      exact hj j (by omega)
theorem eq_loop {α : Type} [DecidableEq α] (F : Nat → Nat → Option Bool) (x0 x1 : List α) (dv : α) (hl : x0.length = x1.length)
    (hend : ∀ k, F (k + 1) x0.length = some true)
    (hstep : ∀ k i, i < x0.length → F (k + 1) i = if x0.getD i dv = x1.getD i dv then F k (i + 1) else some false) :
    ∀ (d k i : Nat), i + d = x0.length → d < k → F k i = some (decide (x0.drop i = x1.drop i)) := by
  intro d
  induction d with
  | zero =>
    intro k i hi hk
    obtain ⟨k, rfl⟩ : ∃ m, k = m + 1 := ⟨k - 1, by omega⟩
    obtain rfl : i = x0.length := by omega
    rw [hend]
    simp [hl]
  | succ d ih =>
    intro k i hi hk
    obtain ⟨k, rfl⟩ : ∃ m, k = m + 1 := ⟨k - 1, by omega⟩
    have h0 : i < x0.length := by omega
    have h1 : i < x1.length := by omega
    rw [hstep k i h0, ih k (i + 1) (by omega) (by omega), List.drop_eq_getElem_cons h0, List.drop_eq_getElem_cons h1]
    simp only [List.getD_eq_getElem?_getD, List.getElem?_eq_getElem h0, List.getElem?_eq_getElem h1, Option.getD_some, List.cons.injEq]
    by_cases e : x0[i] = x1[i] <;> simp [e]
theorem mark_loop {α : Type} (F : Nat → Nat → List α → Option (Int × List α)) (n : Nat) (val : Nat → α)
    (hend : ∀ k s, s.length = n → F (k + 1) n s = some (1 + (n : Int), s))
    (hstep : ∀ k i s, i < n → s.length = n → F (k + 1) i s = F k (i + 1) (s.set i (val i))) (dv : α) :
    ∀ (d k i : Nat) (s : List α), i + d = n → d < k → s.length = n → (∀ j, j < i → s.getD j dv = val j) → F k i s = some (1 + (n : Int), (List.range n).map val) := by
  intro d
  induction d with
  | zero =>
    intro k i s hi hk hs hj
    obtain ⟨k, rfl⟩ : ∃ m, k = m + 1 := ⟨k - 1, by omega⟩
    obtain rfl : i = n := by omega
    rw [hend k s hs]
    have e : s = (List.range i).map val := ext_getD s _ dv (by simpa using hs) fun j h => by
      have h' : j < i := by simpa using h
      rw [hj j h']
      simp [List.getD_eq_getElem?_getD, h']
    rw [← e]
  | succ d ih =>
    intro k i s hi hk hs hj
    obtain ⟨k, rfl⟩ : ∃ m, k = m + 1 := ⟨k - 1, by omega⟩
    rw [hstep k i s (by omega) hs]
    refine ih k (i + 1) _ (by omega) (by omega) (by simpa using hs) fun j h => ?_
    rw [getD_set_self]
    by_cases e : i = j
    · subst e
      rw [if_pos ⟨rfl, by omega⟩]
    · rw [if_neg (fun h => e h.1)]
      exact hj j (by omega)
theorem held_loop (F : Nat → Nat → Option Int) (n : Nat)
    (hend : ∀ k, F (k + 1) n = some (1 + (n : Int)))
    (hstep : ∀ k i, i < n → F (k + 1) i = F k (i + 1)) :
    ∀ (d k i : Nat), i + d = n → d < k → F k i = some (1 + (n : Int)) := by
  intro d
  induction d with
  | zero =>
    intro k i hi hk
    obtain ⟨k, rfl⟩ : ∃ m, k = m + 1 := ⟨k - 1, by omega⟩
    obtain rfl : i = n := by omega
    exact hend k
  | succ d ih =>
    intro k i hi hk
    obtain ⟨k, rfl⟩ : ∃ m, k = m + 1 := ⟨k - 1, by omega⟩
    rw [hstep k i (by omega)]
    exact ih k (i + 1) (by omega) (by omega)
/-- A loop that counts up, told by its step. -/
def runL {σ ρ : Type} (step : Nat → σ → ρ ⊕ σ) (fin : σ → ρ) : Nat → Nat → σ → ρ
  | 0, _, s => fin s
  | d + 1, i, s => match step i s with
    | .inl r => r
    | .inr s' => runL step fin d (i + 1) s'
theorem loop_run {σ ρ : Type} (F : Nat → Nat → σ → Option ρ) (n : Nat) (step : Nat → σ → ρ ⊕ σ) (fin : σ → ρ) (Inv : Nat → σ → Prop)
    (hend : ∀ k s, Inv n s → F (k + 1) n s = some (fin s))
    (hstep : ∀ k i s, i < n → Inv i s → F (k + 1) i s = match step i s with
      | .inl r => some r
      | .inr s' => F k (i + 1) s')
    (hinv : ∀ i s s', i < n → Inv i s → step i s = .inr s' → Inv (i + 1) s') :
    ∀ (d k i : Nat) (s : σ), i + d = n → d < k → Inv i s → F k i s = some (runL step fin d i s) := by
  intro d
  induction d with
  | zero =>
    intro k i s hi hk hs
    obtain ⟨k, rfl⟩ : ∃ m, k = m + 1 := ⟨k - 1, by omega⟩
    obtain rfl : i = n := by omega
    exact hend k s hs
  | succ d ih =>
    intro k i s hi hk hs
    obtain ⟨k, rfl⟩ : ∃ m, k = m + 1 := ⟨k - 1, by omega⟩
    rw [hstep k i s (by omega) hs]
    unfold runL
    cases e : step i s with
    | inl r => rfl
    | inr s' => exact ih k (i + 1) s' (by omega) (by omega) (hinv i s s' (by omega) hs e)
theorem one_neg (n : Nat) : (1 + (n : Int) < 0) = False := by
  simp
  omega
theorem u8_bds {n : Int} (h : (Lit.int .u8 n).wf = true) : 0 ≤ n ∧ n ≤ 255 := by
  simp [Lit.wf, IntKind.min, IntKind.max, IntKind.signed, IntKind.bits] at h
  omega
theorem i64_bds {n : Int} (h : (Lit.int .i64 n).wf = true) : -9223372036854775808 ≤ n ∧ n ≤ 9223372036854775807 := by
  simp [Lit.wf, IntKind.min, IntKind.max, IntKind.signed, IntKind.bits] at h
  omega
theorem tmod_bd (a : Int) {b : Int} (hb : 0 < b) : -b < Int.tmod a b ∧ Int.tmod a b < b := by
  by_cases h : 0 ≤ a
  · rw [Int.tmod_eq_emod_of_nonneg h]
    have := Int.emod_nonneg a (show b ≠ 0 by omega)
    have := Int.emod_lt_of_pos a hb
    omega
  · have e : Int.tmod a b = -(Int.tmod (-a) b) := by rw [Int.neg_tmod]; omega
    rw [e, Int.tmod_eq_emod_of_nonneg (by omega)]
    have := Int.emod_nonneg (-a) (show b ≠ 0 by omega)
    have := Int.emod_lt_of_pos (-a) hb
    omega
theorem size_list (s : ByteArray) : s.data.toList.length = s.size := Array.length_toList
theorem bt_list (s : ByteArray) (i : Nat) (h : i < s.data.toList.length) : bt s (i : Int) = ((s.data.toList[i]).toNat : Int) := by
  have h' : ((i : Int)).toNat < s.size := by rw [size_list] at h; omega
  rw [← bt_at s i h']
  rfl
def allF (f : Int → Bool) : Nat → Int → Bool
  | 0, _ => true
  | d + 1, i => f i && allF f d (i + 1)
theorem wrap_up {i n : Int} (h0 : 0 ≤ i) (h : i < n) (hn : n ≤ 140737488351232) : wrap64 (i + 1) = i + 1 := by
  unfold wrap64
  omega
def letB (c : Int) : Bool := decide (97 ≤ c ∧ c ≤ 122)
def isWordB (s : ByteArray) : Bool := decide (1 ≤ s.size ∧ s.size ≤ 8) && allF (fun i => letB (bt s i)) s.size 0
def patB (c : Int) : Bool := decide (c = 63) || letB c
def isPatB (s : ByteArray) : Bool := decide (1 ≤ s.size ∧ s.size ≤ 8) && allF (fun i => patB (bt s i)) s.size 0
def mixL (p q : ByteArray) : List UInt8 := List.zipWith (fun a b => if (a.toNat : Int) = 63 then b else a) p.data.toList q.data.toList
def meetOk (p q : ByteArray) (i : Int) : Bool := decide (bt p i = 63) || decide (bt q i = 63) || decide (bt q i = bt p i)
def meetV (p q : ByteArray) : ByteArray × Bool := if allF (meetOk p q) p.size 0 = true then (⟨(mixL p q).toArray⟩, true) else (⟨#[]⟩, false)
theorem mixL_length (p q : ByteArray) (h : p.size = q.size) : (mixL p q).length = p.size := by
  have hp := size_list p
  have hq := size_list q
  simp only [mixL, List.length_zipWith]
  omega
theorem mix_at (p q : ByteArray) (i : Nat) (hp : i < p.data.toList.length) (hq : i < q.data.toList.length) (h : i < (mixL p q).length) : (mixL p q)[i] = if bt p (i : Int) = 63 then q.data.toList[i] else p.data.toList[i] := by
  simp only [mixL, List.getElem_zipWith]
  rw [bt_list p i hp]
def meetR (p q : ByteArray) : ByteArray × Bool := if isPatB p = true ∧ isPatB q = true ∧ p.size = q.size then meetV p q else (⟨#[]⟩, false)
theorem inr (a b c : Int) : impl_InRange.f a b c = some (decide (b ≤ a ∧ a ≤ c)) := by
  unfold impl_InRange.f
  by_cases h : b ≤ a <;> simp [h]
theorem isLetter_eq (c : Int) : impl_isLetter.f c = some (letB c) := by
  unfold impl_isLetter.f letB
  by_cases h : c ≥ 97 <;> simp [h]
theorem implIsPattern_l0 (s : ByteArray) (hn : (s.size : Int) ≤ 140737488351232) : ∀ (d k : Nat) (i : Int), 0 ≤ i → (s.size : Int) - i = d → d < k →
    impl_IsPattern.l0 k s (s.size : Int) i = some (allF (fun i => patB (bt s i)) d i) := by
  intro d
  induction d with
  | zero =>
    intro k i h0 hd hk
    obtain ⟨k, rfl⟩ : ∃ m, k = m + 1 := ⟨k - 1, by omega⟩
    simp only [impl_IsPattern.l0]
    rw [if_neg (by omega)]
    rfl
  | succ d ih =>
    intro k i h0 hd hk
    obtain ⟨k, rfl⟩ : ∃ m, k = m + 1 := ⟨k - 1, by omega⟩
    have hlt : i < (s.size : Int) := by omega
    simp only [impl_IsPattern.l0]
    rw [if_pos hlt, if_pos h0, if_pos hlt, wrap_up h0 hlt hn, ih k (i + 1) (by omega) (by omega) (by omega), isLetter_eq]
    simp only [allF, patB, Option.bind_some]
    by_cases h0 : bt s i = 63
    · simp [h0]
    · cases letB (bt s i) <;> simp [h0]
theorem implIsPattern_eq (s : ByteArray) (hn : s.size ≤ 140737488351232) (k : Nat) (hk : s.size < k) : impl_IsPattern.f k s = some (isPatB s) := by
  unfold impl_IsPattern.f isPatB
  rw [inr, implIsPattern_l0 s (by omega) s.size k 0 (by omega) (by omega) hk]
  simp only [Option.bind_some]
  by_cases h : 1 ≤ s.size ∧ s.size ≤ 8
  · rw [if_pos (by simp; omega)]
    simp [h]
  · rw [if_neg (by simp; omega)]
    simp [h]
theorem bytesOf_getElem (s : ByteArray) (i : Nat) (h : i < (bytesOf s).length) (h' : i < s.data.toList.length) : (bytesOf s)[i] = ((s.data.toList[i]).toNat : Int) := by
  simp [bytesOf]
def mixI (p q : ByteArray) : List Int := (mixL p q).map fun b => (b.toNat : Int)
theorem mixI_at (p q : ByteArray) (i : Nat) (h : i < (mixL p q).length) (h' : i < (mixI p q).length) : (mixI p q)[i] = (((mixL p q)[i]).toNat : Int) := List.getElem_map _
theorem implMeet_l0 (p q : ByteArray) (hs : p.size = q.size) (hn : p.size ≤ 1048576) : ∀ (d k i : Nat), i + d = p.size → d < k →
    impl_MeetPatterns.l0 k p q ((mixI p q).take i ++ (bytesOf p).drop i) (p.size : Int) (i : Int) = some (if allF (meetOk p q) d (i : Int) = true then (⟨(mixL p q).toArray⟩, true) else (⟨#[]⟩, false)) := by
  have hp := size_list p
  have hq := size_list q
  have hm := mixL_length p q hs
  have hb := bytesOf_length p
  have hmi : (mixI p q).length = p.size := by simp [mixI, hm]
  intro d
  induction d with
  | zero =>
    intro k i hi hk
    obtain ⟨k, rfl⟩ : ∃ m, k = m + 1 := ⟨k - 1, by omega⟩
    simp only [impl_MeetPatterns.l0]
    rw [if_neg (by omega), List.take_of_length_le (by omega), List.drop_of_length_le (by omega), List.append_nil]
    have e : strOfNums (mixI p q) = ⟨(mixL p q).toArray⟩ := by
      unfold strOfNums mixI
      congr 2
      rw [List.map_map]
      conv => rhs; rw [← List.map_id (mixL p q)]
      apply List.map_congr_left
      intro b _
      simp
    rw [e]
    rfl
  | succ d ih =>
    intro k i hi hk
    obtain ⟨k, rfl⟩ : ∃ m, k = m + 1 := ⟨k - 1, by omega⟩
    have ip : i < p.data.toList.length := by omega
    have iq : i < q.data.toList.length := by omega
    have im : i < (mixL p q).length := by omega
    have imi : i < (mixI p q).length := by omega
    have ib : i < (bytesOf p).length := by omega
    have lt : ((mixI p q).take i).length = i := by rw [List.length_take, Nat.min_eq_left (Nat.le_of_lt imi)]
    have len : ((mixI p q).take i ++ (bytesOf p).drop i).length = p.size := by
      rw [List.length_append, lt, List.length_drop, hb]
      exact Nat.add_sub_cancel' (by omega)
    have hge : ((mixI p q).take i).length ≤ i := Nat.le_of_eq lt
    have keep : bt p (i : Int) ≠ 63 → (mixI p q).take i ++ (bytesOf p).drop i = (mixI p q).take (i + 1) ++ (bytesOf p).drop (i + 1) := by
      intro h
      have ma := mix_at p q i ip iq im
      have mi := mixI_at p q i im imi
      have tk : (mixI p q).take (i + 1) = (mixI p q).take i ++ [(mixI p q)[i]] := List.take_succ_eq_append_getElem imi
      have dr : (bytesOf p).drop i = (bytesOf p)[i] :: (bytesOf p).drop (i + 1) := List.drop_eq_getElem_cons ib
      rw [if_neg h] at ma
      rw [tk, dr, mi, ma, bytesOf_getElem p i ib ip]
      simp
    have put : bt p (i : Int) = 63 → ((mixI p q).take i ++ (bytesOf p).drop i).set i (bt q (i : Int)) = (mixI p q).take (i + 1) ++ (bytesOf p).drop (i + 1) := by
      intro h
      have ma := mix_at p q i ip iq im
      have mi := mixI_at p q i im imi
      have tk : (mixI p q).take (i + 1) = (mixI p q).take i ++ [(mixI p q)[i]] := List.take_succ_eq_append_getElem imi
      have dr : (bytesOf p).drop i = (bytesOf p)[i] :: (bytesOf p).drop (i + 1) := List.drop_eq_getElem_cons ib
      rw [if_pos h] at ma
      rw [List.set_append_right _ _ hge, lt, Nat.sub_self, tk, dr, List.set_cons_zero, mi, ma, bt_list q i iq]
      simp
    have IH := ih k (i + 1) (by omega) (by omega)
    have c0 : (0 : Int) ≤ (i : Int) := by omega
    have c1 : (i : Int) < (p.size : Int) := by omega
    have c2 : (i : Int) < (q.size : Int) := by omega
    have l1 : (i : Int) < (((mixI p q).take i ++ (bytesOf p).drop i).length : Int) := by rw [len]; omega
    clear lt len hge
    have hw : wrap64 ((i : Int) + 1) = ((i + 1 : Nat) : Int) := by unfold wrap64; omega
    have hy : ((i : Int)).toNat = i := Int.toNat_natCast i
    simp only [impl_MeetPatterns.l0, hw, hy]
    rw [if_pos c1, if_pos c0, if_pos c1]
    have e : allF (meetOk p q) (d + 1) (i : Int) = (meetOk p q (i : Int) && allF (meetOk p q) d ((i + 1 : Nat) : Int)) := by
      simp only [allF]
      rw [show ((i + 1 : Nat) : Int) = (i : Int) + 1 from rfl]
    rw [e]
    by_cases h : bt p (i : Int) = 63
    · rw [if_pos h, if_pos c2, if_pos l1, put h, IH]
      simp [meetOk, h]
    · rw [if_neg h, if_pos c2]
      by_cases h2 : bt q (i : Int) = 63
      · rw [if_pos h2, keep h, IH]
        simp [meetOk, h2]
      · rw [if_neg h2]
        by_cases h3 : bt q (i : Int) = bt p (i : Int)
        · rw [if_pos h3, keep h, IH]
          simp [meetOk, h3]
        · rw [if_neg h3]
          simp [meetOk, h, h2, h3]
theorem implMeet (k : Nat) (p q : ByteArray) (hp : p.size ≤ 1048576) (hq : q.size ≤ 1048576) (hk : p.size + 5 < k) (hk2 : q.size < k) : impl_MeetPatterns.f k p q = some (meetR p q) := by
  obtain ⟨k, rfl⟩ : ∃ m, k = m + 1 := ⟨k - 1, by omega⟩
  unfold impl_MeetPatterns.f meetR
  rw [implIsPattern_eq p (by omega) _ (by omega), implIsPattern_eq q (by omega) _ (by omega)]
  simp only [Option.bind_some, impl_MeetPatterns.j0]
  cases isPatB p
  · simp
  · cases isPatB q
    · simp
    · by_cases h : p.size = q.size
      · have hb : ((p.size : Int) != (q.size : Int)) = false := by simp [h]
        have := implMeet_l0 p q h hp p.size k 0 (by omega) (by omega)
        rw [hb]
        simp only [Bool.false_eq_true, if_false, if_true]
        rw [if_pos (by omega : p.size ≤ 140737488351232), if_pos ⟨trivial, trivial, h⟩]
        simpa [meetV] using this
      · have hb : ((p.size : Int) != (q.size : Int)) = true := by simp; omega
        rw [hb]
        simp [h]
def fitB (p s : ByteArray) (i : Int) : Bool := decide (bt p i = 63) || decide (bt p i = bt s i)
def fitsB (p s : ByteArray) : Bool := isPatB p && isWordB s && decide (p.size = s.size) && allF (fitB p s) p.size 0
def fitL (p : ByteArray) (l : List ByteArray) : List ByteArray := l.filter fun s => fitsB p s
theorem fitL_len (p : ByteArray) (l : List ByteArray) : (fitL p l).length ≤ l.length := List.length_filter_le _ _
theorem fitL_drop (p : ByteArray) (l : List ByteArray) (i : Nat) (h : i < l.length) : fitL p (l.drop i) = (if fitsB p (l.getD i ByteArray.empty) = true then [l.getD i ByteArray.empty] else []) ++ fitL p (l.drop (i + 1)) := by
  have e : l.getD i ByteArray.empty = l[i] := by simp [List.getD_eq_getElem?_getD, List.getElem?_eq_getElem h]
  rw [e, List.drop_eq_getElem_cons h]
  unfold fitL
  rw [List.filter_cons]
  by_cases hp : fitsB p l[i] = true
  · rw [if_pos hp, if_pos hp]
    rfl
  · rw [if_neg hp, if_neg hp]
    rfl
theorem implIsWord_l0 (s : ByteArray) (hn : (s.size : Int) ≤ 140737488351232) : ∀ (d k : Nat) (i : Int), 0 ≤ i → (s.size : Int) - i = d → d < k →
    impl_IsWord.l0 k s (s.size : Int) i = some (allF (fun i => letB (bt s i)) d i) := by
  intro d
  induction d with
  | zero =>
    intro k i h0 hd hk
    obtain ⟨k, rfl⟩ : ∃ m, k = m + 1 := ⟨k - 1, by omega⟩
    simp only [impl_IsWord.l0]
    rw [if_neg (by omega)]
    rfl
  | succ d ih =>
    intro k i h0 hd hk
    obtain ⟨k, rfl⟩ : ∃ m, k = m + 1 := ⟨k - 1, by omega⟩
    have hlt : i < (s.size : Int) := by omega
    simp only [impl_IsWord.l0]
    rw [if_pos hlt, if_pos h0, if_pos hlt, wrap_up h0 hlt hn, ih k (i + 1) (by omega) (by omega) (by omega), isLetter_eq]
    simp only [allF, Option.bind_some]
    cases letB (bt s i) <;> simp
theorem implIsWord_eq (s : ByteArray) (hn : s.size ≤ 140737488351232) (k : Nat) (hk : s.size < k) : impl_IsWord.f k s = some (isWordB s) := by
  unfold impl_IsWord.f isWordB
  rw [inr, implIsWord_l0 s (by omega) s.size k 0 (by omega) (by omega) hk]
  simp only [Option.bind_some]
  by_cases h : 1 ≤ s.size ∧ s.size ≤ 8
  · rw [if_pos (by simp; omega)]
    simp [h]
  · rw [if_neg (by simp; omega)]
    simp [h]
theorem implFits_l0 (p s : ByteArray) (hn : (p.size : Int) ≤ 140737488351232) (he : p.size = s.size) : ∀ (d k : Nat) (i : Int), 0 ≤ i → (p.size : Int) - i = d → d < k →
    impl_FitsPattern.l0 k p s (p.size : Int) i = some (allF (fitB p s) d i) := by
  intro d
  induction d with
  | zero =>
    intro k i h0 hd hk
    obtain ⟨k, rfl⟩ : ∃ m, k = m + 1 := ⟨k - 1, by omega⟩
    simp only [impl_FitsPattern.l0]
    rw [if_neg (by omega)]
    rfl
  | succ d ih =>
    intro k i h0 hd hk
    obtain ⟨k, rfl⟩ : ∃ m, k = m + 1 := ⟨k - 1, by omega⟩
    have hlt : i < (p.size : Int) := by omega
    simp only [impl_FitsPattern.l0]
    rw [if_pos hlt, if_pos h0, if_pos hlt, if_pos (by omega : i < (s.size : Int)), wrap_up h0 hlt hn, ih k (i + 1) (by omega) (by omega) (by omega)]
    simp only [allF, fitB]
    by_cases h1 : bt p i = 63
    · simp [h1]
    · by_cases h2 : bt p i = bt s i <;> simp [h1, h2]
theorem implFits (k : Nat) (p s : ByteArray) (hp : p.size ≤ 140737488351232) (hs : s.size ≤ 140737488351232) (hk : p.size + s.size + 2 < k) : impl_FitsPattern.f k p s = some (fitsB p s) := by
  unfold impl_FitsPattern.f fitsB
  obtain ⟨k, rfl⟩ : ∃ m, k = m + 1 := ⟨k - 1, by omega⟩
  rw [implIsPattern_eq p hp _ (by omega), implIsWord_eq s hs _ (by omega)]
  simp only [Option.bind_some, impl_FitsPattern.j0]
  by_cases h1 : isPatB p = true
  · by_cases h2 : isWordB s = true
    · by_cases h3 : p.size = s.size
      · rw [implFits_l0 p s (by omega) h3 p.size k 0 (by omega) (by omega) (by omega)]
        simp [h1, h2, h3]
      · have h4 : ¬ (p.size : Int) = (s.size : Int) := by omega
        simp [h1, h2, h3, h4]
    · simp [h1, h2]
  · simp [h1]
theorem implFitL_l0 (p : ByteArray) (l : List ByteArray) (B : Nat) (hB : B ≤ 1000000000) (hp : p.size ≤ B) (hl : l.length ≤ 1048577) (hw : ∀ s ∈ l, s.size ≤ B) : ∀ (d k i : Nat) (acc : List ByteArray), i + d = l.length → acc.length ≤ i → d + 2 * B + 10 < k →
    impl_WordsFitting.t_l0 k p acc l (l.length : Int) (i : Int) = some (acc ++ fitL p (l.drop i)) := by
  intro d
  induction d with
  | zero =>
    intro k i acc hi ha hk
    obtain ⟨k, rfl⟩ : ∃ m, k = m + 1 := ⟨k - 1, by omega⟩
    simp only [impl_WordsFitting.t_l0]
    rw [if_neg (by omega), List.drop_of_length_le (by omega)]
    simp [fitL]
  | succ d ih =>
    intro k i acc hi ha hk
    obtain ⟨k, rfl⟩ : ∃ m, k = m + 1 := ⟨k - 1, by omega⟩
    have hlt : i < l.length := by omega
    have e : rdOf ByteArray.empty l (i : Int) = l.getD i ByteArray.empty := by simp [rdOf]
    have hs : (l.getD i ByteArray.empty).size ≤ B := hw _ (by simp [List.getD_eq_getElem?_getD, List.getElem?_eq_getElem hlt])
    simp only [impl_WordsFitting.t_l0]
    rw [if_pos (by omega), if_pos (by omega), if_pos (by omega), e, implFits k p _ (by omega) (by omega) (by omega), wrap_nat hlt (by omega), fitL_drop p l i hlt]
    simp only [Option.bind_some]
    by_cases h : fitsB p (l.getD i ByteArray.empty) = true
    · rw [if_pos h, if_pos (by omega), ih k (i + 1) _ (by omega) (by simp; omega) (by omega), if_pos h, List.append_assoc]
    · rw [if_neg h, ih k (i + 1) _ (by omega) (by omega) (by omega), if_neg h, List.nil_append]
theorem implFitL (k : Nat) (p : ByteArray) (l : List ByteArray) (B : Nat) (hB : B ≤ 1000000000) (hp : p.size ≤ B) (hl : l.length ≤ 1048577) (hw : ∀ s ∈ l, s.size ≤ B) (hk : l.length + 2 * B + 10 < k) : impl_WordsFitting.f k l p = some (fitL p l) := by
  have h := implFitL_l0 p l B hB hp hl hw l.length k 0 [] (by omega) (by simp) (by omega)
  unfold impl_WordsFitting.f impl_WordsFitting.t_f
  simpa using h
def costep (s : ByteArray) (i : Nat) (n : Int) : Int ⊕ Int := .inr (if bt s i = 63 then wrap64 (n + 1) else n)
theorem implOpenIn (k : Nat) (s : ByteArray) (hn : s.size ≤ 140737488351232) (hk : s.size < k) : impl_openIn.f k s = some (runL (costep s) id s.size 0 0) := by
  unfold impl_openIn.f
  refine loop_run (fun k i n => impl_openIn.l0 k s n (s.size : Int) (i : Int)) s.size (costep s) id (fun _ _ => True) (fun k n _ => ?_) (fun k i n hi _ => ?_) (fun _ _ _ _ _ _ => trivial) s.size k 0 0 (by omega) hk trivial
  · simp only [impl_openIn.l0]
    rw [if_neg (by omega)]
    rfl
  · simp only [impl_openIn.l0]
    rw [if_pos (by omega), if_pos (by omega), if_pos (by omega), wrap_nat hi hn]
    unfold costep
    by_cases h : bt s i = 63 <;> simp [h]
theorem implCountOpen (k : Nat) (s : ByteArray) (hn : s.size ≤ 140737488351232) (hk : s.size < k) : impl_CountOpen.f k s = some (if isPatB s = true then runL (costep s) id s.size 0 0 else -1) := by
  unfold impl_CountOpen.f
  rw [implIsPattern_eq s hn k hk, implOpenIn k s hn hk]
  simp only [Option.bind_some]
  by_cases h : isPatB s = true <;> simp [h]
theorem wrap32_small (z : Int) (h0 : 0 ≤ z) (h1 : z ≤ 1000) : wrap32 z = z := by
  unfold wrap32
  omega
theorem bt_rng (s : ByteArray) (i : Int) (h0 : 0 ≤ i) (h : i < (s.size : Int)) : 0 ≤ bt s i ∧ bt s i ≤ 255 := by
  have h' : i.toNat < s.size := by omega
  have e := bt_at s i h'
  have hb := (s[i.toNat]'h').toNat_lt
  rw [← e]
  omega
def pick (a : Int) (w : ByteArray) : List Int := if isWordB w = true ∧ 0 ≤ a ∧ a < (w.size : Int) then [bt w a] else []
def accL (a : Int) : List ByteArray → List Int
  | [] => []
  | w :: r => pick a w ++ accL a r
theorem pick_len (a : Int) (w : ByteArray) : (pick a w).length ≤ 1 := by
  unfold pick
  split <;> simp
theorem accL_len (a : Int) (l : List ByteArray) : (accL a l).length ≤ l.length := by
  induction l with
  | nil => simp [accL]
  | cons w r ih =>
    have := pick_len a w
    simp only [accL, List.length_append, List.length_cons]
    omega
theorem implLet_l0 (a : Int) (l : List ByteArray) (hl : l.length ≤ 1048577) (hw : ∀ w ∈ l, w.size ≤ 1048576) : ∀ (d k i : Nat) (xs : List Int), i + d = l.length → xs.length ≤ i → d + 1048580 < k →
    impl_LettersAt.l0 k a xs l (l.length : Int) (i : Int) = some (strOfNums (Go.Proofs.YtgnpindamkgggaaRev.cmp (Go.Proofs.YtgnpindamkgggaaRev.srt (xs ++ accL a (l.drop i))))) := by
  intro d
  induction d with
  | zero =>
    intro k i xs hi hx hk
    obtain ⟨k, rfl⟩ : ∃ q, k = q + 1 := ⟨k - 1, by omega⟩
    simp only [impl_LettersAt.l0]
    rw [if_neg (by omega), if_pos (by omega), List.drop_of_length_le (by omega)]
    simp only [accL, List.append_nil]
  | succ d ih =>
    intro k i xs hi hx hk
    obtain ⟨k, rfl⟩ : ∃ q, k = q + 1 := ⟨k - 1, by omega⟩
    have hlt : i < l.length := by omega
    have e : rdOf ByteArray.empty l (i : Int) = l.getD i ByteArray.empty := by simp [rdOf]
    have e2 : l.getD i ByteArray.empty = l[i] := by simp [List.getD_eq_getElem?_getD, List.getElem?_eq_getElem hlt]
    have ed : l.drop i = l[i] :: l.drop (i + 1) := List.drop_eq_getElem_cons hlt
    have hs : (l[i]).size ≤ 1048576 := hw _ (List.getElem_mem _)
    have IH1 := ih k (i + 1) (xs ++ pick a l[i]) (by omega) (by have := pick_len a l[i]; simp; omega) (by omega)
    simp only [impl_LettersAt.l0]
    rw [if_pos (by omega), if_pos (by omega), if_pos (by omega), e, e2, implIsWord_eq _ (by omega) k (by omega), wrap_nat hlt (by omega), ed]
    simp only [Option.bind_some, accL]
    rw [← List.append_assoc]
    unfold pick at IH1 ⊢
    by_cases h1 : isWordB l[i] = true
    · rw [if_pos h1]
      by_cases h2 : a ≥ 0
      · rw [if_pos h2]
        by_cases h3 : a < ((l[i]).size : Int)
        · rw [if_pos h3, if_pos h2, if_pos (by omega)]
          rw [if_pos ⟨h1, h2, h3⟩] at IH1 ⊢
          exact IH1
        · rw [if_neg h3]
          rw [if_neg (fun h => h3 h.2.2), List.append_nil] at IH1 ⊢
          exact IH1
      · rw [if_neg h2]
        rw [if_neg (fun h => h2 h.2.1), List.append_nil] at IH1 ⊢
        exact IH1
    · rw [if_neg h1]
      rw [if_neg (fun h => h1 h.1), List.append_nil] at IH1 ⊢
      exact IH1
theorem implLet (k : Nat) (a : Int) (l : List ByteArray) (hl : l.length ≤ 1048577) (hw : ∀ w ∈ l, w.size ≤ 1048576) (hk : l.length + 1048700 < k) : impl_LettersAt.f k l a = some (strOfNums (Go.Proofs.YtgnpindamkgggaaRev.cmp (Go.Proofs.YtgnpindamkgggaaRev.srt (accL a l)))) := by
  have := implLet_l0 a l hl hw l.length k 0 [] (by omega) (by simp) (by omega)
  unfold impl_LettersAt.f
  simpa using this
theorem accL_mem (a : Int) (l : List ByteArray) (x : Int) : x ∈ accL a l ↔ ∃ w ∈ l, (isWordB w = true ∧ 0 ≤ a ∧ a < (w.size : Int)) ∧ bt w a = x := by
  induction l with
  | nil => simp [accL]
  | cons w r ih =>
    simp only [accL, List.mem_append, ih, List.mem_cons]
    unfold pick
    constructor
    · rintro (h | ⟨v, hv, h⟩)
      · by_cases hc : isWordB w = true ∧ 0 ≤ a ∧ a < (w.size : Int)
        · rw [if_pos hc] at h
          exact ⟨w, Or.inl rfl, hc, (List.mem_singleton.1 h).symm⟩
        · rw [if_neg hc] at h
          cases h
      · exact ⟨v, Or.inr hv, h⟩
    · rintro ⟨v, rfl | hv, hc, hx⟩
      · left
        rw [if_pos hc, hx]
        exact List.mem_singleton.2 rfl
      · exact Or.inr ⟨v, hv, hc, hx⟩
theorem srt_sorted (xs : List Int) : (Go.Proofs.YtgnpindamkgggaaRev.srt xs).Pairwise (· ≤ ·) := by
  have tr : ∀ (a b c : Int), decide (a ≤ b) = true → decide (b ≤ c) = true → decide (a ≤ c) = true := by
    intro a b c h1 h2
    simp only [decide_eq_true_eq] at *
    omega
  have tot : ∀ (a b : Int), (decide (a ≤ b) || decide (b ≤ a)) = true := by
    intro a b
    simp only [Bool.or_eq_true, decide_eq_true_eq]
    omega
  refine (List.pairwise_mergeSort tr tot xs).imp ?_
  intro a b h
  simpa using h
theorem cmp_facts (xs : List Int) (hs : xs.Pairwise (· ≤ ·)) : ∀ m, m ≤ xs.length → (Lib.compactUpTo xs.toArray m).Pairwise (· < ·) ∧ (∀ z, z ∈ Lib.compactUpTo xs.toArray m ↔ z ∈ xs.take m) := by
  intro m
  induction m with
  | zero =>
    intro _
    simp [Lib.compactUpTo]
  | succ m ih =>
    intro hm
    obtain ⟨i1, i2⟩ := ih (by omega)
    have hlt : m < xs.length := by omega
    have eg : ∀ j (hj : j < xs.length), xs.toArray[j]! = xs[j] := fun j hj => by simp [getElem!_pos, hj]
    have et : xs.take (m + 1) = xs.take m ++ [xs[m]] := List.take_succ_eq_append_getElem hlt
    rw [Lib.compactUpTo_succ]
    by_cases hk : Lib.keeps xs.toArray m = true
    · rw [if_pos hk]
      refine ⟨?_, fun z => by rw [List.mem_append, i2, et, List.mem_append, eg m hlt]⟩
      rw [List.pairwise_append]
      refine ⟨i1, by simp, ?_⟩
      intro x hx y hy
      rw [eg m hlt] at hy
      obtain rfl := List.mem_singleton.1 hy
      rw [i2] at hx
      unfold Lib.keeps at hk
      rw [decide_eq_true_eq] at hk
      obtain ⟨j, hj, rfl⟩ := List.getElem_of_mem hx
      have hjm : j < m := by simp at hj; omega
      rcases hk with hk | hk
      · omega
      · rw [eg m hlt, eg (m - 1) (by omega)] at hk
        have hp := List.pairwise_iff_getElem.1 hs
        have h1 : xs[m - 1] ≤ xs[m] := hp (m - 1) m (by omega) hlt (by omega)
        have h2 : xs[j] ≤ xs[m - 1] := by
          by_cases e : j = m - 1
          · subst e
            exact Int.le_refl _
          · exact hp j (m - 1) (by omega) (by omega) (by omega)
        rw [List.getElem_take]
        omega
    · rw [if_neg hk, List.append_nil]
      refine ⟨i1, fun z => ?_⟩
      unfold Lib.keeps at hk
      rw [decide_eq_true_eq] at hk
      have hm0 : m ≠ 0 := fun h => hk (Or.inl h)
      have he : xs[m] = xs[m - 1] := by
        have : ¬ xs.toArray[m]! ≠ xs.toArray[m - 1]! := fun h => hk (Or.inr h)
        rw [eg m hlt, eg (m - 1) (by omega)] at this
        omega
      rw [i2, et, List.mem_append, List.mem_singleton]
      constructor
      · exact Or.inl
      · rintro (h | rfl)
        · exact h
        · rw [he]
          have : m - 1 < (xs.take m).length := by simp; omega
          have h2 := List.getElem_mem this
          rwa [List.getElem_take] at h2
theorem cmp_srt (xs : List Int) : (Go.Proofs.YtgnpindamkgggaaRev.cmp (Go.Proofs.YtgnpindamkgggaaRev.srt xs)).Pairwise (· < ·) ∧ ∀ z, z ∈ Go.Proofs.YtgnpindamkgggaaRev.cmp (Go.Proofs.YtgnpindamkgggaaRev.srt xs) ↔ z ∈ xs := by
  obtain ⟨h1, h2⟩ := cmp_facts _ (srt_sorted xs) _ (Nat.le_refl _)
  refine ⟨h1, fun z => (h2 z).trans ?_⟩
  rw [List.take_length]
  exact (List.mergeSort_perm xs _).mem_iff
theorem ba_ext {a b : ByteArray} : a.toList = b.toList ↔ a = b := by
  constructor
  · intro h
    rw [ByteArray.toList_eq, ByteArray.toList_eq] at h
    cases a
    cases b
    congr 1
    exact Array.ext' h
  · rintro rfl
    rfl
def hasB (l : List ByteArray) (s : ByteArray) : Bool := l.any fun t => decide (t = s)
theorem has_drop (l : List ByteArray) (s : ByteArray) (i : Nat) (h : i < l.length) : hasB (l.drop i) s = (decide (l[i] = s) || hasB (l.drop (i + 1)) s) := by
  rw [List.drop_eq_getElem_cons h]
  rfl
theorem has_mem (l : List ByteArray) (s : ByteArray) : hasB l s = true ↔ s ∈ l := by
  unfold hasB
  rw [List.any_eq_true]
  constructor
  · rintro ⟨t, ht, e⟩
    have := of_decide_eq_true e
    rwa [← this]
  · intro h
    exact ⟨s, h, by simp⟩
theorem implHas_l0 (l : List ByteArray) (s : ByteArray) (hl : l.length ≤ 1000000000000) : ∀ (d k i : Nat), i + d = l.length → d < k → ∃ r : Int, slices_Index_string_string.l0 k l s (l.length : Int) (i : Int) = some r ∧ (r ≥ 0 ↔ hasB (l.drop i) s = true) := by
  intro d
  induction d with
  | zero =>
    intro k i hi hk
    obtain ⟨k, rfl⟩ : ∃ m, k = m + 1 := ⟨k - 1, by omega⟩
    simp only [slices_Index_string_string.l0]
    rw [if_neg (by omega)]
    refine ⟨-1, rfl, ?_⟩
    rw [List.drop_eq_nil_of_le (by omega)]
    simp [hasB]
  | succ d ih =>
    intro k i hi hk
    obtain ⟨k, rfl⟩ : ∃ m, k = m + 1 := ⟨k - 1, by omega⟩
    simp only [slices_Index_string_string.l0]
    have hlt : i < l.length := by omega
    have e : rdOf ByteArray.empty l (i : Int) = l[i] := by simp [rdOf, List.getD_eq_getElem?_getD, List.getElem?_eq_getElem hlt]
    rw [if_pos (by omega), if_pos (by omega), if_pos (by omega), e]
    simp only [ba_ext]
    rw [has_drop l s i hlt]
    by_cases h : s = l[i]
    · rw [if_pos h]
      exact ⟨i, rfl, by simp [h]⟩
    · rw [if_neg h, wrap_nat hlt (by omega)]
      obtain ⟨r, er, hr⟩ := ih k (i + 1) (by omega) (by omega)
      have h' : ¬ l[i] = s := fun e => h e.symm
      exact ⟨r, er, by rw [hr]; simp [h']⟩
theorem implHas (k : Nat) (l : List ByteArray) (s : ByteArray) (hl : l.length ≤ 1000000000000) (hk : l.length < k) : impl_HasWord.f k l s = some (hasB l s) := by
  unfold impl_HasWord.f slices_Contains_string_string.f slices_Index_string_string.f
  obtain ⟨r, er, hr⟩ := implHas_l0 l s hl l.length k 0 (by omega) hk
  have er' : slices_Index_string_string.l0 k l s (l.length : Int) 0 = some r := er
  rw [er']
  simp only [Option.bind_some]
  congr 1
  have hr' : r ≥ 0 ↔ hasB l s = true := hr
  rw [Bool.eq_iff_iff, decide_eq_true_iff]
  exact hr'
theorem wraps62 (n : Int) (h0 : 0 ≤ n) (h1 : n < 2 ^ 62) : IntKind.i64.wrap n = n := by
  rw [IntKind.wrap_i64]
  omega
theorem and127 (c : Int) (h0 : 0 ≤ c) (h1 : c < 2 ^ 62) : Go.bits .and .i64 c 127 = c % 128 := bits_mask .i64 62 (by decide) wraps62 7 (by decide) c h0 h1
theorem or_low (n s : Int) (j : Nat) (hj : j ≤ 62) (h0 : 0 ≤ n) (h1 : n < 2 ^ j) (hs0 : 0 ≤ s) (hs : s % 2 ^ j = 0) (hs1 : s < 2 ^ 62) : Go.bits .or .i64 n s = n + s := by
  have hn : n < 2 ^ 62 := Int.lt_of_lt_of_le h1 (by have h := Nat.pow_le_pow_right (show 0 < 2 by decide) hj; exact_mod_cast h)
  have e := bits_join .i64 62 (by decide) wraps62 j s n hs0 hs hs1 h0 h1 hn
  obtain ⟨a, rfl⟩ := Int.eq_ofNat_of_zero_le h0
  obtain ⟨b, rfl⟩ := Int.eq_ofNat_of_zero_le hs0
  have ha : a < 2 ^ 62 := by exact_mod_cast hn
  have hb : b < 2 ^ 62 := by exact_mod_cast hs1
  rw [(bits_nat .i64 62 (by decide) wraps62 a b ha hb).2]
  rw [(bits_nat .i64 62 (by decide) wraps62 b a hb ha).2] at e
  rw [Nat.or_comm, e]
  omega
/-- What a byte adds to a varint's number. -/
theorem comb_eq (n c : Int) (i : Nat) (hi : i < 6) (h0 : 0 ≤ n) (h1 : n < 2 ^ (7 * i)) (hc : 0 ≤ c ∧ c ≤ 255) :
    Go.bits .or .i64 n (shl .i64 (Go.bits .and .i64 c 127) (7 * (i : Int))) = n + c % 128 * 2 ^ (7 * i) := by
  rw [and127 c hc.1 (by omega)]
  have hm : 0 ≤ c % 128 ∧ c % 128 < 128 := ⟨by omega, by omega⟩
  generalize c % 128 = m at hm
  have e : shl .i64 m (7 * (i : Int)) = m * 2 ^ (7 * i) := by
    unfold shl
    have : min (7 * (i : Int)).toNat IntKind.i64.bits = 7 * i := by
      show min (7 * (i : Int)).toNat 64 = 7 * i
      omega
    rw [this]
    have hi' : i = 0 ∨ i = 1 ∨ i = 2 ∨ i = 3 ∨ i = 4 ∨ i = 5 := by omega
    rcases hi' with rfl | rfl | rfl | rfl | rfl | rfl <;> exact wraps62 _ (by simp; omega) (by simp; omega)
  rw [e]
  have hi' : i = 0 ∨ i = 1 ∨ i = 2 ∨ i = 3 ∨ i = 4 ∨ i = 5 := by omega
  refine or_low n _ (7 * i) (by omega) h0 h1 (by rcases hi' with rfl | rfl | rfl | rfl | rfl | rfl <;> simp <;> omega) (Int.mul_emod_left _ _) ?_
  rcases hi' with rfl | rfl | rfl | rfl | rfl | rfl <;> simp <;> omega
theorem and_mask (x : Int) (m : Nat) (hm : m < 2 ^ 31) : 0 ≤ Go.bits .and .i64 x m ∧ Go.bits .and .i64 x m ≤ m := by
  have h : (BitVec.ofInt 64 x &&& BitVec.ofInt 64 (m : Int)).toNat ≤ m := by
    rw [BitVec.toNat_and]
    refine Nat.le_trans Nat.and_le_right ?_
    rw [BitVec.ofInt_natCast, BitVec.toNat_ofNat]
    exact Nat.mod_le _ _
  have e : Go.bits .and .i64 x m = (((BitVec.ofInt 64 x &&& BitVec.ofInt 64 (m : Int)).toNat : Nat) : Int) := by
    simp only [Go.bits]
    show IntKind.i64.wrap (((BitVec.ofInt 64 x &&& BitVec.ofInt 64 (m : Int)).toNat : Nat) : Int) = _
    exact wraps62 _ (by omega) (by omega)
  rw [e]
  omega
def rdStep (l : List Int) (a : Int) (i : Nat) (n : Int) : (Int × Int × Bool) ⊕ Int :=
  if a + i ≥ l.length then .inl (0, 0, false)
  else if rd l (a + i) < 128 then
    if (0 < i ∧ rd l (a + i) = 0) ∨ Go.bits .or .i64 n (shl .i64 (Go.bits .and .i64 (rd l (a + i)) 127) (7 * i)) > 1000000000000 then .inl (0, 0, false)
    else .inl (Go.bits .or .i64 n (shl .i64 (Go.bits .and .i64 (rd l (a + i)) 127) (7 * i)), a + i + 1, true)
  else .inr (Go.bits .or .i64 n (shl .i64 (Go.bits .and .i64 (rd l (a + i)) 127) (7 * i)))
/-- What both ReadUvarint come to. -/
def readU (l : List Int) (a : Int) : Int × Int × Bool :=
  if 0 ≤ a ∧ a < l.length then runL (rdStep l a) (fun _ => (0, 0, false)) 6 0 0 else (0, 0, false)
theorem u8_bd {l : List Int} (h : ∀ x ∈ l, (Lit.int .u8 x).wf = true) (j : Int) : 0 ≤ rd l j ∧ rd l j ≤ 255 := by
  unfold rd
  rw [List.getD_eq_getElem?_getD]
  by_cases hj : j.toNat < l.length
  · rw [List.getElem?_eq_getElem hj]
    exact u8_bds (h _ (List.getElem_mem _))
  · rw [List.getElem?_eq_none (by omega)]
    exact ⟨Int.le_refl 0, by decide⟩
/-- The cursor: what it reads, where it stands. -/
theorem byte_ok (b : List Int) (hb : b.length ≤ 140737488351232) (i h : Int) (hi : 0 ≤ i) : ∃ v i' h', spec_l1Byte.f b i h = some (v, i', h') ∧ 0 ≤ v ∧ v ≤ 255 ∧ 0 ≤ i' := by
  unfold spec_l1Byte.f
  by_cases h1 : i < b.length
  · rw [if_pos h1, if_pos hi]
    refine ⟨_, _, _, rfl, (and_mask _ 255 (by decide)).1, (and_mask _ 255 (by decide)).2, ?_⟩
    unfold wrap64
    omega
  · rw [if_neg h1]
    exact ⟨_, _, _, rfl, (and_mask _ 255 (by decide)).1, (and_mask _ 255 (by decide)).2, hi⟩
theorem below_ok (b : List Int) (hb : b.length ≤ 140737488351232) (i h n : Int) (hi : 0 ≤ i) : ∃ v i' h', spec_l1Below.f b i h n = some (v, i', h') ∧ 0 ≤ v ∧ (0 < n → v < n) ∧ (n ≤ 0 → v = 0) ∧ 0 ≤ i' := by
  unfold spec_l1Below.f
  by_cases h1 : n ≤ 0
  · rw [if_pos h1]
    exact ⟨_, _, _, rfl, Int.le_refl _, fun h => by omega, fun _ => rfl, hi⟩
  · rw [if_neg h1]
    by_cases h2 : n ≤ 256
    · rw [if_pos h2]
      obtain ⟨v, i', h', e, v0, v1, i0⟩ := byte_ok b hb i h hi
      rw [e]
      simp only [Option.bind_some]
      rw [if_neg (by omega)]
      have t := tmod_bd v (b := n) (by omega)
      exact ⟨_, _, _, rfl, by rw [Int.tmod_eq_emod_of_nonneg v0]; exact Int.emod_nonneg _ (by omega), fun _ => t.2, fun h => by omega, i0⟩
    · rw [if_neg h2]
      obtain ⟨x, i1, h1', e1, x0, x1, j1⟩ := byte_ok b hb i h hi
      rw [e1]
      simp only [Option.bind_some]
      obtain ⟨y, i2, h2', e2, y0, y1, j2⟩ := byte_ok b hb i1 h1' j1
      rw [e2]
      simp only [Option.bind_some]
      obtain ⟨z, i3, h3', e3, z0, z1, j3⟩ := byte_ok b hb i2 h2' j2
      rw [e3]
      simp only [Option.bind_some]
      rw [if_neg (by omega)]
      have q : wrap64 (wrap64 (wrap64 (x * 65536) + wrap64 (y * 256)) + z) = x * 65536 + y * 256 + z := by
        have q1 : wrap64 (x * 65536) = x * 65536 := by unfold wrap64; omega
        have q2 : wrap64 (y * 256) = y * 256 := by unfold wrap64; omega
        rw [q1, q2]
        have q3 : wrap64 (x * 65536 + y * 256) = x * 65536 + y * 256 := by unfold wrap64; omega
        rw [q3]
        unfold wrap64
        omega
      rw [q]
      have t := tmod_bd (x * 65536 + y * 256 + z) (b := n) (by omega)
      exact ⟨_, _, _, rfl, by rw [Int.tmod_eq_emod_of_nonneg (by omega)]; exact Int.emod_nonneg _ (by omega), fun _ => t.2, fun h => by omega, j3⟩
theorem new_loop (b : List Int) (hb : b.length ≤ 140737488351232) : ∀ (d k : Nat) (i : Nat) (h : Int), (b.length - i : Nat) = d → i ≤ b.length → d < k → ∃ h', spec_l1New.l0 k b h (i : Int) = some (b, 0, h') := by
  intro d
  induction d with
  | zero =>
    intro k i h hd hi hk
    obtain ⟨k, rfl⟩ : ∃ m, k = m + 1 := ⟨k - 1, by omega⟩
    simp only [spec_l1New.l0]
    rw [if_neg (by omega)]
    exact ⟨_, rfl⟩
  | succ d ih =>
    intro k i h hd hi hk
    obtain ⟨k, rfl⟩ : ∃ m, k = m + 1 := ⟨k - 1, by omega⟩
    simp only [spec_l1New.l0]
    rw [if_pos (by omega)]
    by_cases h4 : (i : Int) < 4000
    · rw [if_pos h4, if_pos (by omega), wrap_nat (n := b.length) (by omega) hb]
      exact ih k (i + 1) _ (by omega) (by omega) (by omega)
    · rw [if_neg h4]
      exact ⟨_, rfl⟩
theorem new_ok (k : Nat) (b : List Int) (hb : b.length ≤ 140737488351232) (hk : b.length < k) : ∃ h, spec_l1New.f k b = some (b, 0, h) := by
  unfold spec_l1New.f
  exact new_loop b hb b.length k 0 _ (by omega) (by omega) hk
theorem str_ok (b : List Int) (hb : b.length ≤ 140737488351232) (i h : Int) (l : List ByteArray) (hl : 0 < l.length) (hi : 0 ≤ i) : ∃ v i' h', spec_l1Str.f b i h l = some (v, i', h') ∧ v ∈ l ∧ 0 ≤ i' := by
  unfold spec_l1Str.f
  obtain ⟨v, i', h', e, v0, v1, _, i0⟩ := below_ok b hb i h (l.length : Int) hi
  rw [e]
  simp only [Option.bind_some]
  have := v1 (by omega)
  rw [if_pos v0, if_pos this]
  refine ⟨_, _, _, rfl, ?_, i0⟩
  unfold rdOf
  rw [List.getD_eq_getElem?_getD, List.getElem?_eq_getElem (by omega)]
  exact List.getElem_mem _
theorem once_ok (b : List Int) (hb : b.length ≤ 140737488351232) (i h n : Int) (hi : 0 ≤ i) : ∃ v i' h', spec_l1Once.f b i h n = some (v, i', h') ∧ 0 ≤ i' := by
  unfold spec_l1Once.f
  obtain ⟨v, i', h', e, _, _, _, i0⟩ := below_ok b hb i h n hi
  rw [e]
  exact ⟨_, _, _, rfl, i0⟩
theorem word4_ok (b : List Int) (hb : b.length ≤ 140737488351232) (i h : Int) (hi : 0 ≤ i) : ∃ v i' h', spec_l4Word.f b i h = some (v, i', h') ∧ v.size ≤ 5 ∧ 0 ≤ i' := by
  unfold spec_l4Word.f
  obtain ⟨l, el, hl, hs⟩ : ∃ l, spec_l4Words.f = some l ∧ 0 < l.length ∧ ∀ v ∈ l, v.size ≤ 5 := by
    refine ⟨_, rfl, by decide, ?_⟩
    simp only [List.mem_cons, List.not_mem_nil, or_false]
    intro v hv
    repeat' (rcases hv with rfl | hv)
    all_goals first | decide | (subst hv; decide)
  rw [el]
  simp only [Option.bind_some]
  obtain ⟨v, i1, h1, e, hm, j1⟩ := str_ok b hb i h l hl hi
  rw [e]
  simp only [Option.bind_some]
  exact ⟨_, _, _, rfl, hs v hm, j1⟩
theorem any4_ok (b : List Int) (hb : b.length ≤ 140737488351232) (i h : Int) (hi : 0 ≤ i) : ∃ v i' h', spec_l4Any.f b i h = some (v, i', h') ∧ v.size ≤ 10 ∧ 0 ≤ i' := by
  unfold spec_l4Any.f
  obtain ⟨v, i1, h1, e, hm, j1⟩ := word4_ok b hb i h hi
  rw [e]
  simp only [Option.bind_some]
  rw [if_pos (by omega)]
  obtain ⟨u, i2, h2, e2, hm2, j2⟩ := str_ok b hb i1 h1 [v, v, v, v, v, (⟨#[]⟩ : ByteArray), (⟨#[65]⟩ : ByteArray), (⟨#[97, 32, 98]⟩ : ByteArray), (⟨#[116, 111, 111, 108, 111, 110, 103, 101, 114]⟩ : ByteArray), (⟨#[116, 111, 111, 108, 111, 110, 103]⟩ : ByteArray), v ++ (⟨#[63]⟩ : ByteArray), (⟨#[122]⟩ : ByteArray)] (by simp) j1
  rw [e2]
  simp only [Option.bind_some]
  refine ⟨_, _, _, rfl, ?_, j2⟩
  have hz : (v ++ (⟨#[63]⟩ : ByteArray)).size = v.size + 1 := by
    rw [ByteArray.size_append]
    rfl
  simp only [List.mem_cons, List.not_mem_nil, or_false] at hm2
  rcases hm2 with rfl | rfl | rfl | rfl | rfl | rfl | rfl | rfl | rfl | rfl | rfl | rfl
  all_goals first | omega | decide
theorem int_ok (b : List Int) (hb : b.length ≤ 140737488351232) (i h : Int) (l : List Int) (hl : 0 < l.length) (hi : 0 ≤ i) : ∃ v i' h', spec_l1Int.f b i h l = some (v, i', h') ∧ v ∈ l ∧ 0 ≤ i' := by
  unfold spec_l1Int.f
  obtain ⟨v, i', h', e, v0, v1, _, i0⟩ := below_ok b hb i h (l.length : Int) hi
  rw [e]
  simp only [Option.bind_some]
  have := v1 (by omega)
  rw [if_pos v0, if_pos this]
  refine ⟨_, _, _, rfl, ?_, i0⟩
  unfold rd
  rw [List.getD_eq_getElem?_getD, List.getElem?_eq_getElem (by omega)]
  exact List.getElem_mem _
theorem allF0 (f : Int → Bool) : ∀ (d i : Nat), allF f d (i : Int) = true ↔ ∀ j : Nat, i ≤ j → j < i + d → f (j : Int) = true := by
  intro d
  induction d with
  | zero =>
    intro i
    constructor
    · intro _ j h1 h2
      omega
    · intro _
      rfl
  | succ d ih =>
    intro i
    have e : (i : Int) + 1 = ((i + 1 : Nat) : Int) := rfl
    simp only [allF, Bool.and_eq_true]
    rw [e, ih (i + 1)]
    constructor
    · rintro ⟨h1, h2⟩ j hj1 hj2
      by_cases hj : j = i
      · rw [hj]
        exact h1
      · exact h2 j (by omega) (by omega)
    · intro h
      exact ⟨h i (by omega) (by omega), fun j h1 h2 => h j (by omega) (by omega)⟩
theorem allF0' (f : Int → Bool) (d : Nat) : allF f d 0 = true ↔ ∀ j : Nat, j < d → f (j : Int) = true := by
  have := allF0 f d 0
  rw [show ((0 : Nat) : Int) = 0 from rfl] at this
  rw [this]
  exact ⟨fun h j hj => h j (by omega) (by omega), fun h j _ hj => h j (by omega)⟩
theorem pat_iff (s : ByteArray) : isPatB s = true ↔ (1 ≤ s.size ∧ s.size ≤ 8) ∧ ∀ j : Nat, j < s.size → patB (bt s (j : Int)) = true := by
  unfold isPatB
  rw [Bool.and_eq_true, decide_eq_true_eq, allF0']
theorem wordB_iff (s : ByteArray) : isWordB s = true ↔ (1 ≤ s.size ∧ s.size ≤ 8) ∧ ∀ j : Nat, j < s.size → letB (bt s (j : Int)) = true := by
  unfold isWordB
  rw [Bool.and_eq_true, decide_eq_true_eq, allF0']
theorem fits_iff (p s : ByteArray) : fitsB p s = true ↔ isPatB p = true ∧ isWordB s = true ∧ p.size = s.size ∧ ∀ j : Nat, j < p.size → (bt p (j : Int) = 63 ∨ bt p (j : Int) = bt s (j : Int)) := by
  unfold fitsB
  rw [Bool.and_eq_true, Bool.and_eq_true, Bool.and_eq_true, decide_eq_true_eq, allF0']
  simp only [fitB, Bool.or_eq_true, decide_eq_true_eq]
  exact ⟨fun ⟨⟨⟨a, b⟩, c⟩, d⟩ => ⟨a, b, c, d⟩, fun ⟨a, b, c, d⟩ => ⟨⟨⟨a, b⟩, c⟩, d⟩⟩
theorem word_fits (s : ByteArray) (h : isWordB s = true) : fitsB s s = true := by
  rw [fits_iff]
  refine ⟨?_, h, rfl, fun j _ => Or.inr rfl⟩
  rw [wordB_iff] at h
  rw [pat_iff]
  refine ⟨h.1, fun j hj => ?_⟩
  unfold patB
  rw [h.2 j hj, Bool.or_true]
theorem bt_mix (p q : ByteArray) (hs : p.size = q.size) (i : Nat) (hi : i < p.size) : bt ⟨(mixL p q).toArray⟩ (i : Int) = if bt p (i : Int) = 63 then bt q (i : Int) else bt p (i : Int) := by
  have hp := size_list p
  have hq := size_list q
  have hm := mixL_length p q hs
  have ip : i < p.data.toList.length := by omega
  have iq : i < q.data.toList.length := by omega
  have im : i < (mixL p q).length := by omega
  have im' : i < (⟨(mixL p q).toArray⟩ : ByteArray).data.toList.length := im
  have e : (⟨(mixL p q).toArray⟩ : ByteArray).data.toList[i] = (mixL p q)[i] := rfl
  rw [bt_list _ i im', e, mix_at p q i ip iq im]
  by_cases h : bt p (i : Int) = 63
  · rw [if_pos h, if_pos h, bt_list q i iq]
  · rw [if_neg h, if_neg h, bt_list p i ip]
theorem mix_size (p q : ByteArray) (hs : p.size = q.size) : (⟨(mixL p q).toArray⟩ : ByteArray).size = p.size := by
  rw [← mixL_length p q hs]
  rfl
theorem meet_ok (p q : ByteArray) : (meetR p q).2 = true ↔ isPatB p = true ∧ isPatB q = true ∧ p.size = q.size ∧ ∀ j : Nat, j < p.size → (bt p (j : Int) = 63 ∨ bt q (j : Int) = 63 ∨ bt q (j : Int) = bt p (j : Int)) := by
  have ha : allF (meetOk p q) p.size 0 = true ↔ ∀ j : Nat, j < p.size → (bt p (j : Int) = 63 ∨ bt q (j : Int) = 63 ∨ bt q (j : Int) = bt p (j : Int)) := by
    rw [allF0']
    simp only [meetOk, Bool.or_eq_true, decide_eq_true_eq, or_assoc]
  rw [← ha]
  unfold meetR meetV
  by_cases h : isPatB p = true ∧ isPatB q = true ∧ p.size = q.size
  · rw [if_pos h]
    by_cases h2 : allF (meetOk p q) p.size 0 = true
    · rw [if_pos h2]
      exact ⟨fun _ => ⟨h.1, h.2.1, h.2.2, h2⟩, fun _ => rfl⟩
    · rw [if_neg h2]
      exact ⟨fun x => (by cases x), fun x => absurd x.2.2.2 h2⟩
  · rw [if_neg h]
    exact ⟨fun x => (by cases x), fun x => absurd ⟨x.1, x.2.1, x.2.2.1⟩ h⟩
theorem meet_val (p q : ByteArray) (h : (meetR p q).2 = true) : (meetR p q).1 = ⟨(mixL p q).toArray⟩ := by
  unfold meetR meetV at h ⊢
  by_cases h1 : isPatB p = true ∧ isPatB q = true ∧ p.size = q.size
  · rw [if_pos h1] at h ⊢
    by_cases h2 : allF (meetOk p q) p.size 0 = true
    · rw [if_pos h2]
    · rw [if_neg h2] at h
      cases h
  · rw [if_neg h1] at h
    cases h
theorem meet_size (p q : ByteArray) (n : Nat) (hp : p.size ≤ n) : (meetR p q).1.size ≤ n := by
  by_cases h : (meetR p q).2 = true
  · rw [meet_val p q h, mix_size p q ((meet_ok p q).1 h).2.2.1]
    exact hp
  · unfold meetR meetV at h ⊢
    by_cases h1 : isPatB p = true ∧ isPatB q = true ∧ p.size = q.size
    · rw [if_pos h1] at h ⊢
      by_cases h2 : allF (meetOk p q) p.size 0 = true
      · rw [if_pos h2] at h
        exact absurd rfl h
      · rw [if_neg h2]
        exact Nat.zero_le _
    · rw [if_neg h1]
      exact Nat.zero_le _
theorem meet_pat (p q : ByteArray) (h : (meetR p q).2 = true) : isPatB (meetR p q).1 = true := by
  have o := (meet_ok p q).1 h
  have a := (pat_iff p).1 o.1
  have b := (pat_iff q).1 o.2.1
  have s := o.2.2.1
  rw [meet_val p q h, pat_iff, mix_size p q s]
  refine ⟨a.1, fun j hj => ?_⟩
  rw [bt_mix p q s j hj]
  by_cases e : bt p (j : Int) = 63
  · rw [if_pos e]
    exact b.2 j (by omega)
  · rw [if_neg e]
    exact a.2 j hj
theorem meet_fits (p q w : ByteArray) : (fitsB p w && fitsB q w) = ((meetR p q).2 && fitsB (meetR p q).1 w) := by
  rw [Bool.eq_iff_iff, Bool.and_eq_true, Bool.and_eq_true]
  constructor
  · rintro ⟨h1, h2⟩
    rw [fits_iff] at h1 h2
    obtain ⟨a1, a2, a3, a4⟩ := h1
    obtain ⟨b1, _, b3, b4⟩ := h2
    have hs : p.size = q.size := by omega
    have ok : (meetR p q).2 = true := by
      rw [meet_ok]
      refine ⟨a1, b1, hs, fun j hj => ?_⟩
      rcases a4 j hj with h | h
      · exact Or.inl h
      · rcases b4 j (by omega) with g | g
        · exact Or.inr (Or.inl g)
        · exact Or.inr (Or.inr (by rw [g, h]))
    refine ⟨ok, ?_⟩
    rw [fits_iff]
    refine ⟨meet_pat p q ok, a2, ?_, ?_⟩
    · rw [meet_val p q ok, mix_size p q hs]
      exact a3
    · rw [meet_val p q ok, mix_size p q hs]
      intro j hj
      rw [bt_mix p q hs j hj]
      by_cases e : bt p (j : Int) = 63
      · rw [if_pos e]
        exact b4 j (by omega)
      · rw [if_neg e]
        exact a4 j hj
  · rintro ⟨ok, h⟩
    have o := (meet_ok p q).1 ok
    have hs := o.2.2.1
    rw [fits_iff, meet_val p q ok, mix_size p q hs] at h
    obtain ⟨_, c2, c3, c4⟩ := h
    rw [fits_iff, fits_iff]
    refine ⟨⟨o.1, c2, c3, fun j hj => ?_⟩, ⟨o.2.1, c2, by omega, fun j hj => ?_⟩⟩
    · have := c4 j hj
      rw [bt_mix p q hs j hj] at this
      by_cases e : bt p (j : Int) = 63
      · exact Or.inl e
      · rw [if_neg e] at this
        exact this
    · have hj' : j < p.size := by omega
      have := c4 j hj'
      rw [bt_mix p q hs j hj'] at this
      by_cases e : bt p (j : Int) = 63
      · rw [if_pos e] at this
        exact this
      · rw [if_neg e] at this
        rcases this with h | h
        · exact absurd h e
        · rcases o.2.2.2 j hj' with g | g | g
          · exact absurd g e
          · exact Or.inl g
          · exact Or.inr (by rw [g, h])
theorem count_le (m p : ByteArray) : ∀ (d i : Nat) (n n' : Int), 0 ≤ n → n ≤ n' → n' + d ≤ 1000 → (∀ j : Nat, i ≤ j → j < i + d → bt m (j : Int) = 63 → bt p (j : Int) = 63) →
    n ≤ runL (costep m) id d i n ∧ runL (costep m) id d i n ≤ runL (costep p) id d i n' := by
  intro d
  induction d with
  | zero =>
    intro i n n' h0 h1 h2 h3
    simp only [runL, id]
    omega
  | succ d ih =>
    intro i n n' h0 h1 h2 h3
    have w1 : wrap64 (n + 1) = n + 1 := by unfold wrap64; omega
    have w2 : wrap64 (n' + 1) = n' + 1 := by unfold wrap64; omega
    have hi := h3 i (by omega) (by omega)
    have h3' : ∀ j : Nat, i + 1 ≤ j → j < i + 1 + d → bt m (j : Int) = 63 → bt p (j : Int) = 63 := fun j a b => h3 j (by omega) (by omega)
    simp only [runL, costep, w1, w2]
    by_cases a : bt m (i : Int) = 63
    · rw [if_pos a, if_pos (hi a)]
      have := ih (i + 1) (n + 1) (n' + 1) (by omega) (by omega) (by omega) h3'
      omega
    · rw [if_neg a]
      by_cases b : bt p (i : Int) = 63
      · rw [if_pos b]
        have := ih (i + 1) n (n' + 1) (by omega) (by omega) (by omega) h3'
        omega
      · rw [if_neg b]
        have := ih (i + 1) n n' (by omega) (by omega) (by omega) h3'
        omega
def openN (s : ByteArray) : Int := if isPatB s = true then runL (costep s) id s.size 0 0 else -1
theorem open_sign (s : ByteArray) : (decide (openN s ≥ 0) != isPatB s) = false := by
  unfold openN
  by_cases h : isPatB s = true
  · have := (count_le s s s.size 0 0 0 (by omega) (by omega) (by have := ((pat_iff s).1 h).1; omega) (fun j _ _ e => e)).1
    rw [if_pos h, h, decide_eq_true (by omega)]
    rfl
  · rw [if_neg h]
    have h' : isPatB s = false := by simpa using h
    rw [h']
    rfl
theorem open_meet (p q : ByteArray) (ok : (meetR p q).2 = true) : openN (meetR p q).1 ≤ openN p ∧ openN (meetR p q).1 ≤ openN q := by
  have o := (meet_ok p q).1 ok
  have hs := o.2.2.1
  have mp := meet_pat p q ok
  have h8 := ((pat_iff p).1 o.1).1
  unfold openN
  rw [if_pos mp, if_pos o.1, if_pos o.2.1, meet_val p q ok, mix_size p q hs]
  constructor
  · refine (count_le _ p p.size 0 0 0 (by omega) (by omega) (by omega) fun j _ hj => ?_).2
    rw [bt_mix p q hs j (by omega)]
    by_cases e : bt p (j : Int) = 63
    · exact fun _ => e
    · rw [if_neg e]
      exact fun h => h
  · rw [← hs]
    refine (count_le _ q p.size 0 0 0 (by omega) (by omega) (by omega) fun j _ hj => ?_).2
    rw [bt_mix p q hs j (by omega)]
    by_cases e : bt p (j : Int) = 63
    · rw [if_pos e]
      exact fun h => h
    · rw [if_neg e]
      exact fun h => absurd h e
theorem implOpenN (k : Nat) (s : ByteArray) (hn : s.size ≤ 1000) (hk : s.size < k) : impl_CountOpen.f k s = some (openN s) := implCountOpen k s (by omega) hk
-- draws
theorem draw6_l0 (b : List Int) (hb : b.length ≤ 140737488351232) (w : ByteArray) (hw : w.size ≤ 5) : ∀ (d k i : Nat) (acc : ByteArray) (ci ch : Int), i + d = w.size → acc.size = i → d < k → 0 ≤ ci →
    ∃ v i' h', spec_l6Draw.l0 k w acc (i : Int) b ci ch = some (v, i', h') ∧ v.size ≤ 5 ∧ 0 ≤ i' := by
  intro d
  induction d with
  | zero =>
    intro k i acc ci ch hi ha hk hc
    obtain ⟨k, rfl⟩ : ∃ m, k = m + 1 := ⟨k - 1, by omega⟩
    simp only [spec_l6Draw.l0]
    rw [if_neg (by omega)]
    exact ⟨_, _, _, rfl, by omega, hc⟩
  | succ d ih =>
    intro k i acc ci ch hi ha hk hc
    obtain ⟨k, rfl⟩ : ∃ m, k = m + 1 := ⟨k - 1, by omega⟩
    have hlt : i < w.size := by omega
    simp only [spec_l6Draw.l0]
    rw [if_pos (by omega)]
    obtain ⟨o, i2, h2, e2, j2⟩ := once_ok b hb ci ch 2 hc
    rw [e2]
    simp only [Option.bind_some]
    rw [wrap_nat hlt (by omega)]
    cases o
    · have hz : (w.extract ((i : Int)).toNat (((i + 1 : Nat) : Int)).toNat).size = 1 := by
        rw [ByteArray.size_extract]
        omega
      rw [if_neg Bool.false_ne_true, if_pos (by omega), if_pos (by omega), if_pos (by omega), if_pos (by omega)]
      exact ih k (i + 1) _ i2 h2 (by omega) (by rw [ByteArray.size_append, hz, ha]) (by omega) j2
    · rw [if_pos rfl, if_pos (by omega)]
      exact ih k (i + 1) _ i2 h2 (by omega) (by rw [ByteArray.size_append, ha]; rfl) (by omega) j2
theorem any6_ok (b : List Int) (hb : b.length ≤ 140737488351232) (k : Nat) (hk : 10 < k) (i h : Int) (hi : 0 ≤ i) : ∃ v i' h', spec_l6Any.f k b i h = some (v, i', h') ∧ v.size ≤ 10 ∧ 0 ≤ i' := by
  unfold spec_l6Any.f spec_l6Draw.f
  obtain ⟨w, i1, h1, e1, s1, j1⟩ := word4_ok b hb i h hi
  rw [e1]
  simp only [Option.bind_some]
  obtain ⟨p, i2, h2, e2, s2, j2⟩ := draw6_l0 b hb w s1 w.size k 0 (⟨#[]⟩ : ByteArray) i1 h1 (by omega) rfl (by omega) j1
  rw [show ((0 : Nat) : Int) = 0 from rfl] at e2
  rw [e2]
  simp only [Option.bind_some]
  obtain ⟨u, i3, h3, e3, m3, j3⟩ := str_ok b hb i2 h2 [p, p, p, p, p, (⟨#[]⟩ : ByteArray), (⟨#[63]⟩ : ByteArray), (⟨#[65, 63]⟩ : ByteArray), (⟨#[63, 63, 63, 63, 63, 63, 63, 63, 63]⟩ : ByteArray), (⟨#[63, 63, 63, 63, 63, 63, 63, 63]⟩ : ByteArray)] (by simp) j2
  rw [e3]
  refine ⟨_, _, _, rfl, ?_, j3⟩
  show u.size ≤ 10
  simp only [List.mem_cons, List.not_mem_nil, or_false] at m3
  rcases m3 with rfl | rfl | rfl | rfl | rfl | rfl | rfl | rfl | rfl | rfl
  all_goals first | omega | decide
theorem some5_l0 (b : List Int) (hb : b.length ≤ 140737488351232) : ∀ (d k : Nat) (acc : List ByteArray) (ci ch : Int), acc.length + d ≤ 6 → (∀ w ∈ acc, w.size ≤ 10) → d < k → 0 ≤ ci →
    ∃ l i' h', spec_l5Some.l0 k acc (d : Int) b ci ch = some (l, i', h') ∧ (l.length ≤ 6 ∧ ∀ w ∈ l, w.size ≤ 10) ∧ 0 ≤ i' := by
  intro d
  induction d with
  | zero =>
    intro k acc ci ch ha hw hk hc
    obtain ⟨k, rfl⟩ : ∃ m, k = m + 1 := ⟨k - 1, by omega⟩
    simp only [spec_l5Some.l0]
    rw [if_neg (by omega)]
    exact ⟨_, _, _, rfl, ⟨by omega, hw⟩, hc⟩
  | succ d ih =>
    intro k acc ci ch ha hw hk hc
    obtain ⟨k, rfl⟩ : ∃ m, k = m + 1 := ⟨k - 1, by omega⟩
    have hwr : wrap64 (((d + 1 : Nat) : Int) - 1) = (d : Int) := by unfold wrap64; omega
    simp only [spec_l5Some.l0]
    rw [if_pos (by omega), hwr]
    obtain ⟨v, i1, h1, e1, sv, j1⟩ := any4_ok b hb ci ch hc
    rw [e1]
    simp only [Option.bind_some]
    rw [if_pos (by omega)]
    refine ih k _ i1 h1 (by simp; omega) ?_ (by omega) j1
    intro w hwm
    rcases List.mem_append.1 hwm with h | h
    · exact hw w h
    · rw [List.mem_singleton.1 h]
      exact sv
theorem some5_ok (b : List Int) (hb : b.length ≤ 140737488351232) (k : Nat) (hk : 10 < k) (i h : Int) (hi : 0 ≤ i) : ∃ l i' h', spec_l5Some.f k b i h = some (l, i', h') ∧ (l.length ≤ 6 ∧ ∀ w ∈ l, w.size ≤ 10) ∧ 0 ≤ i' := by
  unfold spec_l5Some.f
  obtain ⟨n, i1, h1, e1, n0, n1, _, j1⟩ := below_ok b hb i h 6 hi
  have n6 := n1 (by omega)
  rw [e1]
  simp only [Option.bind_some]
  obtain ⟨m, rfl⟩ : ∃ m : Nat, n = m := ⟨n.toNat, by omega⟩
  exact some5_l0 b hb m k [] i1 h1 (by simp; omega) (by simp) (by omega) j1
theorem words4_ok : ∃ l, spec_l4Words.f = some l ∧ l.length ≤ 40 ∧ ∀ v ∈ l, v.size ≤ 10 := by
  refine ⟨_, rfl, by decide, ?_⟩
  simp only [List.mem_cons, List.not_mem_nil, or_false]
  intro v hv
  repeat' (rcases hv with rfl | hv)
  all_goals first | decide | (subst hv; decide)
theorem drawMeet (k : Nat) (b : List Int) (hb : b.length ≤ 140737488351232) (hk : b.length + 50 < k) : ∃ p q, spec_DrawMeetPatterns.f k b = some (p, q) ∧ p.size ≤ 10 ∧ q.size ≤ 10 := by
  unfold spec_DrawMeetPatterns.f
  obtain ⟨h0, e0⟩ := new_ok k b hb (by omega)
  rw [e0]
  simp only [Option.bind_some]
  obtain ⟨p, i1, h1, e1, s1, j1⟩ := any6_ok b hb k (by omega) 0 h0 (by omega)
  rw [e1]
  simp only [Option.bind_some]
  obtain ⟨q, i2, h2, e2, s2, j2⟩ := any6_ok b hb k (by omega) i1 h1 j1
  rw [e2]
  exact ⟨p, q, rfl, s1, s2⟩
theorem drawFit (k : Nat) (b : List Int) (hb : b.length ≤ 140737488351232) (hk : b.length + 50 < k) : ∃ l p, spec_DrawWordsFitting.f k b = some (l, p) ∧ (l.length ≤ 40 ∧ ∀ v ∈ l, v.size ≤ 10) ∧ p.size ≤ 10 := by
  unfold spec_DrawWordsFitting.f
  obtain ⟨h0, e0⟩ := new_ok k b hb (by omega)
  rw [e0]
  simp only [Option.bind_some]
  obtain ⟨p, i1, h1, e1, s1, j1⟩ := any6_ok b hb k (by omega) 0 h0 (by omega)
  rw [e1]
  simp only [Option.bind_some]
  obtain ⟨ws, ew, hw1, hw2⟩ := words4_ok
  rw [ew]
  simp only [Option.bind_some]
  obtain ⟨o, i2, h2, e2, j2⟩ := once_ok b hb i1 h1 3 j1
  rw [e2]
  simp only [Option.bind_some]
  cases o
  · rw [if_neg Bool.false_ne_true]
    exact ⟨ws, p, rfl, ⟨hw1, hw2⟩, s1⟩
  · rw [if_pos rfl]
    obtain ⟨l, i3, h3, e3, s3, j3⟩ := some5_ok b hb k (by omega) i2 h2 j2
    rw [e3]
    exact ⟨l, p, rfl, ⟨by omega, s3.2⟩, s1⟩
theorem drawLet (k : Nat) (b : List Int) (hb : b.length ≤ 140737488351232) (hk : b.length + 50 < k) : ∃ l a, spec_DrawLettersAt.f k b = some (l, a) ∧ l.length ≤ 6 ∧ ∀ v ∈ l, v.size ≤ 10 := by
  unfold spec_DrawLettersAt.f
  obtain ⟨h0, e0⟩ := new_ok k b hb (by omega)
  rw [e0]
  simp only [Option.bind_some]
  obtain ⟨l, i1, h1, e1, s1, j1⟩ := some5_ok b hb k (by omega) 0 h0 (by omega)
  rw [e1]
  simp only [Option.bind_some]
  obtain ⟨a, i2, h2, e2, m2, j2⟩ := int_ok b hb i1 h1 [0, 1, 2, 4, 8, (-1), 9223372036854775807] (by decide) j1
  rw [e2]
  exact ⟨l, a, rfl, s1.1, s1.2⟩
-- the letters: rising, each one found
theorem bt_nums (xs : List Int) (i : Nat) (hi : i < xs.length) (h0 : 0 ≤ xs[i]) (h1 : xs[i] ≤ 255) : bt (strOfNums xs) (i : Int) = xs[i] := by
  have hl : i < (strOfNums xs).data.toList.length := by rw [size_list, strOfNums_size]; exact hi
  have e : (strOfNums xs).data.toList[i] = UInt8.ofNat (xs[i]).toNat := by simp [strOfNums_data]
  rw [bt_list _ i hl, e]
  simp
  omega
theorem pat_l3 (K : Nat) (l : List ByteArray) (a : Int) (S : ByteArray) (i : Nat) (ha : 0 ≤ a) (hl : l.length ≤ 1000) (hS : S.size ≤ 1000) (hi : i < S.size) (ho : 0 < i → bt S ((i - 1 : Nat) : Int) < bt S (i : Int)) :
    ∀ (d j : Nat) (b : Bool), j + d = l.length → (b = true ∨ ∃ w ∈ l.drop j, a < (w.size : Int) ∧ bt w a = bt S (i : Int)) →
    laws_FnPatterns.l3 (K + (d + 1)) l a S (i : Int) b (j : Int) = laws_FnPatterns.l2 K l a S ((i + 1 : Nat) : Int) := by
  intro d
  induction d with
  | zero =>
    intro j b hj hb
    have hb' : b = true := by
      rcases hb with h | ⟨w, hw, _⟩
      · exact h
      · rw [List.drop_of_length_le (by omega)] at hw
        cases hw
    subst hb'
    show laws_FnPatterns.l3 (K + 1) l a S (i : Int) true (j : Int) = _
    have hw : wrap64 ((i : Int) + 1) = ((i + 1 : Nat) : Int) := by unfold wrap64; omega
    have ho' : (i : Int) > 0 → bt S (wrap64 ((i : Int) - 1)) < bt S (i : Int) := fun h => by
      have e : wrap64 ((i : Int) - 1) = ((i - 1 : Nat) : Int) := by unfold wrap64; omega
      rw [e]
      exact ho (by omega)
    have hm : (i : Int) > 0 → 0 ≤ wrap64 ((i : Int) - 1) ∧ wrap64 ((i : Int) - 1) < (S.size : Int) := fun h => by unfold wrap64; omega
    rw [laws_FnPatterns.l3]
    rw [if_neg (by omega), if_pos rfl, hw]
    by_cases h : (i : Int) > 0
    · have := ho' h
      have := hm h
      rw [if_pos h, if_pos this.1, if_pos this.2, if_pos (by omega), if_pos (by omega), if_neg (by omega)]
    · rw [if_neg h]
  | succ d ih =>
    intro j b hj hb
    have hlt : j < l.length := by omega
    have e : rdOf ByteArray.empty l (j : Int) = l[j] := by simp [rdOf, List.getD_eq_getElem?_getD, List.getElem?_eq_getElem hlt]
    have ed : l.drop j = l[j] :: l.drop (j + 1) := List.drop_eq_getElem_cons hlt
    show laws_FnPatterns.l3 (K + (d + 1) + 1) l a S (i : Int) b (j : Int) = _
    have IH := ih (j + 1)
    revert IH
    generalize K + (d + 1) = K1
    intro IH
    rw [laws_FnPatterns.l3]
    rw [if_pos (by omega), wrap_nat hlt (by omega), e]
    cases b with
    | true =>
      rw [if_pos rfl]
      exact IH true (by omega) (Or.inl rfl)
    | false =>
      rw [if_neg Bool.false_ne_true, if_pos (by omega)]
      rw [ed] at hb
      by_cases h : a < ((l[j]).size : Int)
      · rw [if_pos h, if_pos ha, if_pos (by omega), if_pos (by omega)]
        refine IH _ (by omega) ?_
        rcases hb with hb | ⟨w, hw, h1, h2⟩
        · cases hb
        · rcases List.mem_cons.1 hw with rfl | hw
          · left
            rw [h2]
            simp
          · exact Or.inr ⟨w, hw, h1, h2⟩
      · rw [if_neg h]
        refine IH false (by omega) ?_
        rcases hb with hb | ⟨w, hw, h1, h2⟩
        · cases hb
        · rcases List.mem_cons.1 hw with rfl | hw
          · exact absurd h1 h
          · exact Or.inr ⟨w, hw, h1, h2⟩
theorem pat_l2 (l : List ByteArray) (a : Int) (S : ByteArray) (hl : l.length ≤ 1000) (hS : S.size ≤ 1000) (hd : ∀ i : Nat, i < S.size → 0 ≤ a ∧ (0 < i → bt S ((i - 1 : Nat) : Int) < bt S (i : Int)) ∧ ∃ w ∈ l, a < (w.size : Int) ∧ bt w a = bt S (i : Int)) :
    ∀ (d K i : Nat), i + d = S.size → laws_FnPatterns.l2 (K + 1 + d * (l.length + 2)) l a S (i : Int) = some true := by
  intro d
  induction d with
  | zero =>
    intro K i hi
    have h0 : K + 1 + 0 * (l.length + 2) = K + 1 := by omega
    rw [h0, laws_FnPatterns.l2]
    rw [if_neg (by omega)]
  | succ d ih =>
    intro K i hi
    have hlt : i < S.size := by omega
    obtain ⟨h1, h2, w, hw, h3⟩ := hd i hlt
    have eK : K + 1 + (d + 1) * (l.length + 2) = (K + 1 + d * (l.length + 2)) + (l.length + 1) + 1 := by rw [Nat.succ_mul]; omega
    have IH := ih K (i + 1) (by omega)
    rw [eK]
    revert IH
    generalize K + 1 + d * (l.length + 2) = K1
    intro IH
    have e0 : ((0 : Nat) : Int) = 0 := rfl
    have L3 := pat_l3 K1 l a S i h1 hl hS hlt h2 l.length 0 false (by omega) (Or.inr ⟨w, hw, h3⟩)
    rw [e0] at L3
    have c : (i : Int) < (S.size : Int) := by omega
    clear ih hd h1 h2 h3 hlt hi hl hS eK
    generalize K1 + (l.length + 1) = K2 at L3 ⊢
    rw [laws_FnPatterns.l2, if_pos c, L3, IH]
theorem pat_j4 (K : Nat) (x0 : List Int) (hb : x0.length ≤ 2000000) (hk : x0.length + 3000000 < K) : laws_FnPatterns.j4 (K + 1) x0 false = some true := by
  rw [laws_FnPatterns.j4]
  rw [if_neg Bool.false_ne_true]
  obtain ⟨l, a, e, hl, hw⟩ := drawLet K x0 (by omega) (by omega)
  rw [e]
  simp only [Option.bind_some]
  rw [implLet K a l (by omega) (fun w h => by have := hw w h; omega) (by omega)]
  simp only [Option.bind_some]
  obtain ⟨xs, hx⟩ : ∃ xs, xs = Go.Proofs.YtgnpindamkgggaaRev.cmp (Go.Proofs.YtgnpindamkgggaaRev.srt (accL a l)) := ⟨_, rfl⟩
  obtain ⟨f1, f2⟩ := cmp_srt (accL a l)
  have hlen : xs.length ≤ 6 := by
    have h1 := Go.Proofs.YtgnpindamkgggaaRev.cmp_len (Go.Proofs.YtgnpindamkgggaaRev.srt (accL a l))
    have h2 : (Go.Proofs.YtgnpindamkgggaaRev.srt (accL a l)).length = (accL a l).length := (List.mergeSort_perm _ _).length_eq
    have h3 := accL_len a l
    rw [hx]
    omega
  rw [← hx] at f1 f2 ⊢
  have rng : ∀ i (hi : i < xs.length), 0 ≤ a ∧ (0 ≤ xs[i] ∧ xs[i] ≤ 255) ∧ ∃ w ∈ l, a < (w.size : Int) ∧ bt w a = xs[i] := by
    intro i hi
    have hm : xs[i] ∈ accL a l := (f2 _).1 (List.getElem_mem hi)
    rw [accL_mem] at hm
    obtain ⟨w, hwl, ⟨_, h0, h1⟩, h2⟩ := hm
    have := bt_rng w a h0 h1
    exact ⟨h0, by omega, w, hwl, h1, h2⟩
  have D : ∀ i : Nat, i < (strOfNums xs).size → 0 ≤ a ∧ (0 < i → bt (strOfNums xs) ((i - 1 : Nat) : Int) < bt (strOfNums xs) (i : Int)) ∧ ∃ w ∈ l, a < (w.size : Int) ∧ bt w a = bt (strOfNums xs) (i : Int) := by
    intro i hi
    rw [strOfNums_size] at hi
    obtain ⟨h0, hr, hw⟩ := rng i hi
    rw [bt_nums xs i hi hr.1 hr.2]
    refine ⟨h0, fun h => ?_, hw⟩
    obtain ⟨_, hr', _⟩ := rng (i - 1) (by omega)
    rw [bt_nums xs (i - 1) (by omega) hr'.1 hr'.2]
    exact List.pairwise_iff_getElem.1 f1 (i - 1) i (by omega) hi (by omega)
  have hs := strOfNums_size xs
  have hmul : xs.length * (l.length + 2) ≤ 6 * 8 := Nat.mul_le_mul hlen (by omega)
  obtain ⟨k, hk'⟩ : ∃ k, K = k + 1 + xs.length * (l.length + 2) := ⟨K - 1 - xs.length * (l.length + 2), by omega⟩
  have := pat_l2 l a (strOfNums xs) (by omega) (by omega) D xs.length k 0 (by omega)
  rw [hk']
  exact this
theorem pat_l1 (x0 : List Int) (hb : x0.length ≤ 2000000) (p q : ByteArray) (hp : p.size ≤ 10) (hq : q.size ≤ 10) (ws : List ByteArray) (hws : ws.length ≤ 40) (r : ByteArray) (hr : r.size ≤ 10) (f : List ByteArray) (hf : f.length ≤ 40) (hfs : ∀ w ∈ f, w.size ≤ 10 ∧ fitsB r w = true ∧ w ∈ ws) :
    ∀ (d k i : Nat), i + d = f.length → d + x0.length + 3000100 < k → laws_FnPatterns.l1 k x0 p q (meetR p q).1 (meetR p q).2 ws r f (i : Int) = some true := by
  have hm := meet_size p q 10 hp
  intro d
  induction d with
  | zero =>
    intro k i hi hk
    obtain ⟨k, rfl⟩ : ∃ m, k = m + 1 + 1 := ⟨k - 2, by omega⟩
    have J := pat_j4 k x0 hb (by omega)
    obtain ⟨K, hK⟩ : ∃ K, K = k + 1 := ⟨_, rfl⟩
    have hKk : 100 < K := by omega
    rw [← hK] at J ⊢
    rw [laws_FnPatterns.l1]
    rw [if_neg (by omega), implOpenN K p (by omega) (by omega), implIsPattern_eq p (by omega) K (by omega)]
    simp only [Option.bind_some]
    rw [open_sign, if_neg Bool.false_ne_true]
    by_cases ok : (meetR p q).2 = true
    · have o := open_meet p q ok
      rw [if_pos ok, implOpenN K _ (by omega) (by omega), implOpenN K q (by omega) (by omega)]
      simp only [Option.bind_some]
      rw [if_neg (by omega), decide_eq_false (by omega)]
      exact J
    · rw [if_neg ok]
      exact J
  | succ d ih =>
    intro k i hi hk
    obtain ⟨k, rfl⟩ : ∃ m, k = m + 1 := ⟨k - 1, by omega⟩
    have hlt : i < f.length := by omega
    have e : rdOf ByteArray.empty f (i : Int) = f[i] := by simp [rdOf, List.getD_eq_getElem?_getD, List.getElem?_eq_getElem hlt]
    obtain ⟨h1, h2, h3⟩ := hfs f[i] (List.getElem_mem hlt)
    have IH := ih k (i + 1) (by omega) (by omega)
    rw [laws_FnPatterns.l1]
    rw [if_pos (by omega), if_pos (by omega), e, implFits k r _ (by omega) (by omega) (by omega), h2]
    simp only [Option.bind_some]
    rw [if_pos trivial, implHas k ws _ (by omega) (by omega), (has_mem ws _).2 h3]
    simp only [Option.bind_some]
    rw [if_pos trivial, wrap_nat hlt (by omega)]
    exact IH
theorem pat_l0 (x0 : List Int) (hb : x0.length ≤ 2000000) (p q : ByteArray) (hp : p.size ≤ 10) (hq : q.size ≤ 10) (ws : List ByteArray) (hws : ws.length ≤ 40) (hs : ∀ w ∈ ws, w.size ≤ 10) (r : ByteArray) (hr : r.size ≤ 10) :
    ∀ (d k i : Nat), i + d = ws.length → 3 * d + x0.length + 3000200 < k → laws_FnPatterns.l0 k x0 p q (meetR p q).1 (meetR p q).2 ws r (i : Int) = some true := by
  have hm := meet_size p q 10 hp
  intro d
  induction d with
  | zero =>
    intro k i hi hk
    obtain ⟨k, rfl⟩ : ∃ m, k = m + 1 := ⟨k - 1, by omega⟩
    rw [laws_FnPatterns.l0]
    rw [if_neg (by omega), implFitL k r ws 10 (by decide) hr (by omega) hs (by omega)]
    simp only [Option.bind_some]
    have hfl := fitL_len r ws
    refine pat_l1 x0 hb p q hp hq ws hws r hr (fitL r ws) (by omega) (fun w hw => ?_) (fitL r ws).length k 0 (by omega) (by omega)
    have := List.mem_filter.1 hw
    exact ⟨hs w this.1, this.2, this.1⟩
  | succ d ih =>
    intro k i hi hk
    obtain ⟨k, rfl⟩ : ∃ m, k = m + 1 + 1 + 1 := ⟨k - 3, by omega⟩
    have hlt : i < ws.length := by omega
    have e : rdOf ByteArray.empty ws (i : Int) = ws[i] := by simp [rdOf, List.getD_eq_getElem?_getD, List.getElem?_eq_getElem hlt]
    have h1 := hs ws[i] (List.getElem_mem hlt)
    have IH := ih k (i + 1) (by omega) (by omega)
    have c1 : (i : Int) < (ws.length : Int) := by omega
    have c0 : (0 : Int) ≤ (i : Int) := by omega
    have hk4 : 100 < k := by omega
    have J2 : laws_FnPatterns.j2 (k + 1) x0 p q (meetR p q).1 (meetR p q).2 ws r (i : Int) false = some true := by
      rw [laws_FnPatterns.j2]
      rw [if_neg Bool.false_ne_true, if_pos c0, if_pos c1, e, implIsWord_eq _ (by omega) k (by omega), wrap_nat hlt (by omega)]
      simp only [Option.bind_some]
      by_cases hw : isWordB ws[i] = true
      · rw [if_pos hw, implFits k _ _ (by omega) (by omega) (by omega), word_fits _ hw]
        simp only [Option.bind_some]
        rw [if_pos trivial]
        exact IH
      · rw [if_neg hw]
        exact IH
    have J1 : laws_FnPatterns.j1 (k + 1 + 1) x0 p q (meetR p q).1 (meetR p q).2 ws r (i : Int) (fitsB p ws[i] && fitsB q ws[i]) = some true := by
      revert J2
      generalize hK : k + 1 = K
      intro J2
      have hK1 : 100 < K := by omega
      rw [laws_FnPatterns.j1]
      have M := meet_fits p q ws[i]
      rw [M]
      by_cases ok : (meetR p q).2 = true
      · rw [if_pos ok, if_pos c0, if_pos c1, e, implFits K _ _ (by omega) (by omega) (by omega)]
        simp only [Option.bind_some]
        rw [ok] at J2 ⊢
        rw [Bool.true_and, bne_self_eq_false]
        exact J2
      · have ok' : (meetR p q).2 = false := by simpa using ok
        rw [if_neg ok]
        rw [ok'] at J2 ⊢
        rw [Bool.false_and, bne_self_eq_false]
        exact J2
    revert J1
    generalize hK : k + 1 + 1 = K
    intro J1
    have hK1 : 100 < K := by omega
    rw [laws_FnPatterns.l0]
    rw [if_pos c1, if_pos c0, e, implFits K p _ (by omega) (by omega) (by omega)]
    simp only [Option.bind_some]
    by_cases h : fitsB p ws[i] = true
    · rw [if_pos h, implFits K q _ (by omega) (by omega) (by omega)]
      simp only [Option.bind_some]
      rw [h, Bool.true_and] at J1
      exact J1
    · have h' : fitsB p ws[i] = false := by simpa using h
      rw [if_neg h]
      rw [h', Bool.false_and] at J1
      exact J1
theorem FnPatterns : laws_FnPatterns.Pure := by
  intro l _ hb _
  obtain ⟨K, hK⟩ : ∃ K, K = l.length + 3001000 := ⟨_, rfl⟩
  refine ⟨K, ?_⟩
  unfold laws_FnPatterns.f laws_big.f
  simp only [Option.bind_some, decide_eq_true_eq]
  by_cases h : (l.length : Int) > 1048576
  · rw [if_pos h]
  rw [if_neg h]
  obtain ⟨p, q, e1, hp, hq⟩ := drawMeet K l (by omega) (by omega)
  rw [e1]
  simp only [Option.bind_some]
  rw [implMeet K p q (by omega) (by omega) (by omega) (by omega)]
  simp only [Option.bind_some]
  obtain ⟨ws, r, e2, hw, hr⟩ := drawFit K l (by omega) (by omega)
  rw [e2]
  simp only [Option.bind_some]
  exact pat_l0 l (by omega) p q hp hq ws hw.1 hw.2 r hr ws.length K 0 (by omega) (by omega)
end Go.Proofs.Ytgnpindamkgggaa.Pure
