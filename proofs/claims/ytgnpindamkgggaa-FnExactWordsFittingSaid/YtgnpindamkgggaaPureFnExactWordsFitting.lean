/- The law FnExactWordsFitting answers true for every slice of strings and pattern. No condition. -/
import Derived.Test.YtgnpindamkgggaaPFnExactWordsFittingx4
namespace Go.Proofs.Ytgnpindamkgggaa.Pure
open Go.RowKit Go.Proofs.Ytgnpindamkgggaa.PFnExactWordsFitting Go.Proofs.YtgnpindamkgggaaW.PrintWords Go.Proofs.YtgnpindamkgggaaW.PrintLast Go.Proofs.YtgnpindamkgggaaW.PrintMore
set_option linter.unusedVariables false
set_option linter.unusedSimpArgs false
theorem inr (a b c : Int) : impl_InRange.f a b c = some (decide (b ≤ a ∧ a ≤ c)) := by
  unfold impl_InRange.f
  by_cases h : b ≤ a <;> simp [h]
theorem l1in (a b c : Int) : spec_l1In.f a b c = some (decide (b ≤ a ∧ a ≤ c)) := by
  unfold spec_l1In.f
  by_cases h : b ≤ a <;> simp [h]
theorem wrap_nat {m n : Nat} (h : m < n) (hn : n ≤ 140737488351232) : wrap64 ((m : Int) + 1) = ((m + 1 : Nat) : Int) := by
  unfold wrap64
  omega
theorem getD_set_self {α : Type} (l : List α) (i j : Nat) (v d : α) : (l.set i v).getD j d = if i = j ∧ i < l.length then v else l.getD j d := by
  simp only [List.getD_eq_getElem?_getD, List.getElem?_set]
  by_cases h : i = j
  · subst h
    by_cases h2 : i < l.length
    · simp [h2]
    · simp [h2]
  · simp [h]
theorem ext_getD {α : Type} (a b : List α) (d : α) (hl : a.length = b.length) (h : ∀ j, j < b.length → a.getD j d = b.getD j d) : a = b := by
  refine List.ext_getElem hl fun j h1 h2 => ?_
  have := h j h2
  simpa [List.getD_eq_getElem?_getD, List.getElem?_eq_getElem h1, List.getElem?_eq_getElem h2] using this
theorem copy_loop {α : Type} (F : Nat → Nat → List α → Option (List α)) (x0 : List α) (dv : α)
    (hend : ∀ k s, s.length = x0.length → F (k + 1) x0.length s = some s)
    (hstep : ∀ k i s, i < x0.length → s.length = x0.length → F (k + 1) i s = F k (i + 1) (s.set i (x0.getD i dv))) :
    ∀ (d k i : Nat) (s : List α), i + d = x0.length → d < k → s.length = x0.length → (∀ j, j < i → s.getD j dv = x0.getD j dv) → F k i s = some x0 := by
  intro d
  induction d with
  | zero =>
    intro k i s hi hk hs hj
    obtain ⟨k, rfl⟩ : ∃ m, k = m + 1 := ⟨k - 1, by omega⟩
    obtain rfl : i = x0.length := by omega
    rw [hend k s hs, ext_getD s x0 dv hs hj]
  | succ d ih =>
    intro k i s hi hk hs hj
    obtain ⟨k, rfl⟩ : ∃ m, k = m + 1 := ⟨k - 1, by omega⟩
    rw [hstep k i s (by omega) hs]
    refine ih k (i + 1) _ (by omega) (by omega) (by simpa using hs) fun j h => ?_
    rw [getD_set_self]
    by_cases e : i = j
    · subst e
      rw [if_pos ⟨rfl, by omega⟩]
    · rw [if_neg (fun h => e h.1)]
      exact hj j (by omega)
theorem eq_loop {α : Type} [DecidableEq α] (F : Nat → Nat → Option Bool) (x0 x1 : List α) (dv : α) (hl : x0.length = x1.length)
    (hend : ∀ k, F (k + 1) x0.length = some true)
    (hstep : ∀ k i, i < x0.length → F (k + 1) i = if x0.getD i dv = x1.getD i dv then F k (i + 1) else some false) :
    ∀ (d k i : Nat), i + d = x0.length → d < k → F k i = some (decide (x0.drop i = x1.drop i)) := by
  intro d
  induction d with
  | zero =>
    intro k i hi hk
    obtain ⟨k, rfl⟩ : ∃ m, k = m + 1 := ⟨k - 1, by omega⟩
    obtain rfl : i = x0.length := by omega
    rw [hend]
    simp [hl]
  | succ d ih =>
    intro k i hi hk
    obtain ⟨k, rfl⟩ : ∃ m, k = m + 1 := ⟨k - 1, by omega⟩
    have h0 : i < x0.length := by omega
    have h1 : i < x1.length := by omega
    rw [hstep k i h0, ih k (i + 1) (by omega) (by omega), List.drop_eq_getElem_cons h0, List.drop_eq_getElem_cons h1]
    simp only [List.getD_eq_getElem?_getD, List.getElem?_eq_getElem h0, List.getElem?_eq_getElem h1, Option.getD_some, List.cons.injEq]
    by_cases e : x0[i] = x1[i] <;> simp [e]
theorem mark_loop {α : Type} (F : Nat → Nat → List α → Option (Int × List α)) (n : Nat) (val : Nat → α)
    (hend : ∀ k s, s.length = n → F (k + 1) n s = some (1 + (n : Int), s))
    (hstep : ∀ k i s, i < n → s.length = n → F (k + 1) i s = F k (i + 1) (s.set i (val i))) (dv : α) :
    ∀ (d k i : Nat) (s : List α), i + d = n → d < k → s.length = n → (∀ j, j < i → s.getD j dv = val j) → F k i s = some (1 + (n : Int), (List.range n).map val) := by
  intro d
  induction d with
  | zero =>
    intro k i s hi hk hs hj
    obtain ⟨k, rfl⟩ : ∃ m, k = m + 1 := ⟨k - 1, by omega⟩
    obtain rfl : i = n := by omega
    rw [hend k s hs]
    have e : s = (List.range i).map val := ext_getD s _ dv (by simpa using hs) fun j h => by
      have h' : j < i := by simpa using h
      rw [hj j h']
      simp [List.getD_eq_getElem?_getD, h']
    rw [← e]
  | succ d ih =>
    intro k i s hi hk hs hj
    obtain ⟨k, rfl⟩ : ∃ m, k = m + 1 := ⟨k - 1, by omega⟩
    rw [hstep k i s (by omega) hs]
    refine ih k (i + 1) _ (by omega) (by omega) (by simpa using hs) fun j h => ?_
    rw [getD_set_self]
    by_cases e : i = j
    · subst e
      rw [if_pos ⟨rfl, by omega⟩]
    · rw [if_neg (fun h => e h.1)]
      exact hj j (by omega)
theorem held_loop (F : Nat → Nat → Option Int) (n : Nat)
    (hend : ∀ k, F (k + 1) n = some (1 + (n : Int)))
    (hstep : ∀ k i, i < n → F (k + 1) i = F k (i + 1)) :
    ∀ (d k i : Nat), i + d = n → d < k → F k i = some (1 + (n : Int)) := by
  intro d
  induction d with
  | zero =>
    intro k i hi hk
    obtain ⟨k, rfl⟩ : ∃ m, k = m + 1 := ⟨k - 1, by omega⟩
    obtain rfl : i = n := by omega
    exact hend k
  | succ d ih =>
    intro k i hi hk
    obtain ⟨k, rfl⟩ : ∃ m, k = m + 1 := ⟨k - 1, by omega⟩
    rw [hstep k i (by omega)]
    exact ih k (i + 1) (by omega) (by omega)
/-- A loop that counts up, told by its step. -/
def runL {σ ρ : Type} (step : Nat → σ → ρ ⊕ σ) (fin : σ → ρ) : Nat → Nat → σ → ρ
  | 0, _, s => fin s
  | d + 1, i, s => match step i s with
    | .inl r => r
    | .inr s' => runL step fin d (i + 1) s'
theorem loop_run {σ ρ : Type} (F : Nat → Nat → σ → Option ρ) (n : Nat) (step : Nat → σ → ρ ⊕ σ) (fin : σ → ρ) (Inv : Nat → σ → Prop)
    (hend : ∀ k s, Inv n s → F (k + 1) n s = some (fin s))
    (hstep : ∀ k i s, i < n → Inv i s → F (k + 1) i s = match step i s with
      | .inl r => some r
      | .inr s' => F k (i + 1) s')
    (hinv : ∀ i s s', i < n → Inv i s → step i s = .inr s' → Inv (i + 1) s') :
    ∀ (d k i : Nat) (s : σ), i + d = n → d < k → Inv i s → F k i s = some (runL step fin d i s) := by
  intro d
  induction d with
  | zero =>
    intro k i s hi hk hs
    obtain ⟨k, rfl⟩ : ∃ m, k = m + 1 := ⟨k - 1, by omega⟩
    obtain rfl : i = n := by omega
    exact hend k s hs
  | succ d ih =>
    intro k i s hi hk hs
    obtain ⟨k, rfl⟩ : ∃ m, k = m + 1 := ⟨k - 1, by omega⟩
    rw [hstep k i s (by omega) hs]
    unfold runL
    cases e : step i s with
    | inl r => rfl
    | inr s' => exact ih k (i + 1) s' (by omega) (by omega) (hinv i s s' (by omega) hs e)
theorem one_neg (n : Nat) : (1 + (n : Int) < 0) = False := by
  simp
  omega
theorem u8_bds {n : Int} (h : (Lit.int .u8 n).wf = true) : 0 ≤ n ∧ n ≤ 255 := by
  simp [Lit.wf, IntKind.min, IntKind.max, IntKind.signed, IntKind.bits] at h
  omega
theorem i64_bds {n : Int} (h : (Lit.int .i64 n).wf = true) : -9223372036854775808 ≤ n ∧ n ≤ 9223372036854775807 := by
  simp [Lit.wf, IntKind.min, IntKind.max, IntKind.signed, IntKind.bits] at h
  omega
theorem tmod_bd (a : Int) {b : Int} (hb : 0 < b) : -b < Int.tmod a b ∧ Int.tmod a b < b := by
  by_cases h : 0 ≤ a
  · rw [Int.tmod_eq_emod_of_nonneg h]
    have := Int.emod_nonneg a (show b ≠ 0 by omega)
    have := Int.emod_lt_of_pos a hb
    omega
  · have e : Int.tmod a b = -(Int.tmod (-a) b) := by rw [Int.neg_tmod]; omega
    rw [e, Int.tmod_eq_emod_of_nonneg (by omega)]
    have := Int.emod_nonneg (-a) (show b ≠ 0 by omega)
    have := Int.emod_lt_of_pos (-a) hb
    omega
def allF (f : Int → Bool) : Nat → Int → Bool
  | 0, _ => true
  | d + 1, i => f i && allF f d (i + 1)
theorem wrap_up {i n : Int} (h0 : 0 ≤ i) (h : i < n) (hn : n ≤ 140737488351232) : wrap64 (i + 1) = i + 1 := by
  unfold wrap64
  omega
def letB (c : Int) : Bool := decide (97 ≤ c ∧ c ≤ 122)
def isWordB (s : ByteArray) : Bool := decide (1 ≤ s.size ∧ s.size ≤ 8) && allF (fun i => letB (bt s i)) s.size 0
def patB (c : Int) : Bool := decide (c = 63) || letB c
def isPatB (s : ByteArray) : Bool := decide (1 ≤ s.size ∧ s.size ≤ 8) && allF (fun i => patB (bt s i)) s.size 0
theorem specIsPattern_l0 (s : ByteArray) (hn : (s.size : Int) ≤ 140737488351232) : ∀ (d k : Nat) (i : Int), 0 ≤ i → (s.size : Int) - i = d → d < k →
    spec_IsPattern.l0 k s i = some (allF (fun i => patB (bt s i)) d i) := by
  intro d
  induction d with
  | zero =>
    intro k i h0 hd hk
    obtain ⟨k, rfl⟩ : ∃ m, k = m + 1 := ⟨k - 1, by omega⟩
    simp only [spec_IsPattern.l0]
    rw [if_neg (by omega)]
    rfl
  | succ d ih =>
    intro k i h0 hd hk
    obtain ⟨k, rfl⟩ : ∃ m, k = m + 1 := ⟨k - 1, by omega⟩
    have hlt : i < (s.size : Int) := by omega
    simp only [spec_IsPattern.l0]
    rw [if_pos hlt, if_pos h0, wrap_up h0 hlt hn, ih k (i + 1) (by omega) (by omega) (by omega)]
    simp only [allF, patB, letB]
    by_cases h0 : bt s i = 63
    · simp [h0]
    · by_cases h1 : bt s i < 97
      · simp [h0, h1, show ¬ 97 ≤ bt s i by omega]
      · by_cases h2 : bt s i > 122
        · simp [h0, h1, h2, show ¬ bt s i ≤ 122 by omega]
        · simp [h0, h1, h2, show 97 ≤ bt s i by omega, show bt s i ≤ 122 by omega]
theorem specIsPattern_eq (s : ByteArray) (hn : s.size ≤ 140737488351232) (k : Nat) (hk : s.size < k) : spec_IsPattern.f k s = some (isPatB s) := by
  unfold spec_IsPattern.f isPatB
  rw [l1in, specIsPattern_l0 s (by omega) s.size k 0 (by omega) (by omega) hk]
  simp only [Option.bind_some]
  by_cases h : 1 ≤ s.size ∧ s.size ≤ 8
  · rw [if_pos (by simp; omega)]
    simp [h]
  · rw [if_neg (by simp; omega)]
    simp [h]
theorem isLetter_eq (c : Int) : impl_isLetter.f c = some (letB c) := by
  unfold impl_isLetter.f letB
  by_cases h : c ≥ 97 <;> simp [h]
theorem implIsPattern_l0 (s : ByteArray) (hn : (s.size : Int) ≤ 140737488351232) : ∀ (d k : Nat) (i : Int), 0 ≤ i → (s.size : Int) - i = d → d < k →
    impl_IsPattern.l0 k s (s.size : Int) i = some (allF (fun i => patB (bt s i)) d i) := by
  intro d
  induction d with
  | zero =>
    intro k i h0 hd hk
    obtain ⟨k, rfl⟩ : ∃ m, k = m + 1 := ⟨k - 1, by omega⟩
    simp only [impl_IsPattern.l0]
    rw [if_neg (by omega)]
    rfl
  | succ d ih =>
    intro k i h0 hd hk
    obtain ⟨k, rfl⟩ : ∃ m, k = m + 1 := ⟨k - 1, by omega⟩
    have hlt : i < (s.size : Int) := by omega
    simp only [impl_IsPattern.l0]
    rw [if_pos hlt, if_pos h0, if_pos hlt, wrap_up h0 hlt hn, ih k (i + 1) (by omega) (by omega) (by omega), isLetter_eq]
    simp only [allF, patB, Option.bind_some]
    by_cases h0 : bt s i = 63
    · simp [h0]
    · cases letB (bt s i) <;> simp [h0]
theorem implIsPattern_eq (s : ByteArray) (hn : s.size ≤ 140737488351232) (k : Nat) (hk : s.size < k) : impl_IsPattern.f k s = some (isPatB s) := by
  unfold impl_IsPattern.f isPatB
  rw [inr, implIsPattern_l0 s (by omega) s.size k 0 (by omega) (by omega) hk]
  simp only [Option.bind_some]
  by_cases h : 1 ≤ s.size ∧ s.size ≤ 8
  · rw [if_pos (by simp; omega)]
    simp [h]
  · rw [if_neg (by simp; omega)]
    simp [h]
theorem specIsWord_l0 (s : ByteArray) (hn : (s.size : Int) ≤ 140737488351232) : ∀ (d k : Nat) (i : Int), 0 ≤ i → (s.size : Int) - i = d → d < k →
    spec_IsWord.l0 k s i = some (allF (fun i => letB (bt s i)) d i) := by
  intro d
  induction d with
  | zero =>
    intro k i h0 hd hk
    obtain ⟨k, rfl⟩ : ∃ m, k = m + 1 := ⟨k - 1, by omega⟩
    simp only [spec_IsWord.l0]
    rw [if_neg (by omega)]
    rfl
  | succ d ih =>
    intro k i h0 hd hk
    obtain ⟨k, rfl⟩ : ∃ m, k = m + 1 := ⟨k - 1, by omega⟩
    have hlt : i < (s.size : Int) := by omega
    simp only [spec_IsWord.l0]
    rw [if_pos hlt, if_pos h0, wrap_up h0 hlt hn, ih k (i + 1) (by omega) (by omega) (by omega)]
    simp only [allF, letB]
    by_cases h1 : bt s i < 97
    · simp [h1, show ¬ 97 ≤ bt s i by omega]
    · by_cases h2 : bt s i > 122
      · simp [h1, h2, show ¬ bt s i ≤ 122 by omega]
      · simp [h1, h2, show 97 ≤ bt s i by omega, show bt s i ≤ 122 by omega]
theorem specIsWord_eq (s : ByteArray) (hn : s.size ≤ 140737488351232) (k : Nat) (hk : s.size < k) : spec_IsWord.f k s = some (isWordB s) := by
  unfold spec_IsWord.f isWordB
  rw [l1in, specIsWord_l0 s (by omega) s.size k 0 (by omega) (by omega) hk]
  simp only [Option.bind_some]
  by_cases h : 1 ≤ s.size ∧ s.size ≤ 8
  · rw [if_pos (by simp; omega)]
    simp [h]
  · rw [if_neg (by simp; omega)]
    simp [h]
theorem implIsWord_l0 (s : ByteArray) (hn : (s.size : Int) ≤ 140737488351232) : ∀ (d k : Nat) (i : Int), 0 ≤ i → (s.size : Int) - i = d → d < k →
    impl_IsWord.l0 k s (s.size : Int) i = some (allF (fun i => letB (bt s i)) d i) := by
  intro d
  induction d with
  | zero =>
    intro k i h0 hd hk
    obtain ⟨k, rfl⟩ : ∃ m, k = m + 1 := ⟨k - 1, by omega⟩
    simp only [impl_IsWord.l0]
    rw [if_neg (by omega)]
    rfl
  | succ d ih =>
    intro k i h0 hd hk
    obtain ⟨k, rfl⟩ : ∃ m, k = m + 1 := ⟨k - 1, by omega⟩
    have hlt : i < (s.size : Int) := by omega
    simp only [impl_IsWord.l0]
    rw [if_pos hlt, if_pos h0, if_pos hlt, wrap_up h0 hlt hn, ih k (i + 1) (by omega) (by omega) (by omega), isLetter_eq]
    simp only [allF, Option.bind_some]
    cases letB (bt s i) <;> simp
theorem implIsWord_eq (s : ByteArray) (hn : s.size ≤ 140737488351232) (k : Nat) (hk : s.size < k) : impl_IsWord.f k s = some (isWordB s) := by
  unfold impl_IsWord.f isWordB
  rw [inr, implIsWord_l0 s (by omega) s.size k 0 (by omega) (by omega) hk]
  simp only [Option.bind_some]
  by_cases h : 1 ≤ s.size ∧ s.size ≤ 8
  · rw [if_pos (by simp; omega)]
    simp [h]
  · rw [if_neg (by simp; omega)]
    simp [h]
def fitB (p s : ByteArray) (i : Int) : Bool := decide (bt p i = 63) || decide (bt p i = bt s i)
def fitsB (p s : ByteArray) : Bool := isPatB p && isWordB s && decide (p.size = s.size) && allF (fitB p s) p.size 0
theorem specFits_l0 (p s : ByteArray) (hn : (p.size : Int) ≤ 140737488351232) (he : p.size = s.size) : ∀ (d k : Nat) (i : Int), 0 ≤ i → (p.size : Int) - i = d → d < k →
    spec_FitsPattern.l0 k p s i = some (allF (fitB p s) d i) := by
  intro d
  induction d with
  | zero =>
    intro k i h0 hd hk
    obtain ⟨k, rfl⟩ : ∃ m, k = m + 1 := ⟨k - 1, by omega⟩
    simp only [spec_FitsPattern.l0]
    rw [if_neg (by omega)]
    rfl
  | succ d ih =>
    intro k i h0 hd hk
    obtain ⟨k, rfl⟩ : ∃ m, k = m + 1 := ⟨k - 1, by omega⟩
    have hlt : i < (p.size : Int) := by omega
    simp only [spec_FitsPattern.l0]
    rw [if_pos hlt, if_pos h0, if_pos (by omega : i < (s.size : Int)), wrap_up h0 hlt hn, ih k (i + 1) (by omega) (by omega) (by omega)]
    simp only [allF, fitB]
    by_cases h1 : bt p i = 63
    · simp [h1]
    · by_cases h2 : bt p i = bt s i <;> simp [h1, h2]
theorem specFits (k : Nat) (p s : ByteArray) (hp : p.size ≤ 140737488351232) (hs : s.size ≤ 140737488351232) (hk : p.size + s.size + 2 < k) : spec_FitsPattern.f k p s = some (fitsB p s) := by
  unfold spec_FitsPattern.f fitsB
  obtain ⟨k, rfl⟩ : ∃ m, k = m + 1 := ⟨k - 1, by omega⟩
  rw [specIsPattern_eq p hp _ (by omega), specIsWord_eq s hs _ (by omega)]
  simp only [Option.bind_some, spec_FitsPattern.j0]
  by_cases h1 : isPatB p = true
  · by_cases h2 : isWordB s = true
    · by_cases h3 : p.size = s.size
      · rw [specFits_l0 p s (by omega) h3 p.size k 0 (by omega) (by omega) (by omega)]
        simp [h1, h2, h3]
      · have h4 : ¬ (p.size : Int) = (s.size : Int) := by omega
        simp [h1, h2, h3, h4]
    · simp [h1, h2]
  · simp [h1]
theorem implFits_l0 (p s : ByteArray) (hn : (p.size : Int) ≤ 140737488351232) (he : p.size = s.size) : ∀ (d k : Nat) (i : Int), 0 ≤ i → (p.size : Int) - i = d → d < k →
    impl_FitsPattern.l0 k p s (p.size : Int) i = some (allF (fitB p s) d i) := by
  intro d
  induction d with
  | zero =>
    intro k i h0 hd hk
    obtain ⟨k, rfl⟩ : ∃ m, k = m + 1 := ⟨k - 1, by omega⟩
    simp only [impl_FitsPattern.l0]
    rw [if_neg (by omega)]
    rfl
  | succ d ih =>
    intro k i h0 hd hk
    obtain ⟨k, rfl⟩ : ∃ m, k = m + 1 := ⟨k - 1, by omega⟩
    have hlt : i < (p.size : Int) := by omega
    simp only [impl_FitsPattern.l0]
    rw [if_pos hlt, if_pos h0, if_pos hlt, if_pos (by omega : i < (s.size : Int)), wrap_up h0 hlt hn, ih k (i + 1) (by omega) (by omega) (by omega)]
    simp only [allF, fitB]
    by_cases h1 : bt p i = 63
    · simp [h1]
    · by_cases h2 : bt p i = bt s i <;> simp [h1, h2]
theorem implFits (k : Nat) (p s : ByteArray) (hp : p.size ≤ 140737488351232) (hs : s.size ≤ 140737488351232) (hk : p.size + s.size + 2 < k) : impl_FitsPattern.f k p s = some (fitsB p s) := by
  unfold impl_FitsPattern.f fitsB
  obtain ⟨k, rfl⟩ : ∃ m, k = m + 1 := ⟨k - 1, by omega⟩
  rw [implIsPattern_eq p hp _ (by omega), implIsWord_eq s hs _ (by omega)]
  simp only [Option.bind_some, impl_FitsPattern.j0]
  by_cases h1 : isPatB p = true
  · by_cases h2 : isWordB s = true
    · by_cases h3 : p.size = s.size
      · rw [implFits_l0 p s (by omega) h3 p.size k 0 (by omega) (by omega) (by omega)]
        simp [h1, h2, h3]
      · have h4 : ¬ (p.size : Int) = (s.size : Int) := by omega
        simp [h1, h2, h3, h4]
    · simp [h1, h2]
  · simp [h1]
theorem szStr (l : List ByteArray) (hw : ∀ s ∈ l, s.size ≤ maxLen) : ∀ (d k i : Nat) (q : Int), i + d = l.length → l.length ≤ 1048576 → d < k → 0 ≤ q → q ≤ 1048576 → ∃ r, laws_szStringS.l0 k l q (i : Int) = some r ∧ (r < 0 ∨ (0 ≤ r ∧ ∀ j, i ≤ j → j < l.length → (l.getD j ByteArray.empty).size ≤ 1048576)) := by
  intro d
  induction d with
  | zero =>
    intro k i q hi hn hk q0 q1
    obtain ⟨k, rfl⟩ : ∃ m, k = m + 1 := ⟨k - 1, by omega⟩
    simp only [laws_szStringS.l0]
    rw [if_neg (by omega)]
    exact ⟨q, rfl, Or.inr ⟨q0, fun j h1 h2 => by omega⟩⟩
  | succ d ih =>
    intro k i q hi hn hk q0 q1
    obtain ⟨k, rfl⟩ : ∃ m, k = m + 1 := ⟨k - 1, by omega⟩
    simp only [laws_szStringS.l0]
    have hlt : i < l.length := by omega
    have e : rdOf ByteArray.empty l (i : Int) = l[i] := by simp [rdOf, List.getD_eq_getElem?_getD, List.getElem?_eq_getElem hlt]
    have hs := hw l[i] (List.getElem_mem _)
    unfold maxLen at hs
    have e2 : wrap64 (q - (l[i].size : Int)) = q - l[i].size := by unfold wrap64; omega
    rw [if_pos (by omega), if_pos (by omega), e, e2]
    by_cases h : q - (l[i].size : Int) < 0
    · rw [if_pos h]
      exact ⟨-1, rfl, Or.inl (by decide)⟩
    · rw [if_neg h, wrap_nat hlt (by omega)]
      obtain ⟨r, er, hr⟩ := ih k (i + 1) (q - l[i].size) (by omega) hn (by omega) (by omega) (by omega)
      refine ⟨r, er, ?_⟩
      rcases hr with hr | ⟨r0, hr⟩
      · exact Or.inl hr
      · refine Or.inr ⟨r0, fun j h1 h2 => ?_⟩
        by_cases hj : j = i
        · subst hj
          simp only [List.getD_eq_getElem?_getD, List.getElem?_eq_getElem hlt, Option.getD_some]
          omega
        · exact hr j (by omega) h2
/-- What the law's guard lets by: a list of at most 2^20 strings of at most 2^20 bytes. -/
theorem szStrs (k : Nat) (l : List ByteArray) (hl : l.length ≤ 9223372036854775807) (hw : ∀ s ∈ l, s.size ≤ maxLen) (q : Int) (q0 : 0 ≤ q) (q1 : q ≤ 1048576) (hk : l.length < k) : ∃ r, laws_szStringS.f k l q = some r ∧ (r < 0 ∨ (0 ≤ r ∧ r ≤ q ∧ l.length ≤ 1048576 ∧ ∀ s ∈ l, s.size ≤ 1048576)) := by
  unfold laws_szStringS.f
  have e : wrap64 (q - (l.length : Int)) = q - l.length := by unfold wrap64; omega
  rw [e]
  by_cases h : q - (l.length : Int) < 0
  · rw [if_pos h]
    exact ⟨-1, rfl, Or.inl (by decide)⟩
  · rw [if_neg h]
    obtain ⟨r, er, hr⟩ := szStr l hw l.length k 0 (q - l.length) (by omega) (by omega) hk (by omega) (by omega)
    have mono : ∀ (d k i : Nat) (q : Int), i + d = l.length → l.length ≤ 1048576 → d < k → 0 ≤ q → q ≤ 1048576 → ∀ r, laws_szStringS.l0 k l q (i : Int) = some r → r ≤ q := by
      intro d
      induction d with
      | zero =>
        intro k i q hi hn hk q0 q1 r hr
        obtain ⟨k, rfl⟩ : ∃ m, k = m + 1 := ⟨k - 1, by omega⟩
        simp only [laws_szStringS.l0] at hr
        rw [if_neg (by omega)] at hr
        simp at hr
        omega
      | succ d ih =>
        intro k i q hi hn hk q0 q1 r hr
        obtain ⟨k, rfl⟩ : ∃ m, k = m + 1 := ⟨k - 1, by omega⟩
        have hlt : i < l.length := by omega
        have e : rdOf ByteArray.empty l (i : Int) = l[i] := by simp [rdOf, List.getD_eq_getElem?_getD, List.getElem?_eq_getElem hlt]
        have hs := hw l[i] (List.getElem_mem _)
        unfold maxLen at hs
        have e2 : wrap64 (q - (l[i].size : Int)) = q - l[i].size := by unfold wrap64; omega
        simp only [laws_szStringS.l0] at hr
        rw [if_pos (by omega), if_pos (by omega), e, e2] at hr
        by_cases h : q - (l[i].size : Int) < 0
        · rw [if_pos h] at hr
          simp at hr
          omega
        · rw [if_neg h, wrap_nat hlt (by omega)] at hr
          have := ih k (i + 1) (q - l[i].size) (by omega) hn (by omega) (by omega) (by omega) r hr
          omega
    have m := mono l.length k 0 (q - l.length) (by omega) (by omega) hk (by omega) (by omega) r er
    refine ⟨r, er, ?_⟩
    rcases hr with hr | ⟨r0, hr⟩
    · exact Or.inl hr
    · refine Or.inr ⟨r0, by omega, by omega, fun s hs => ?_⟩
      obtain ⟨j, hj, rfl⟩ := List.getElem_of_mem hs
      have := hr j (by omega) hj
      simpa [List.getD_eq_getElem?_getD, List.getElem?_eq_getElem hj] using this
theorem toStr (k : Nat) (l : List ByteArray) (hl : l.length ≤ 1000000000000) (hk : l.length < k) : laws_toStringS.f k l = some l := by
  unfold laws_toStringS.f
  rw [if_pos (by omega), if_pos (by omega)]
  refine copy_loop (fun k i s => laws_toStringS.l0 k l s (i : Int)) l ByteArray.empty (fun k s hs => ?_) (fun k i s hi hs => ?_) l.length k 0 _ (by omega) hk (by simp) (fun j h => by omega)
  · simp only [laws_toStringS.l0]
    rw [if_neg (by omega)]
  · simp only [laws_toStringS.l0]
    rw [if_pos (by omega), if_pos (by omega), if_pos (by omega), wrap_nat hi (by omega)]
    simp [rdOf]
theorem ba_ext {a b : ByteArray} : a.toList = b.toList ↔ a = b := by
  constructor
  · intro h
    rw [ByteArray.toList_eq, ByteArray.toList_eq] at h
    cases a
    cases b
    congr 1
    exact Array.ext' h
  · rintro rfl
    rfl
theorem eqStr (k : Nat) (a b : List ByteArray) (ha : a.length ≤ 1000000000000) (hk : a.length < k) : laws_eqStringS.f k a b = some (decide (a = b)) := by
  unfold laws_eqStringS.f
  by_cases hl : a.length = b.length
  · rw [if_pos (by omega)]
    have h := eq_loop (fun k i => laws_eqStringS.l0 k a b (i : Int)) a b ByteArray.empty hl (fun k => ?_) (fun k i hi => ?_) a.length k 0 (by omega) hk
    · simpa using h
    · simp only [laws_eqStringS.l0]
      rw [if_neg (by omega)]
    · simp only [laws_eqStringS.l0]
      rw [if_pos (by omega), if_pos (by omega), if_pos (by omega), wrap_nat hi (by omega)]
      simp only [ba_ext, rdOf, Int.toNat_natCast]
  · rw [if_neg (by omega)]
    have : ¬ a = b := fun e => hl (by rw [e])
    simp [this]
theorem markText_some : ∀ (d k : Nat) (x : Int) (s : ByteArray), 0 ≤ x → x < 10 ^ d → s.size + d ≤ 1000000 → d < k → ∃ r, laws_markText.l0 k x s = some r := by
  intro d
  induction d with
  | zero =>
    intro k x s h0 h1 hs hk
    obtain ⟨k, rfl⟩ : ∃ m, k = m + 1 := ⟨k - 1, by omega⟩
    simp only [laws_markText.l0]
    rw [if_neg (by simp at h1; omega), if_pos (by omega)]
    exact ⟨_, rfl⟩
  | succ d ih =>
    intro k x s h0 h1 hs hk
    obtain ⟨k, rfl⟩ : ∃ m, k = m + 1 := ⟨k - 1, by omega⟩
    simp only [laws_markText.l0, Option.bind_some]
    by_cases h : x > 0
    · have e1 : ∀ z : Int, (strOfNums [z]).size = 1 := fun z => rfl
      have hq : 0 ≤ Int.tdiv x 10 ∧ Int.tdiv x 10 ≤ x ∧ Int.tdiv x 10 < 10 ^ d := by
        rw [Int.tdiv_eq_ediv_of_nonneg h0]
        have h2 : x < 10 * 10 ^ d := by rw [Int.pow_succ] at h1; omega
        generalize (10 : Int) ^ d = t at h2
        omega
      by_cases hx : x ≤ 9223372036854775807
      · have e2 : wrap64 (Int.tdiv x 10) = Int.tdiv x 10 := by
          obtain ⟨a, b, _⟩ := hq
          unfold wrap64
          omega
        rw [if_pos h, e1, if_pos (by omega), e2]
        exact ih k _ _ hq.1 hq.2.2 (by rw [ByteArray.size_append, e1]; omega) (by omega)
      · have e2 : 0 ≤ wrap64 (Int.tdiv x 10) ∨ wrap64 (Int.tdiv x 10) < 0 := by omega
        rw [if_pos h, e1, if_pos (by omega)]
        rcases e2 with e2 | e2
        · have e3 : wrap64 (Int.tdiv x 10) ≤ Int.tdiv x 10 := by
            obtain ⟨a, b, _⟩ := hq
            unfold wrap64 at e2 ⊢
            omega
          exact ih k _ _ e2 (by omega) (by rw [ByteArray.size_append, e1]; omega) (by omega)
        · obtain ⟨k, rfl⟩ : ∃ m, k = m + 1 := ⟨k - 1, by omega⟩
          simp only [laws_markText.l0]
          rw [if_neg (by omega), if_pos (by rw [ByteArray.size_append, e1]; omega)]
          exact ⟨_, rfl⟩
    · rw [if_neg h, if_pos (by omega)]
      exact ⟨_, rfl⟩
def mkT (n : Int) : ByteArray := (laws_markText.f 40 n).getD ⟨#[]⟩
theorem markText_le (n : Int) (r : ByteArray) (h : laws_markText.f 40 n = some r) : ∀ j, laws_markText.f (40 + j) n = some r := by
  intro j
  induction j with
  | zero => exact h
  | succ j ih => exact laws_markText.mono n (40 + j) r ih
theorem markText (k : Nat) (n : Int) (h1 : n < 10000000000) (hk : 40 ≤ k) : laws_markText.f k n = some (mkT n) := by
  have ⟨r, hr⟩ : ∃ r, laws_markText.f 40 n = some r := by
    unfold laws_markText.f
    by_cases h : n ≤ 0
    · rw [if_pos h]
      exact ⟨_, rfl⟩
    · rw [if_neg h]
      exact markText_some 10 40 n _ (by omega) (by simpa using h1) (by decide) (by decide)
  have e : mkT n = r := by unfold mkT; rw [hr]; rfl
  rw [e]
  obtain ⟨j, rfl⟩ : ∃ j, k = 40 + j := ⟨k - 40, by omega⟩
  exact markText_le n r hr j
theorem mark_loopB (B : Nat) {α : Type} (F : Nat → Nat → List α → Option (Int × List α)) (n : Nat) (val : Nat → α)
    (hend : ∀ k s, B ≤ k → s.length = n → F (k + 1) n s = some (1 + (n : Int), s))
    (hstep : ∀ k i s, B ≤ k → i < n → s.length = n → F (k + 1) i s = F k (i + 1) (s.set i (val i))) (dv : α) :
    ∀ (d k i : Nat) (s : List α), i + d = n → d + B < k → s.length = n → (∀ j, j < i → s.getD j dv = val j) → F k i s = some (1 + (n : Int), (List.range n).map val) := by
  intro d
  induction d with
  | zero =>
    intro k i s hi hk hs hj
    obtain ⟨k, rfl⟩ : ∃ m, k = m + 1 := ⟨k - 1, by omega⟩
    obtain rfl : i = n := by omega
    rw [hend k s (by omega) hs]
    have e : s = (List.range i).map val := ext_getD s _ dv (by simpa using hs) fun j h => by
      have h' : j < i := by simpa using h
      rw [hj j h']
      simp [List.getD_eq_getElem?_getD, h']
    rw [← e]
  | succ d ih =>
    intro k i s hi hk hs hj
    obtain ⟨k, rfl⟩ : ∃ m, k = m + 1 := ⟨k - 1, by omega⟩
    rw [hstep k i s (by omega) (by omega) hs]
    refine ih k (i + 1) _ (by omega) (by omega) (by simpa using hs) fun j h => ?_
    rw [getD_set_self]
    by_cases e : i = j
    · subst e
      rw [if_pos ⟨rfl, by omega⟩]
    · rw [if_neg (fun h => e h.1)]
      exact hj j (by omega)
theorem held_loopB (B : Nat) (F : Nat → Nat → Option Int) (n : Nat)
    (hend : ∀ k, B ≤ k → F (k + 1) n = some (1 + (n : Int)))
    (hstep : ∀ k i, B ≤ k → i < n → F (k + 1) i = F k (i + 1)) :
    ∀ (d k i : Nat), i + d = n → d + B < k → F k i = some (1 + (n : Int)) := by
  intro d
  induction d with
  | zero =>
    intro k i hi hk
    obtain ⟨k, rfl⟩ : ∃ m, k = m + 1 := ⟨k - 1, by omega⟩
    obtain rfl : i = n := by omega
    exact hend k (by omega)
  | succ d ih =>
    intro k i hi hk
    obtain ⟨k, rfl⟩ : ∃ m, k = m + 1 := ⟨k - 1, by omega⟩
    rw [hstep k i (by omega) (by omega)]
    exact ih k (i + 1) (by omega) (by omega)
theorem markStr_ (T : Int → ByteArray) (hT : ∀ (k : Nat) (n : Int), n < 10000000000 → 40 ≤ k → laws_markText.f k n = some (T n)) (k : Nat) (l : List ByteArray) (hl : l.length ≤ 2000000) (hk : l.length + 41 < k) : laws_markStringS.f k l 1 = some (1 + (l.length : Int), (List.range l.length).map fun (j : Nat) => T (1 + (j : Int))) := by
  unfold laws_markStringS.f
  have h := mark_loopB 40 (fun k i s => laws_markStringS.l0 k s (1 + (i : Int)) (i : Int)) l.length (fun (j : Nat) => T (1 + (j : Int))) (fun k s hB hs => ?_) (fun k i s hB hi hs => ?_) ⟨#[]⟩ l.length k 0 l (by omega) (by omega) rfl (fun j h => by omega)
  · simpa using h
  · simp only [laws_markStringS.l0]
    rw [if_neg (by omega)]
  · simp only [laws_markStringS.l0]
    rw [if_pos (by omega), hT k _ (by omega) hB]
    simp only [Option.bind_some]
    rw [if_pos (by omega), wrap_nat hi (by omega), show wrap64 (1 + (i : Int) + 1) = 1 + ((i + 1 : Nat) : Int) by unfold wrap64; omega]
    simp
theorem heldStr_ (T : Int → ByteArray) (hT : ∀ (k : Nat) (n : Int), n < 10000000000 → 40 ≤ k → laws_markText.f k n = some (T n)) (k n : Nat) (hl : n ≤ 2000000) (hk : n + 41 < k) : laws_heldStringS.f k ((List.range n).map fun (j : Nat) => T (1 + (j : Int))) 1 = some (1 + (n : Int)) := by
  unfold laws_heldStringS.f
  have h := held_loopB 40 (fun k i => laws_heldStringS.l0 k ((List.range n).map fun (j : Nat) => T (1 + (j : Int))) (1 + (i : Int)) (i : Int)) n (fun k hB => ?_) (fun k i hB hi => ?_) n k 0 (by omega) (by omega)
  · simpa using h
  · simp only [laws_heldStringS.l0]
    rw [if_neg (by simp)]
  · simp only [laws_heldStringS.l0]
    rw [if_pos (by simp; omega), if_pos (by omega), hT k _ (by omega) hB]
    simp only [Option.bind_some]
    rw [wrap_nat hi (by omega), show wrap64 (1 + (i : Int) + 1) = 1 + ((i + 1 : Nat) : Int) by unfold wrap64; omega]
    rw [if_pos (by simp [rdOf, List.getD_eq_getElem?_getD, hi])]
theorem markStr (k : Nat) (l : List ByteArray) (hl : l.length ≤ 2000000) (hk : l.length + 41 < k) : laws_markStringS.f k l 1 = some (1 + (l.length : Int), (List.range l.length).map fun (j : Nat) => mkT (1 + (j : Int))) := markStr_ mkT (fun k n h1 hk => markText k n h1 hk) k l hl hk
theorem heldStr (k n : Nat) (hl : n ≤ 2000000) (hk : n + 41 < k) : laws_heldStringS.f k ((List.range n).map fun (j : Nat) => mkT (1 + (j : Int))) 1 = some (1 + (n : Int)) := heldStr_ mkT (fun k n h1 hk => markText k n h1 hk) k n hl hk
def fitL (p : ByteArray) (l : List ByteArray) : List ByteArray := l.filter fun s => fitsB p s
theorem fitL_len (p : ByteArray) (l : List ByteArray) : (fitL p l).length ≤ l.length := List.length_filter_le _ _
theorem fitL_drop (p : ByteArray) (l : List ByteArray) (i : Nat) (h : i < l.length) : fitL p (l.drop i) = (if fitsB p (l.getD i ByteArray.empty) = true then [l.getD i ByteArray.empty] else []) ++ fitL p (l.drop (i + 1)) := by
  have e : l.getD i ByteArray.empty = l[i] := by simp [List.getD_eq_getElem?_getD, List.getElem?_eq_getElem h]
  rw [e, List.drop_eq_getElem_cons h]
  unfold fitL
  rw [List.filter_cons]
  by_cases hp : fitsB p l[i] = true
  · rw [if_pos hp, if_pos hp]
    rfl
  · rw [if_neg hp, if_neg hp]
    rfl
theorem specFitL_l0 (p : ByteArray) (l : List ByteArray) (B : Nat) (hB : B ≤ 1000000000) (hp : p.size ≤ B) (hl : l.length ≤ 1048577) (hw : ∀ s ∈ l, s.size ≤ B) : ∀ (d k i : Nat) (acc : List ByteArray), i + d = l.length → acc.length ≤ i → d + 2 * B + 10 < k →
    spec_WordsFitting.l0 k l p acc (i : Int) = some (acc ++ fitL p (l.drop i)) := by
  intro d
  induction d with
  | zero =>
    intro k i acc hi ha hk
    obtain ⟨k, rfl⟩ : ∃ m, k = m + 1 := ⟨k - 1, by omega⟩
    simp only [spec_WordsFitting.l0]
    rw [if_neg (by omega), List.drop_of_length_le (by omega)]
    simp [fitL]
  | succ d ih =>
    intro k i acc hi ha hk
    obtain ⟨k, rfl⟩ : ∃ m, k = m + 1 := ⟨k - 1, by omega⟩
    have hlt : i < l.length := by omega
    have e : rdOf ByteArray.empty l (i : Int) = l.getD i ByteArray.empty := by simp [rdOf]
    have hs : (l.getD i ByteArray.empty).size ≤ B := hw _ (by simp [List.getD_eq_getElem?_getD, List.getElem?_eq_getElem hlt])
    simp only [spec_WordsFitting.l0]
    rw [if_pos (by omega), if_pos (by omega), e, specFits k p _ (by omega) (by omega) (by omega), wrap_nat hlt (by omega), fitL_drop p l i hlt]
    simp only [Option.bind_some]
    by_cases h : fitsB p (l.getD i ByteArray.empty) = true
    · rw [if_pos h, if_pos (by omega), ih k (i + 1) _ (by omega) (by simp; omega) (by omega), if_pos h, List.append_assoc]
    · rw [if_neg h, ih k (i + 1) _ (by omega) (by omega) (by omega), if_neg h, List.nil_append]
theorem specFitL (k : Nat) (p : ByteArray) (l : List ByteArray) (B : Nat) (hB : B ≤ 1000000000) (hp : p.size ≤ B) (hl : l.length ≤ 1048577) (hw : ∀ s ∈ l, s.size ≤ B) (hk : l.length + 2 * B + 10 < k) : spec_WordsFitting.f k l p = some (fitL p l) := by
  have h := specFitL_l0 p l B hB hp hl hw l.length k 0 [] (by omega) (by simp) (by omega)
  unfold spec_WordsFitting.f
  simpa using h
theorem implFitL_l0 (p : ByteArray) (l : List ByteArray) (B : Nat) (hB : B ≤ 1000000000) (hp : p.size ≤ B) (hl : l.length ≤ 1048577) (hw : ∀ s ∈ l, s.size ≤ B) : ∀ (d k i : Nat) (acc : List ByteArray), i + d = l.length → acc.length ≤ i → d + 2 * B + 10 < k →
    impl_WordsFitting.t_l0 k p acc l (l.length : Int) (i : Int) = some (acc ++ fitL p (l.drop i)) := by
  intro d
  induction d with
  | zero =>
    intro k i acc hi ha hk
    obtain ⟨k, rfl⟩ : ∃ m, k = m + 1 := ⟨k - 1, by omega⟩
    simp only [impl_WordsFitting.t_l0]
    rw [if_neg (by omega), List.drop_of_length_le (by omega)]
    simp [fitL]
  | succ d ih =>
    intro k i acc hi ha hk
    obtain ⟨k, rfl⟩ : ∃ m, k = m + 1 := ⟨k - 1, by omega⟩
    have hlt : i < l.length := by omega
    have e : rdOf ByteArray.empty l (i : Int) = l.getD i ByteArray.empty := by simp [rdOf]
    have hs : (l.getD i ByteArray.empty).size ≤ B := hw _ (by simp [List.getD_eq_getElem?_getD, List.getElem?_eq_getElem hlt])
    simp only [impl_WordsFitting.t_l0]
    rw [if_pos (by omega), if_pos (by omega), if_pos (by omega), e, implFits k p _ (by omega) (by omega) (by omega), wrap_nat hlt (by omega), fitL_drop p l i hlt]
    simp only [Option.bind_some]
    by_cases h : fitsB p (l.getD i ByteArray.empty) = true
    · rw [if_pos h, if_pos (by omega), ih k (i + 1) _ (by omega) (by simp; omega) (by omega), if_pos h, List.append_assoc]
    · rw [if_neg h, ih k (i + 1) _ (by omega) (by omega) (by omega), if_neg h, List.nil_append]
theorem implFitL (k : Nat) (p : ByteArray) (l : List ByteArray) (B : Nat) (hB : B ≤ 1000000000) (hp : p.size ≤ B) (hl : l.length ≤ 1048577) (hw : ∀ s ∈ l, s.size ≤ B) (hk : l.length + 2 * B + 10 < k) : impl_WordsFitting.f k l p = some (fitL p l) := by
  have h := implFitL_l0 p l B hB hp hl hw l.length k 0 [] (by omega) (by simp) (by omega)
  unfold impl_WordsFitting.f impl_WordsFitting.t_f
  simpa using h
theorem FnExactWordsFitting (l : List ByteArray) (hl : l.length ≤ 9223372036854775807) (hw : ∀ s ∈ l, s.size ≤ maxLen) (p : ByteArray) (_hp : p.size ≤ 140737488351232) : ∃ k, laws_FnExactWordsFitting.f k l p = some true := by
  obtain ⟨K, hK⟩ : ∃ K, K = l.length + 3000000 := ⟨_, rfl⟩
  refine ⟨K + 1, ?_⟩
  unfold laws_FnExactWordsFitting.f
  by_cases h : (p.size : Int) > 1048576
  · rw [if_pos h]
  rw [if_neg h]
  obtain ⟨r, er, hr⟩ := szStrs (K + 1) l hl hw 1048576 (by decide) (by decide) (by omega)
  rw [er]
  simp only [Option.bind_some]
  by_cases hneg : r < 0
  · rw [if_pos hneg]
  rw [if_neg hneg]
  rcases hr with hr | ⟨_, _, hn, hs⟩
  · exact absurd hr hneg
  have hv := fitL_len p l
  rw [toStr (K + 1) l (by omega) (by omega)]
  simp only [Option.bind_some]
  rw [specFitL (K + 1) p l 1048576 (by decide) (by omega) (by omega) hs (by omega), implFitL (K + 1) p l 1048576 (by decide) (by omega) (by omega) hs (by omega)]
  simp only [Option.bind_some]
  rw [eqStr (K + 1) _ _ (by omega) (by omega), eqStr (K + 1) l l (by omega) (by omega), markStr (K + 1) l (by omega) (by omega)]
  simp only [Option.bind_some, decide_true, if_true]
  rw [if_neg (by omega)]
  simp only [laws_FnExactWordsFitting.j0, Bool.not_true, Bool.false_eq_true, if_false]
  rw [markStr K _ (by omega) (by omega)]
  simp only [Option.bind_some]
  rw [heldStr K _ (by omega) (by omega), toStr K l (by omega) (by omega)]
  simp only [Option.bind_some]
  rw [if_neg (by omega), if_pos trivial, implFitL K p l 1048576 (by decide) (by omega) (by omega) hs (by omega)]
  simp only [Option.bind_some]
  rw [eqStr K _ _ (by omega) (by omega)]
  simp only [Option.bind_some, decide_true, if_true]
  rw [if_neg (by omega)]
end Go.Proofs.Ytgnpindamkgggaa.Pure
