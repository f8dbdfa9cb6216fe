/- The law FnExactCountLetter answers true for all two strings. No condition. -/
import Derived.Test.YtoblbpgipkmljaaPFnExactCountLetterx2
namespace Go.Proofs.Ytoblbpgipkmljaa.Pure
open Go.RowKit Go.Proofs.Ytoblbpgipkmljaa.PFnExactCountLetter Go.Proofs.YtoblbpgipkmljaaW.PrintWords Go.Proofs.YtoblbpgipkmljaaW.PrintLast Go.Proofs.YtoblbpgipkmljaaW.PrintMore
set_option linter.unusedVariables false
set_option linter.unusedSimpArgs false
theorem inr (a b c : Int) : impl_InRange.f a b c = some (decide (b ≤ a ∧ a ≤ c)) := by
  unfold impl_InRange.f
  by_cases h : b ≤ a <;> simp [h]
theorem l1in (a b c : Int) : spec_l1In.f a b c = some (decide (b ≤ a ∧ a ≤ c)) := by
  unfold spec_l1In.f
  by_cases h : b ≤ a <;> simp [h]
theorem wrap_nat {m n : Nat} (h : m < n) (hn : n ≤ 140737488351232) : wrap64 ((m : Int) + 1) = ((m + 1 : Nat) : Int) := by
  unfold wrap64
  omega
theorem getD_set_self {α : Type} (l : List α) (i j : Nat) (v d : α) : (l.set i v).getD j d = if i = j ∧ i < l.length then v else l.getD j d := by
  simp only [List.getD_eq_getElem?_getD, List.getElem?_set]
  by_cases h : i = j
  · subst h
    by_cases h2 : i < l.length
    · simp [h2]
    · simp [h2]
  · simp [h]
theorem ext_getD {α : Type} (a b : List α) (d : α) (hl : a.length = b.length) (h : ∀ j, j < b.length → a.getD j d = b.getD j d) : a = b := by
  refine List.ext_getElem hl fun j h1 h2 => ?_
  have := h j h2
  simpa [List.getD_eq_getElem?_getD, List.getElem?_eq_getElem h1, List.getElem?_eq_getElem h2] using this
theorem copy_loop {α : Type} (F : Nat → Nat → List α → Option (List α)) (x0 : List α) (dv : α)
    (hend : ∀ k s, s.length = x0.length → F (k + 1) x0.length s = some s)
    (hstep : ∀ k i s, i < x0.length → s.length = x0.length → F (k + 1) i s = F k (i + 1) (s.set i (x0.getD i dv))) :
    ∀ (d k i : Nat) (s : List α), i + d = x0.length → d < k → s.length = x0.length → (∀ j, j < i → s.getD j dv = x0.getD j dv) → F k i s = some x0 := by
  intro d
  induction d with
  | zero =>
    intro k i s hi hk hs hj
    obtain ⟨k, rfl⟩ : ∃ m, k = m + 1 := ⟨k - 1, by omega⟩
    obtain rfl : i = x0.length := by omega
    rw [hend k s hs, ext_getD s x0 dv hs hj]
  | succ d ih =>
    intro k i s hi hk hs hj
    obtain ⟨k, rfl⟩ : ∃ m, k = m + 1 := ⟨k - 1, by omega⟩
    rw [hstep k i s (by omega) hs]
    refine ih k (i + 1) _ (by omega) (by omega) (by simpa using hs) fun j h => ?_
    rw [getD_set_self]
    by_cases e : i = j
    · subst e
      rw [if_pos ⟨rfl, by omega⟩]
    · rw [if_neg (fun h => e h.1)]
      exact hj j (by omega)
theorem eq_loop {α : Type} [DecidableEq α] (F : Nat → Nat → Option Bool) (x0 x1 : List α) (dv : α) (hl : x0.length = x1.length)
    (hend : ∀ k, F (k + 1) x0.length = some true)
    (hstep : ∀ k i, i < x0.length → F (k + 1) i = if x0.getD i dv = x1.getD i dv then F k (i + 1) else some false) :
    ∀ (d k i : Nat), i + d = x0.length → d < k → F k i = some (decide (x0.drop i = x1.drop i)) := by
  intro d
  induction d with
  | zero =>
    intro k i hi hk
    obtain ⟨k, rfl⟩ : ∃ m, k = m + 1 := ⟨k - 1, by omega⟩
    obtain rfl : i = x0.length := by omega
    rw [hend]
    simp [hl]
  | succ d ih =>
    intro k i hi hk
    obtain ⟨k, rfl⟩ : ∃ m, k = m + 1 := ⟨k - 1, by omega⟩
    have h0 : i < x0.length := by omega
    have h1 : i < x1.length := by omega
    rw [hstep k i h0, ih k (i + 1) (by omega) (by omega), List.drop_eq_getElem_cons h0, List.drop_eq_getElem_cons h1]
    simp only [List.getD_eq_getElem?_getD, List.getElem?_eq_getElem h0, List.getElem?_eq_getElem h1, Option.getD_some, List.cons.injEq]
    by_cases e : x0[i] = x1[i] <;> simp [e]
theorem mark_loop {α : Type} (F : Nat → Nat → List α → Option (Int × List α)) (n : Nat) (val : Nat → α)
    (hend : ∀ k s, s.length = n → F (k + 1) n s = some (1 + (n : Int), s))
    (hstep : ∀ k i s, i < n → s.length = n → F (k + 1) i s = F k (i + 1) (s.set i (val i))) (dv : α) :
    ∀ (d k i : Nat) (s : List α), i + d = n → d < k → s.length = n → (∀ j, j < i → s.getD j dv = val j) → F k i s = some (1 + (n : Int), (List.range n).map val) := by
  intro d
  induction d with
  | zero =>
    intro k i s hi hk hs hj
    obtain ⟨k, rfl⟩ : ∃ m, k = m + 1 := ⟨k - 1, by omega⟩
    obtain rfl : i = n := by omega
    rw [hend k s hs]
    have e : s = (List.range i).map val := ext_getD s _ dv (by simpa using hs) fun j h => by
      have h' : j < i := by simpa using h
      rw [hj j h']
      simp [List.getD_eq_getElem?_getD, h']
    rw [← e]
  | succ d ih =>
    intro k i s hi hk hs hj
    obtain ⟨k, rfl⟩ : ∃ m, k = m + 1 := ⟨k - 1, by omega⟩
    rw [hstep k i s (by omega) hs]
    refine ih k (i + 1) _ (by omega) (by omega) (by simpa using hs) fun j h => ?_
    rw [getD_set_self]
    by_cases e : i = j
    · subst e
      rw [if_pos ⟨rfl, by omega⟩]
    · rw [if_neg (fun h => e h.1)]
      exact hj j (by omega)
theorem held_loop (F : Nat → Nat → Option Int) (n : Nat)
    (hend : ∀ k, F (k + 1) n = some (1 + (n : Int)))
    (hstep : ∀ k i, i < n → F (k + 1) i = F k (i + 1)) :
    ∀ (d k i : Nat), i + d = n → d < k → F k i = some (1 + (n : Int)) := by
  intro d
  induction d with
  | zero =>
    intro k i hi hk
    obtain ⟨k, rfl⟩ : ∃ m, k = m + 1 := ⟨k - 1, by omega⟩
    obtain rfl : i = n := by omega
    exact hend k
  | succ d ih =>
    intro k i hi hk
    obtain ⟨k, rfl⟩ : ∃ m, k = m + 1 := ⟨k - 1, by omega⟩
    rw [hstep k i (by omega)]
    exact ih k (i + 1) (by omega) (by omega)
/-- A loop that counts up, told by its step. -/
def runL {σ ρ : Type} (step : Nat → σ → ρ ⊕ σ) (fin : σ → ρ) : Nat → Nat → σ → ρ
  | 0, _, s => fin s
  | d + 1, i, s => match step i s with
    | .inl r => r
    | .inr s' => runL step fin d (i + 1) s'
theorem loop_run {σ ρ : Type} (F : Nat → Nat → σ → Option ρ) (n : Nat) (step : Nat → σ → ρ ⊕ σ) (fin : σ → ρ) (Inv : Nat → σ → Prop)
    (hend : ∀ k s, Inv n s → F (k + 1) n s = some (fin s))
    (hstep : ∀ k i s, i < n → Inv i s → F (k + 1) i s = match step i s with
      | .inl r => some r
      | .inr s' => F k (i + 1) s')
    (hinv : ∀ i s s', i < n → Inv i s → step i s = .inr s' → Inv (i + 1) s') :
    ∀ (d k i : Nat) (s : σ), i + d = n → d < k → Inv i s → F k i s = some (runL step fin d i s) := by
  intro d
  induction d with
  | zero =>
    intro k i s hi hk hs
    obtain ⟨k, rfl⟩ : ∃ m, k = m + 1 := ⟨k - 1, by omega⟩
    obtain rfl : i = n := by omega
    exact hend k s hs
  | succ d ih =>
    intro k i s hi hk hs
    obtain ⟨k, rfl⟩ : ∃ m, k = m + 1 := ⟨k - 1, by omega⟩
    rw [hstep k i s (by omega) hs]
    unfold runL
    cases e : step i s with
    | inl r => rfl
    | inr s' => exact ih k (i + 1) s' (by omega) (by omega) (hinv i s s' (by omega) hs e)
theorem one_neg (n : Nat) : (1 + (n : Int) < 0) = False := by
  simp
  omega
theorem u8_bds {n : Int} (h : (Lit.int .u8 n).wf = true) : 0 ≤ n ∧ n ≤ 255 := by
  simp [Lit.wf, IntKind.min, IntKind.max, IntKind.signed, IntKind.bits] at h
  omega
theorem i64_bds {n : Int} (h : (Lit.int .i64 n).wf = true) : -9223372036854775808 ≤ n ∧ n ≤ 9223372036854775807 := by
  simp [Lit.wf, IntKind.min, IntKind.max, IntKind.signed, IntKind.bits] at h
  omega
theorem tmod_bd (a : Int) {b : Int} (hb : 0 < b) : -b < Int.tmod a b ∧ Int.tmod a b < b := by
  by_cases h : 0 ≤ a
  · rw [Int.tmod_eq_emod_of_nonneg h]
    have := Int.emod_nonneg a (show b ≠ 0 by omega)
    have := Int.emod_lt_of_pos a hb
    omega
  · have e : Int.tmod a b = -(Int.tmod (-a) b) := by rw [Int.neg_tmod]; omega
    rw [e, Int.tmod_eq_emod_of_nonneg (by omega)]
    have := Int.emod_nonneg (-a) (show b ≠ 0 by omega)
    have := Int.emod_lt_of_pos (-a) hb
    omega
def allF (f : Int → Bool) : Nat → Int → Bool
  | 0, _ => true
  | d + 1, i => f i && allF f d (i + 1)
theorem wrap_up {i n : Int} (h0 : 0 ≤ i) (h : i < n) (hn : n ≤ 140737488351232) : wrap64 (i + 1) = i + 1 := by
  unfold wrap64
  omega
def letB (c : Int) : Bool := decide (97 ≤ c ∧ c ≤ 122)
def isWordB (s : ByteArray) : Bool := decide (1 ≤ s.size ∧ s.size ≤ 8) && allF (fun i => letB (bt s i)) s.size 0
def cntStep (s : ByteArray) (c : Int) (i : Nat) (n : Int) : Int ⊕ Int := .inr (if bt s i = c then wrap64 (n + 1) else n)
def cntV (s t : ByteArray) : Int := if isWordB s = true ∧ t.size = 1 ∧ letB (bt t 0) = true then runL (cntStep s (bt t 0)) id s.size 0 0 else 0
theorem specIsWord_l0 (s : ByteArray) (hn : (s.size : Int) ≤ 140737488351232) : ∀ (d k : Nat) (i : Int), 0 ≤ i → (s.size : Int) - i = d → d < k →
    spec_IsWord.l0 k s i = some (allF (fun i => letB (bt s i)) d i) := by
  intro d
  induction d with
  | zero =>
    intro k i h0 hd hk
    obtain ⟨k, rfl⟩ : ∃ m, k = m + 1 := ⟨k - 1, by omega⟩
    simp only [spec_IsWord.l0]
    rw [if_neg (by omega)]
    rfl
  | succ d ih =>
    intro k i h0 hd hk
    obtain ⟨k, rfl⟩ : ∃ m, k = m + 1 := ⟨k - 1, by omega⟩
    have hlt : i < (s.size : Int) := by omega
    simp only [spec_IsWord.l0]
    rw [if_pos hlt, if_pos h0, wrap_up h0 hlt hn, ih k (i + 1) (by omega) (by omega) (by omega)]
    simp only [allF, letB]
    by_cases h1 : bt s i < 97
    · simp [h1, show ¬ 97 ≤ bt s i by omega]
    · by_cases h2 : bt s i > 122
      · simp [h1, h2, show ¬ bt s i ≤ 122 by omega]
      · simp [h1, h2, show 97 ≤ bt s i by omega, show bt s i ≤ 122 by omega]
theorem specIsWord_eq (s : ByteArray) (hn : s.size ≤ 140737488351232) (k : Nat) (hk : s.size < k) : spec_IsWord.f k s = some (isWordB s) := by
  unfold spec_IsWord.f isWordB
  rw [l1in, specIsWord_l0 s (by omega) s.size k 0 (by omega) (by omega) hk]
  simp only [Option.bind_some]
  by_cases h : 1 ≤ s.size ∧ s.size ≤ 8
  · rw [if_pos (by simp; omega)]
    simp [h]
  · rw [if_neg (by simp; omega)]
    simp [h]
theorem specCount (k : Nat) (s t : ByteArray) (hs : s.size ≤ 140737488351232) (ht : t.size ≤ 140737488351232) (hk : 3 * s.size + 2 * t.size + 100 < k) : spec_CountLetter.f k s t = some (cntV s t) := by
  refine at_rounds (g := fun k => spec_CountLetter.f k s t) (spec_CountLetter.mono s t) (k := 2 * (s.size + 1) + (s.size + t.size + 10)) (by omega) ?_
  show spec_CountLetter.l0 (2 * (s.size + 1) + (s.size + t.size + 10)) s t 0 0 = _
  have wt : isWordB t = true ∧ t.size = 1 ↔ t.size = 1 ∧ letB (bt t 0) = true := by
    constructor
    · rintro ⟨h, h1⟩
      refine ⟨h1, ?_⟩
      unfold isWordB at h
      rw [h1] at h
      simpa [allF] using h
    · rintro ⟨h1, h⟩
      refine ⟨?_, h1⟩
      unfold isWordB
      rw [h1]
      simpa [allF] using h
  unfold cntV
  by_cases hc : isWordB s = true ∧ t.size = 1 ∧ letB (bt t 0) = true
  · rw [if_pos hc]
    have hw := (wt.2 hc.2).1
    have key := loop_run (fun k i n => spec_CountLetter.l0 (2 * k + (s.size + t.size + 10)) s t n (i : Int)) s.size (cntStep s (bt t 0)) id (fun _ _ => True) (fun k n _ => ?_) (fun k i n hi _ => ?_) (fun _ _ _ _ _ _ => trivial) s.size (s.size + 1) 0 0 (by omega) (by omega) trivial
    · simpa only [Int.natCast_zero] using key
    · show spec_CountLetter.l0 (2 * (k + 1) + (s.size + t.size + 10)) s t n _ = _
      rw [show 2 * (k + 1) + (s.size + t.size + 10) = 2 * k + (s.size + t.size + 10) + 1 + 1 by omega]
      have hm : s.size + t.size + 10 ≤ 2 * k + (s.size + t.size + 10) := by omega
      generalize 2 * k + (s.size + t.size + 10) = m at hm ⊢
      simp only [spec_CountLetter.l0, spec_CountLetter.j1]
      rw [if_neg (by omega), if_neg (by decide)]
      rfl
    · show spec_CountLetter.l0 (2 * (k + 1) + (s.size + t.size + 10)) s t n _ = _
      rw [show 2 * (k + 1) + (s.size + t.size + 10) = 2 * k + (s.size + t.size + 10) + 1 + 1 by omega]
      have hm : s.size + t.size + 10 ≤ 2 * k + (s.size + t.size + 10) := by omega
      generalize 2 * k + (s.size + t.size + 10) = m at hm ⊢
      simp only [spec_CountLetter.l0, spec_CountLetter.j1]
      rw [if_pos (by omega), specIsWord_eq s hs _ (by omega), specIsWord_eq t ht _ (by omega)]
      simp only [Option.bind_some]
      have e1 : ((t.size : Int) == 1) = true := by simp; omega
      rw [if_pos hc.1, if_pos hw, e1, if_pos rfl, if_pos (by omega), if_pos (by omega), if_pos (by omega), wrap_nat hi hs]
      unfold cntStep
      by_cases h : bt s i = bt t 0 <;> simp [h]
  · rw [if_neg hc, show 2 * (s.size + 1) + (s.size + t.size + 10) = 3 * s.size + t.size + 10 + 1 + 1 by omega]
    have hm : s.size + t.size + 10 ≤ 3 * s.size + t.size + 10 := by omega
    generalize 3 * s.size + t.size + 10 = m at hm ⊢
    simp only [spec_CountLetter.l0, spec_CountLetter.j1]
    by_cases h0 : (0 : Int) < (s.size : Int)
    · rw [if_pos h0, specIsWord_eq s hs _ (by omega), specIsWord_eq t ht _ (by omega)]
      simp only [Option.bind_some]
      by_cases h1 : isWordB s = true
      · rw [if_pos h1]
        by_cases h2 : isWordB t = true
        · rw [if_pos h2]
          have h3 : ¬ t.size = 1 := fun h => hc ⟨h1, wt.1 ⟨h2, h⟩⟩
          have e1 : ((t.size : Int) == 1) = false := by simp; omega
          rw [e1, if_neg (by decide)]
        · rw [if_neg h2, if_neg (by decide)]
      · rw [if_neg h1, if_neg (by decide)]
    · rw [if_neg h0, if_neg (by decide)]
theorem isLetter_eq (c : Int) : impl_isLetter.f c = some (letB c) := by
  unfold impl_isLetter.f letB
  by_cases h : c ≥ 97 <;> simp [h]
theorem implIsWord_l0 (s : ByteArray) (hn : (s.size : Int) ≤ 140737488351232) : ∀ (d k : Nat) (i : Int), 0 ≤ i → (s.size : Int) - i = d → d < k →
    impl_IsWord.l0 k s (s.size : Int) i = some (allF (fun i => letB (bt s i)) d i) := by
  intro d
  induction d with
  | zero =>
    intro k i h0 hd hk
    obtain ⟨k, rfl⟩ : ∃ m, k = m + 1 := ⟨k - 1, by omega⟩
    simp only [impl_IsWord.l0]
    rw [if_neg (by omega)]
    rfl
  | succ d ih =>
    intro k i h0 hd hk
    obtain ⟨k, rfl⟩ : ∃ m, k = m + 1 := ⟨k - 1, by omega⟩
    have hlt : i < (s.size : Int) := by omega
    simp only [impl_IsWord.l0]
    rw [if_pos hlt, if_pos h0, if_pos hlt, wrap_up h0 hlt hn, ih k (i + 1) (by omega) (by omega) (by omega), isLetter_eq]
    simp only [allF, Option.bind_some]
    cases letB (bt s i) <;> simp
theorem implIsWord_eq (s : ByteArray) (hn : s.size ≤ 140737488351232) (k : Nat) (hk : s.size < k) : impl_IsWord.f k s = some (isWordB s) := by
  unfold impl_IsWord.f isWordB
  rw [inr, implIsWord_l0 s (by omega) s.size k 0 (by omega) (by omega) hk]
  simp only [Option.bind_some]
  by_cases h : 1 ≤ s.size ∧ s.size ≤ 8
  · rw [if_pos (by simp; omega)]
    simp [h]
  · rw [if_neg (by simp; omega)]
    simp [h]
theorem implCount (k : Nat) (s t : ByteArray) (hs : s.size ≤ 140737488351232) (hk : s.size + 4 < k) : impl_CountLetter.f k s t = some (cntV s t) := by
  obtain ⟨k, rfl⟩ : ∃ m, k = m + 1 := ⟨k - 1, by omega⟩
  unfold impl_CountLetter.f cntV
  rw [implIsWord_eq s hs _ (by omega)]
  simp only [Option.bind_some, isLetter_eq]
  by_cases h1 : isWordB s = true
  · rw [if_pos h1]
    by_cases h2 : t.size = 1
    · rw [if_pos (by omega), if_pos (by omega)]
      by_cases h3 : letB (bt t 0) = true
      · rw [if_pos ⟨h1, h2, h3⟩, h3]
        simp only [impl_CountLetter.j0, Bool.not_true, Bool.false_eq_true, if_false]
        refine loop_run (fun k i n => impl_CountLetter.l0 k s t n (s.size : Int) (i : Int)) s.size (cntStep s (bt t 0)) id (fun _ _ => True) (fun k n _ => ?_) (fun k i n hi _ => ?_) (fun _ _ _ _ _ _ => trivial) s.size k 0 0 (by omega) (by omega) trivial
        · simp only [impl_CountLetter.l0]
          rw [if_neg (by omega)]
          rfl
        · simp only [impl_CountLetter.l0]
          rw [if_pos (by omega), if_pos (by omega), if_pos (by omega), if_pos (by omega), wrap_nat hi hs]
          unfold cntStep
          by_cases h : bt s i = bt t 0 <;> simp [h]
      · rw [if_neg (fun h => h3 h.2.2)]
        simp [impl_CountLetter.j0, h3]
    · rw [if_neg (by omega), if_neg (fun h => h2 h.2.1)]
      simp [impl_CountLetter.j0]
  · rw [if_neg h1, if_neg (fun h => h1 h.1)]
    simp [impl_CountLetter.j0]
theorem FnExactCountLetter : laws_FnExactCountLetter.Pure := by
  intro s t hs ht
  refine ⟨3 * s.size + 2 * t.size + 200, ?_⟩
  unfold laws_FnExactCountLetter.f
  rw [specCount _ s t hs ht (by omega), implCount _ s t hs (by omega)]
  simp
end Go.Proofs.Ytoblbpgipkmljaa.Pure
