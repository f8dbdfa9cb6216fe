/- The law FnExactLettersAt answers true for every slice of strings and place. No condition. -/
import Derived.Test.YtgnpindamkgggaaPFnExactLettersAtx2
namespace Go.Proofs.Ytgnpindamkgggaa.Pure
open Go.RowKit Go.Proofs.Ytgnpindamkgggaa.PFnExactLettersAt Go.Proofs.YtgnpindamkgggaaW.PrintWords Go.Proofs.YtgnpindamkgggaaW.PrintLast Go.Proofs.YtgnpindamkgggaaW.PrintMore
set_option linter.unusedVariables false
set_option linter.unusedSimpArgs false
theorem inr (a b c : Int) : impl_InRange.f a b c = some (decide (b ≤ a ∧ a ≤ c)) := by
  unfold impl_InRange.f
  by_cases h : b ≤ a <;> simp [h]
theorem l1in (a b c : Int) : spec_l1In.f a b c = some (decide (b ≤ a ∧ a ≤ c)) := by
  unfold spec_l1In.f
  by_cases h : b ≤ a <;> simp [h]
theorem wrap_nat {m n : Nat} (h : m < n) (hn : n ≤ 140737488351232) : wrap64 ((m : Int) + 1) = ((m + 1 : Nat) : Int) := by
  unfold wrap64
  omega
theorem getD_set_self {α : Type} (l : List α) (i j : Nat) (v d : α) : (l.set i v).getD j d = if i = j ∧ i < l.length then v else l.getD j d := by
  simp only [List.getD_eq_getElem?_getD, List.getElem?_set]
  by_cases h : i = j
  · subst h
    by_cases h2 : i < l.length
    · simp [h2]
    · simp [h2]
  · simp [h]
theorem ext_getD {α : Type} (a b : List α) (d : α) (hl : a.length = b.length) (h : ∀ j, j < b.length → a.getD j d = b.getD j d) : a = b := by
  refine List.ext_getElem hl fun j h1 h2 => ?_
  have := h j h2
  simpa [List.getD_eq_getElem?_getD, List.getElem?_eq_getElem h1, List.getElem?_eq_getElem h2] using this
theorem copy_loop {α : Type} (F : Nat → Nat → List α → Option (List α)) (x0 : List α) (dv : α)
    (hend : ∀ k s, s.length = x0.length → F (k + 1) x0.length s = some s)
    (hstep : ∀ k i s, i < x0.length → s.length = x0.length → F (k + 1) i s = F k (i + 1) (s.set i (x0.getD i dv))) :
    ∀ (d k i : Nat) (s : List α), i + d = x0.length → d < k → s.length = x0.length → (∀ j, j < i → s.getD j dv = x0.getD j dv) → F k i s = some x0 := by
  intro d
  induction d with
  | zero =>
    intro k i s hi hk hs hj
    obtain ⟨k, rfl⟩ : ∃ m, k = m + 1 := ⟨k - 1, by omega⟩
    obtain rfl : i = x0.length := by omega
    rw [hend k s hs, ext_getD s x0 dv hs hj]
  | succ d ih =>
    intro k i s hi hk hs hj
    obtain ⟨k, rfl⟩ : ∃ m, k = m + 1 := ⟨k - 1, by omega⟩
    rw [hstep k i s (by omega) hs]
    refine ih k (i + 1) _ (by omega) (by omega) (by simpa using hs) fun j h => ?_
    rw [getD_set_self]
    by_cases e : i = j
    · subst e
      rw [if_pos ⟨rfl, by omega⟩]
    · rw [if_neg (fun h => e h.1)]
      exact hj j (by omega)
theorem eq_loop {α : Type} [DecidableEq α] (F : Nat → Nat → Option Bool) (x0 x1 : List α) (dv : α) (hl : x0.length = x1.length)
    (hend : ∀ k, F (k + 1) x0.length = some true)
    (hstep : ∀ k i, i < x0.length → F (k + 1) i = if x0.getD i dv = x1.getD i dv then F k (i + 1) else some false) :
    ∀ (d k i : Nat), i + d = x0.length → d < k → F k i = some (decide (x0.drop i = x1.drop i)) := by
  intro d
  induction d with
  | zero =>
    intro k i hi hk
    obtain ⟨k, rfl⟩ : ∃ m, k = m + 1 := ⟨k - 1, by omega⟩
    obtain rfl : i = x0.length := by omega
    rw [hend]
    simp [hl]
  | succ d ih =>
    intro k i hi hk
    obtain ⟨k, rfl⟩ : ∃ m, k = m + 1 := ⟨k - 1, by omega⟩
    have h0 : i < x0.length := by omega
    have h1 : i < x1.length := by omega
    rw [hstep k i h0, ih k (i + 1) (by omega) (by omega), List.drop_eq_getElem_cons h0, List.drop_eq_getElem_cons h1]
    simp only [List.getD_eq_getElem?_getD, List.getElem?_eq_getElem h0, List.getElem?_eq_getElem h1, Option.getD_some, List.cons.injEq]
    by_cases e : x0[i] = x1[i] <;> simp [e]
theorem mark_loop {α : Type} (F : Nat → Nat → List α → Option (Int × List α)) (n : Nat) (val : Nat → α)
    (hend : ∀ k s, s.length = n → F (k + 1) n s = some (1 + (n : Int), s))
    (hstep : ∀ k i s, i < n → s.length = n → F (k + 1) i s = F k (i + 1) (s.set i (val i))) (dv : α) :
    ∀ (d k i : Nat) (s : List α), i + d = n → d < k → s.length = n → (∀ j, j < i → s.getD j dv = val j) → F k i s = some (1 + (n : Int), (List.range n).map val) := by
  intro d
  induction d with
  | zero =>
    intro k i s hi hk hs hj
    obtain ⟨k, rfl⟩ : ∃ m, k = m + 1 := ⟨k - 1, by omega⟩
    obtain rfl : i = n := by omega
    rw [hend k s hs]
    have e : s = (List.range i).map val := ext_getD s _ dv (by simpa using hs) fun j h => by
      have h' : j < i := by simpa using h
      rw [hj j h']
      simp [List.getD_eq_getElem?_getD, h']
    rw [← e]
  | succ d ih =>
    intro k i s hi hk hs hj
    obtain ⟨k, rfl⟩ : ∃ m, k = m + 1 := ⟨k - 1, by omega⟩
    rw [hstep k i s (by omega) hs]
    refine ih k (i + 1) _ (by omega) (by omega) (by simpa using hs) fun j h => ?_
    rw [getD_set_self]
    by_cases e : i = j
    · subst e
      rw [if_pos ⟨rfl, by omega⟩]
    · rw [if_neg (fun h => e h.1)]
      exact hj j (by omega)
theorem held_loop (F : Nat → Nat → Option Int) (n : Nat)
    (hend : ∀ k, F (k + 1) n = some (1 + (n : Int)))
    (hstep : ∀ k i, i < n → F (k + 1) i = F k (i + 1)) :
    ∀ (d k i : Nat), i + d = n → d < k → F k i = some (1 + (n : Int)) := by
  intro d
  induction d with
  | zero =>
    intro k i hi hk
    obtain ⟨k, rfl⟩ : ∃ m, k = m + 1 := ⟨k - 1, by omega⟩
    obtain rfl : i = n := by omega
    exact hend k
  | succ d ih =>
    intro k i hi hk
    obtain ⟨k, rfl⟩ : ∃ m, k = m + 1 := ⟨k - 1, by omega⟩
    rw [hstep k i (by omega)]
    exact ih k (i + 1) (by omega) (by omega)
/-- A loop that counts up, told by its step. -/
def runL {σ ρ : Type} (step : Nat → σ → ρ ⊕ σ) (fin : σ → ρ) : Nat → Nat → σ → ρ
  | 0, _, s => fin s
  | d + 1, i, s => match step i s with
    | .inl r => r
    | .inr s' => runL step fin d (i + 1) s'
theorem loop_run {σ ρ : Type} (F : Nat → Nat → σ → Option ρ) (n : Nat) (step : Nat → σ → ρ ⊕ σ) (fin : σ → ρ) (Inv : Nat → σ → Prop)
    (hend : ∀ k s, Inv n s → F (k + 1) n s = some (fin s))
    (hstep : ∀ k i s, i < n → Inv i s → F (k + 1) i s = match step i s with
      | .inl r => some r
      | .inr s' => F k (i + 1) s')
    (hinv : ∀ i s s', i < n → Inv i s → step i s = .inr s' → Inv (i + 1) s') :
    ∀ (d k i : Nat) (s : σ), i + d = n → d < k → Inv i s → F k i s = some (runL step fin d i s) := by
  intro d
  induction d with
  | zero =>
    intro k i s hi hk hs
    obtain ⟨k, rfl⟩ : ∃ m, k = m + 1 := ⟨k - 1, by omega⟩
    obtain rfl : i = n := by omega
    exact hend k s hs
  | succ d ih =>
    intro k i s hi hk hs
    obtain ⟨k, rfl⟩ : ∃ m, k = m + 1 := ⟨k - 1, by omega⟩
    rw [hstep k i s (by omega) hs]
    unfold runL
    cases e : step i s with
    | inl r => rfl
    | inr s' => exact ih k (i + 1) s' (by omega) (by omega) (hinv i s s' (by omega) hs e)
theorem one_neg (n : Nat) : (1 + (n : Int) < 0) = False := by
  simp
  omega
theorem u8_bds {n : Int} (h : (Lit.int .u8 n).wf = true) : 0 ≤ n ∧ n ≤ 255 := by
  simp [Lit.wf, IntKind.min, IntKind.max, IntKind.signed, IntKind.bits] at h
  omega
theorem i64_bds {n : Int} (h : (Lit.int .i64 n).wf = true) : -9223372036854775808 ≤ n ∧ n ≤ 9223372036854775807 := by
  simp [Lit.wf, IntKind.min, IntKind.max, IntKind.signed, IntKind.bits] at h
  omega
theorem tmod_bd (a : Int) {b : Int} (hb : 0 < b) : -b < Int.tmod a b ∧ Int.tmod a b < b := by
  by_cases h : 0 ≤ a
  · rw [Int.tmod_eq_emod_of_nonneg h]
    have := Int.emod_nonneg a (show b ≠ 0 by omega)
    have := Int.emod_lt_of_pos a hb
    omega
  · have e : Int.tmod a b = -(Int.tmod (-a) b) := by rw [Int.neg_tmod]; omega
    rw [e, Int.tmod_eq_emod_of_nonneg (by omega)]
    have := Int.emod_nonneg (-a) (show b ≠ 0 by omega)
    have := Int.emod_lt_of_pos (-a) hb
    omega
def allF (f : Int → Bool) : Nat → Int → Bool
  | 0, _ => true
  | d + 1, i => f i && allF f d (i + 1)
theorem wrap_up {i n : Int} (h0 : 0 ≤ i) (h : i < n) (hn : n ≤ 140737488351232) : wrap64 (i + 1) = i + 1 := by
  unfold wrap64
  omega
def letB (c : Int) : Bool := decide (97 ≤ c ∧ c ≤ 122)
def isWordB (s : ByteArray) : Bool := decide (1 ≤ s.size ∧ s.size ≤ 8) && allF (fun i => letB (bt s i)) s.size 0
theorem isLetter_eq (c : Int) : impl_isLetter.f c = some (letB c) := by
  unfold impl_isLetter.f letB
  by_cases h : c ≥ 97 <;> simp [h]
theorem specIsWord_l0 (s : ByteArray) (hn : (s.size : Int) ≤ 140737488351232) : ∀ (d k : Nat) (i : Int), 0 ≤ i → (s.size : Int) - i = d → d < k →
    spec_IsWord.l0 k s i = some (allF (fun i => letB (bt s i)) d i) := by
  intro d
  induction d with
  | zero =>
    intro k i h0 hd hk
    obtain ⟨k, rfl⟩ : ∃ m, k = m + 1 := ⟨k - 1, by omega⟩
    simp only [spec_IsWord.l0]
    rw [if_neg (by omega)]
    rfl
  | succ d ih =>
    intro k i h0 hd hk
    obtain ⟨k, rfl⟩ : ∃ m, k = m + 1 := ⟨k - 1, by omega⟩
    have hlt : i < (s.size : Int) := by omega
    simp only [spec_IsWord.l0]
    rw [if_pos hlt, if_pos h0, wrap_up h0 hlt hn, ih k (i + 1) (by omega) (by omega) (by omega)]
    simp only [allF, letB]
    by_cases h1 : bt s i < 97
    · simp [h1, show ¬ 97 ≤ bt s i by omega]
    · by_cases h2 : bt s i > 122
      · simp [h1, h2, show ¬ bt s i ≤ 122 by omega]
      · simp [h1, h2, show 97 ≤ bt s i by omega, show bt s i ≤ 122 by omega]
theorem specIsWord_eq (s : ByteArray) (hn : s.size ≤ 140737488351232) (k : Nat) (hk : s.size < k) : spec_IsWord.f k s = some (isWordB s) := by
  unfold spec_IsWord.f isWordB
  rw [l1in, specIsWord_l0 s (by omega) s.size k 0 (by omega) (by omega) hk]
  simp only [Option.bind_some]
  by_cases h : 1 ≤ s.size ∧ s.size ≤ 8
  · rw [if_pos (by simp; omega)]
    simp [h]
  · rw [if_neg (by simp; omega)]
    simp [h]
theorem implIsWord_l0 (s : ByteArray) (hn : (s.size : Int) ≤ 140737488351232) : ∀ (d k : Nat) (i : Int), 0 ≤ i → (s.size : Int) - i = d → d < k →
    impl_IsWord.l0 k s (s.size : Int) i = some (allF (fun i => letB (bt s i)) d i) := by
  intro d
  induction d with
  | zero =>
    intro k i h0 hd hk
    obtain ⟨k, rfl⟩ : ∃ m, k = m + 1 := ⟨k - 1, by omega⟩
    simp only [impl_IsWord.l0]
    rw [if_neg (by omega)]
    rfl
  | succ d ih =>
    intro k i h0 hd hk
    obtain ⟨k, rfl⟩ : ∃ m, k = m + 1 := ⟨k - 1, by omega⟩
    have hlt : i < (s.size : Int) := by omega
    simp only [impl_IsWord.l0]
    rw [if_pos hlt, if_pos h0, if_pos hlt, wrap_up h0 hlt hn, ih k (i + 1) (by omega) (by omega) (by omega), isLetter_eq]
    simp only [allF, Option.bind_some]
    cases letB (bt s i) <;> simp
theorem implIsWord_eq (s : ByteArray) (hn : s.size ≤ 140737488351232) (k : Nat) (hk : s.size < k) : impl_IsWord.f k s = some (isWordB s) := by
  unfold impl_IsWord.f isWordB
  rw [inr, implIsWord_l0 s (by omega) s.size k 0 (by omega) (by omega) hk]
  simp only [Option.bind_some]
  by_cases h : 1 ≤ s.size ∧ s.size ≤ 8
  · rw [if_pos (by simp; omega)]
    simp [h]
  · rw [if_neg (by simp; omega)]
    simp [h]
theorem size_list (s : ByteArray) : s.data.toList.length = s.size := Array.length_toList
theorem bt_list (s : ByteArray) (i : Nat) (h : i < s.data.toList.length) : bt s (i : Int) = ((s.data.toList[i]).toNat : Int) := by
  have h' : ((i : Int)).toNat < s.size := by rw [size_list] at h; omega
  rw [← bt_at s i h']
  rfl
theorem enc_ascii (c : Nat) (h : c < 128) : Utf8.encode (c : Int) = strOfNums [(c : Int)] := by
  have hv : Utf8.valid (c : Int) = true := by
    unfold Utf8.valid
    simp
    omega
  unfold Utf8.encode
  rw [if_pos hv]
  simp only [Int.toNat_natCast, h, if_true]
  rfl
theorem sn_app (xs ys : List Int) : strOfNums xs ++ strOfNums ys = strOfNums (xs ++ ys) := by
  apply ByteArray.ext
  apply Array.ext'
  simp [strOfNums, ByteArray.data_append]
theorem sn_size (xs : List Int) : (strOfNums xs).size = xs.length := by simp [strOfNums, ByteArray.size]
def hit (a : Int) (w : ByteArray) (c : Int) : Bool := isWordB w && (decide (a < (w.size : Int)) && (bt w a == c))
def hitL (a c : Int) (l : List ByteArray) : Nat → Nat → Bool → Bool
  | 0, _, b => b
  | d + 1, i, b => hitL a c l d (i + 1) (if b = true then true else hit a (l.getD i ByteArray.empty) c)
theorem hitL_iff (a c : Int) (l : List ByteArray) : ∀ (d i : Nat) (b : Bool), i + d = l.length → (hitL a c l d i b = true ↔ b = true ∨ ∃ w ∈ l.drop i, hit a w c = true) := by
  intro d
  induction d with
  | zero =>
    intro i b hi
    rw [List.drop_of_length_le (by omega)]
    simp [hitL]
  | succ d ih =>
    intro i b hi
    have hlt : i < l.length := by omega
    have e : l.getD i ByteArray.empty = l[i] := by simp [List.getD_eq_getElem?_getD, List.getElem?_eq_getElem hlt]
    have ed : l.drop i = l[i] :: l.drop (i + 1) := List.drop_eq_getElem_cons hlt
    simp only [hitL]
    rw [ih (i + 1) _ (by omega), ed, e]
    cases b with
    | true =>
      rw [if_pos rfl]
      exact ⟨fun _ => Or.inl rfl, fun _ => Or.inl rfl⟩
    | false =>
      rw [if_neg (by decide)]
      constructor
      · rintro (h | ⟨w, hw, h⟩)
        · exact Or.inr ⟨_, List.mem_cons_self, h⟩
        · exact Or.inr ⟨w, List.mem_cons_of_mem _ hw, h⟩
      · rintro (h | ⟨w, hw, h⟩)
        · cases h
        · rcases List.mem_cons.1 hw with rfl | hw
          · exact Or.inl h
          · exact Or.inr ⟨w, hw, h⟩
theorem wrap32_small (z : Int) (h0 : 0 ≤ z) (h1 : z ≤ 1000) : wrap32 z = z := by
  unfold wrap32
  omega
theorem bt_rng (s : ByteArray) (i : Int) (h0 : 0 ≤ i) (h : i < (s.size : Int)) : 0 ≤ bt s i ∧ bt s i ≤ 255 := by
  have h' : i.toNat < s.size := by omega
  have e := bt_at s i h'
  have hb := (s[i.toNat]'h').toNat_lt
  rw [← e]
  omega
theorem specLet_l1 (a : Int) (ha : 0 ≤ a) (l : List ByteArray) (hl : l.length ≤ 1048577) (hw : ∀ w ∈ l, w.size ≤ 1048576) (out : ByteArray) (c : Int) : ∀ (d k i : Nat) (b : Bool), i + d = l.length → 1048580 < k →
    spec_LettersAt.l1 (k + (d + 1)) l a out c b (i : Int) = if hitL a c l d i b = true then (if out.size + (Utf8.encode c).size ≤ 9223372036854775807 then spec_LettersAt.l0 k l a (out ++ Utf8.encode c) (wrap32 (c + 1)) else none) else spec_LettersAt.l0 k l a out (wrap32 (c + 1)) := by
  intro d
  induction d with
  | zero =>
    intro k i b hi hk
    show spec_LettersAt.l1 (k + 1) l a out c b (i : Int) = _
    simp only [spec_LettersAt.l1]
    rw [if_neg (by omega)]
    rfl
  | succ d ih =>
    intro k i b hi hk
    have hlt : i < l.length := by omega
    have e : rdOf ByteArray.empty l (i : Int) = l.getD i ByteArray.empty := by simp [rdOf]
    have hs : (l.getD i ByteArray.empty).size ≤ 1048576 := hw _ (by simp [List.getD_eq_getElem?_getD, List.getElem?_eq_getElem hlt])
    have IH := ih k (i + 1)
    obtain ⟨K, hK⟩ : ∃ K, K = k + (d + 1) := ⟨_, rfl⟩
    have hKk : 1048580 < K := by omega
    rw [← hK] at IH
    have eK : k + (d + 1 + 1) = K + 1 := by omega
    rw [eK]
    simp only [spec_LettersAt.l1]
    rw [if_pos (by omega), wrap_nat hlt (by omega), e]
    have eL : (hitL a c l (d + 1) i b = true) = (hitL a c l d (i + 1) (if b = true then true else hit a (l.getD i ByteArray.empty) c) = true) := rfl
    simp only [eL]
    clear eL e
    revert hs
    generalize l.getD i ByteArray.empty = w
    intro hs
    cases b with
    | true =>
      rw [if_pos rfl, if_pos rfl]
      exact IH true (by omega) hk
    | false =>
      rw [if_neg Bool.false_ne_true, if_neg Bool.false_ne_true, if_pos (by omega), specIsWord_eq w (by omega) K (by omega)]
      simp only [Option.bind_some]
      by_cases h1 : isWordB w = true
      · rw [if_pos h1]
        by_cases h2 : a < (w.size : Int)
        · have hb := bt_rng w a ha h2
          rw [if_pos h2, if_pos ha, wrap32_small _ hb.1 (by omega)]
          have eh : hit a w c = (bt w a == c) := by
            unfold hit
            rw [h1, decide_eq_true h2]
            simp
          rw [← eh]
          exact IH _ (by omega) hk
        · rw [if_neg h2]
          have eh : hit a w c = false := by
            unfold hit
            rw [decide_eq_false h2]
            simp
          rw [eh]
          exact IH false (by omega) hk
      · rw [if_neg h1]
        have eh : hit a w c = false := by
          unfold hit
          have : isWordB w = false := by simpa using h1
          rw [this]
          rfl
        rw [eh]
        exact IH false (by omega) hk
def selC (a : Int) (l : List ByteArray) : Nat → Nat → List Int
  | 0, _ => []
  | m + 1, c => (if hitL a (c : Int) l l.length 0 false = true then [(c : Int)] else []) ++ selC a l m (c + 1)
theorem specLet_l0 (a : Int) (ha : 0 ≤ a) (l : List ByteArray) (hl : l.length ≤ 1048577) (hw : ∀ w ∈ l, w.size ≤ 1048576) : ∀ (m k c : Nat) (xs : List Int), c + m = 123 → xs.length ≤ 1000 - m → 97 ≤ c → 1048590 < k →
    spec_LettersAt.l0 (k + m * (l.length + 3)) l a (strOfNums xs) (c : Int) = some (strOfNums (xs ++ selC a l m c)) := by
  intro m
  induction m with
  | zero =>
    intro k c xs hc hx _ hk
    obtain ⟨K, hK⟩ : ∃ q, k = q + 1 + 1 := ⟨k - 2, by omega⟩
    have h0 : k + 0 * (l.length + 3) = K + 1 + 1 := by omega
    rw [h0]
    clear h0 hK hk hx
    simp only [spec_LettersAt.l0]
    rw [if_neg (by omega)]
    simp only [spec_LettersAt.j1, Bool.false_eq_true, if_false, selC, List.append_nil]
  | succ m ih =>
    intro k c xs hc hx h97 hk
    have eK : k + (m + 1) * (l.length + 3) = (k + m * (l.length + 3)) + (l.length + 1) + 1 + 1 := by rw [Nat.succ_mul]; omega
    have hk2 : 1048580 < k + m * (l.length + 3) := by omega
    have IH1 := ih k (c + 1) (xs ++ [(c : Int)]) (by omega) (by simp; omega) (by omega) hk
    have IH0 := ih k (c + 1) xs (by omega) (by omega) (by omega) hk
    rw [eK]
    have L1 := specLet_l1 a ha l hl hw (strOfNums xs) (c : Int) l.length (k + m * (l.length + 3)) 0 false (by omega) hk2
    have e0 : ((0 : Nat) : Int) = 0 := rfl
    rw [e0] at L1
    clear ih hw hl hk hk2 eK
    revert L1 IH1 IH0
    generalize k + m * (l.length + 3) = K
    intro IH1 IH0 L1
    have eK1 : K + (l.length + 1) + 1 + 1 = (K + l.length + 1) + 1 + 1 := rfl
    have eK2 : K + (l.length + 1) = K + l.length + 1 := rfl
    rw [eK2] at L1 ⊢
    revert L1
    generalize K + l.length + 1 = K1
    intro L1
    have hc1 : (c : Int) ≤ 122 := by omega
    have hc2 : c < 128 := by omega
    have hx2 : xs.length ≤ 1000 := by omega
    have hsz : xs.length + 1 ≤ 9223372036854775807 := by omega
    have ew : wrap32 ((c : Int) + 1) = ((c + 1 : Nat) : Int) := by rw [wrap32_small _ (by omega) (by omega)]; rfl
    clear hc hx h97
    rw [spec_LettersAt.l0]
    rw [if_pos hc1, decide_eq_true ha, spec_LettersAt.j1, if_pos rfl]
    rw [ew, enc_ascii c hc2, sn_size, sn_size, sn_app] at L1
    rw [L1]
    simp only [selC]
    by_cases h : hitL a (c : Int) l l.length 0 false = true
    · rw [if_pos h, if_pos h, if_pos (show xs.length + [(c : Int)].length ≤ 9223372036854775807 from hsz), IH1, List.append_assoc]
    · rw [if_neg h, if_neg h, IH0, List.nil_append]
def letS (a : Int) (l : List ByteArray) : List Int := if 0 ≤ a then selC a l 26 97 else []
theorem specLet (k : Nat) (a : Int) (l : List ByteArray) (hl : l.length ≤ 1048577) (hw : ∀ w ∈ l, w.size ≤ 1048576) (hk : 26 * l.length + 1048700 < k) : spec_LettersAt.f k l a = some (strOfNums (letS a l)) := by
  unfold spec_LettersAt.f letS
  have e0 : (⟨#[]⟩ : ByteArray) = strOfNums [] := rfl
  rw [e0]
  by_cases ha : 0 ≤ a
  · obtain ⟨q, rfl⟩ : ∃ q, k = q + 26 * (l.length + 3) := ⟨k - 26 * (l.length + 3), by omega⟩
    have := specLet_l0 a ha l hl hw 26 q 97 [] (by omega) (by simp) (by omega) (by omega)
    rw [if_pos ha]
    exact this
  · obtain ⟨k, rfl⟩ : ∃ q, k = q + 1 + 1 := ⟨k - 2, by omega⟩
    obtain ⟨K, hK⟩ : ∃ K, K = k + 1 := ⟨_, rfl⟩
    rw [if_neg ha, ← hK]
    simp only [spec_LettersAt.l0]
    rw [if_pos (by decide), decide_eq_false (by omega), hK]
    simp only [spec_LettersAt.j1, Bool.false_eq_true, if_false]
def pick (a : Int) (w : ByteArray) : List Int := if isWordB w = true ∧ 0 ≤ a ∧ a < (w.size : Int) then [bt w a] else []
def accL (a : Int) : List ByteArray → List Int
  | [] => []
  | w :: r => pick a w ++ accL a r
theorem pick_len (a : Int) (w : ByteArray) : (pick a w).length ≤ 1 := by
  unfold pick
  split <;> simp
theorem accL_len (a : Int) (l : List ByteArray) : (accL a l).length ≤ l.length := by
  induction l with
  | nil => simp [accL]
  | cons w r ih =>
    have := pick_len a w
    simp only [accL, List.length_append, List.length_cons]
    omega
theorem implLet_l0 (a : Int) (l : List ByteArray) (hl : l.length ≤ 1048577) (hw : ∀ w ∈ l, w.size ≤ 1048576) : ∀ (d k i : Nat) (xs : List Int), i + d = l.length → xs.length ≤ i → d + 1048580 < k →
    impl_LettersAt.l0 k a xs l (l.length : Int) (i : Int) = some (strOfNums (Go.Proofs.YtgnpindamkgggaaRev.cmp (Go.Proofs.YtgnpindamkgggaaRev.srt (xs ++ accL a (l.drop i))))) := by
  intro d
  induction d with
  | zero =>
    intro k i xs hi hx hk
    obtain ⟨k, rfl⟩ : ∃ q, k = q + 1 := ⟨k - 1, by omega⟩
    simp only [impl_LettersAt.l0]
    rw [if_neg (by omega), if_pos (by omega), List.drop_of_length_le (by omega)]
    simp only [accL, List.append_nil]
  | succ d ih =>
    intro k i xs hi hx hk
    obtain ⟨k, rfl⟩ : ∃ q, k = q + 1 := ⟨k - 1, by omega⟩
    have hlt : i < l.length := by omega
    have e : rdOf ByteArray.empty l (i : Int) = l.getD i ByteArray.empty := by simp [rdOf]
    have e2 : l.getD i ByteArray.empty = l[i] := by simp [List.getD_eq_getElem?_getD, List.getElem?_eq_getElem hlt]
    have ed : l.drop i = l[i] :: l.drop (i + 1) := List.drop_eq_getElem_cons hlt
    have hs : (l[i]).size ≤ 1048576 := hw _ (List.getElem_mem _)
    have IH1 := ih k (i + 1) (xs ++ pick a l[i]) (by omega) (by have := pick_len a l[i]; simp; omega) (by omega)
    simp only [impl_LettersAt.l0]
    rw [if_pos (by omega), if_pos (by omega), if_pos (by omega), e, e2, implIsWord_eq _ (by omega) k (by omega), wrap_nat hlt (by omega), ed]
    simp only [Option.bind_some, accL]
    rw [← List.append_assoc]
    unfold pick at IH1 ⊢
    by_cases h1 : isWordB l[i] = true
    · rw [if_pos h1]
      by_cases h2 : a ≥ 0
      · rw [if_pos h2]
        by_cases h3 : a < ((l[i]).size : Int)
        · rw [if_pos h3, if_pos h2, if_pos (by omega)]
          rw [if_pos ⟨h1, h2, h3⟩] at IH1 ⊢
          exact IH1
        · rw [if_neg h3]
          rw [if_neg (fun h => h3 h.2.2), List.append_nil] at IH1 ⊢
          exact IH1
      · rw [if_neg h2]
        rw [if_neg (fun h => h2 h.2.1), List.append_nil] at IH1 ⊢
        exact IH1
    · rw [if_neg h1]
      rw [if_neg (fun h => h1 h.1), List.append_nil] at IH1 ⊢
      exact IH1
theorem implLet (k : Nat) (a : Int) (l : List ByteArray) (hl : l.length ≤ 1048577) (hw : ∀ w ∈ l, w.size ≤ 1048576) (hk : l.length + 1048700 < k) : impl_LettersAt.f k l a = some (strOfNums (Go.Proofs.YtgnpindamkgggaaRev.cmp (Go.Proofs.YtgnpindamkgggaaRev.srt (accL a l)))) := by
  have := implLet_l0 a l hl hw l.length k 0 [] (by omega) (by simp) (by omega)
  unfold impl_LettersAt.f
  simpa using this
-- what both are: the letters at that place, rising, each once
theorem accL_mem (a : Int) (l : List ByteArray) (x : Int) : x ∈ accL a l ↔ ∃ w ∈ l, (isWordB w = true ∧ 0 ≤ a ∧ a < (w.size : Int)) ∧ bt w a = x := by
  induction l with
  | nil => simp [accL]
  | cons w r ih =>
    simp only [accL, List.mem_append, ih, List.mem_cons]
    unfold pick
    constructor
    · rintro (h | ⟨v, hv, h⟩)
      · by_cases hc : isWordB w = true ∧ 0 ≤ a ∧ a < (w.size : Int)
        · rw [if_pos hc] at h
          exact ⟨w, Or.inl rfl, hc, (List.mem_singleton.1 h).symm⟩
        · rw [if_neg hc] at h
          cases h
      · exact ⟨v, Or.inr hv, h⟩
    · rintro ⟨v, rfl | hv, hc, hx⟩
      · left
        rw [if_pos hc, hx]
        exact List.mem_singleton.2 rfl
      · exact Or.inr ⟨v, hv, hc, hx⟩
theorem hitL_mem (a c : Int) (l : List ByteArray) (ha : 0 ≤ a) : hitL a c l l.length 0 false = true ↔ c ∈ accL a l := by
  rw [hitL_iff a c l l.length 0 false (by omega), accL_mem, List.drop_zero]
  simp only [Bool.false_eq_true, false_or]
  constructor
  · rintro ⟨w, hw, h⟩
    simp only [hit, Bool.and_eq_true, decide_eq_true_eq, beq_iff_eq] at h
    exact ⟨w, hw, ⟨h.1, ha, h.2.1⟩, h.2.2⟩
  · rintro ⟨w, hw, h, hx⟩
    refine ⟨w, hw, ?_⟩
    simp only [hit, Bool.and_eq_true, decide_eq_true_eq, beq_iff_eq]
    exact ⟨h.1, h.2.2, hx⟩
theorem selC_mem (a : Int) (l : List ByteArray) (ha : 0 ≤ a) (x : Int) : ∀ (m c : Nat), x ∈ selC a l m c ↔ ((c : Int) ≤ x ∧ x < (c : Int) + m) ∧ x ∈ accL a l := by
  intro m
  induction m with
  | zero =>
    intro c
    simp only [selC, List.not_mem_nil, false_iff]
    rintro ⟨h, _⟩
    omega
  | succ m ih =>
    intro c
    simp only [selC, List.mem_append]
    rw [ih (c + 1)]
    by_cases h : hitL a (c : Int) l l.length 0 false = true
    · rw [if_pos h]
      rw [hitL_mem a _ l ha] at h
      constructor
      · rintro (h1 | ⟨h1, h2⟩)
        · obtain rfl := List.mem_singleton.1 h1
          exact ⟨⟨by omega, by omega⟩, h⟩
        · exact ⟨⟨by omega, by omega⟩, h2⟩
      · rintro ⟨h1, h2⟩
        by_cases e : x = (c : Int)
        · subst e
          exact Or.inl (List.mem_singleton.2 rfl)
        · exact Or.inr ⟨⟨by omega, by omega⟩, h2⟩
    · rw [if_neg h]
      rw [hitL_mem a _ l ha] at h
      constructor
      · rintro (h1 | ⟨h1, h2⟩)
        · cases h1
        · exact ⟨⟨by omega, by omega⟩, h2⟩
      · rintro ⟨h1, h2⟩
        by_cases e : x = (c : Int)
        · subst e
          exact absurd h2 h
        · exact Or.inr ⟨⟨by omega, by omega⟩, h2⟩
theorem selC_lt (a : Int) (l : List ByteArray) (ha : 0 ≤ a) : ∀ (m c : Nat), (selC a l m c).Pairwise (· < ·) := by
  intro m
  induction m with
  | zero => intro c; exact List.Pairwise.nil
  | succ m ih =>
    intro c
    simp only [selC]
    rw [List.pairwise_append]
    refine ⟨?_, ih (c + 1), ?_⟩
    · split <;> simp
    · intro x hx y hy
      rw [selC_mem a l ha] at hy
      have : x = (c : Int) := by
        split at hx
        · exact List.mem_singleton.1 hx
        · cases hx
      omega
theorem lt_unique : ∀ (xs ys : List Int), xs.Pairwise (· < ·) → ys.Pairwise (· < ·) → (∀ z, z ∈ xs ↔ z ∈ ys) → xs = ys := by
  intro xs
  induction xs with
  | nil =>
    intro ys _ _ h
    cases ys with
    | nil => rfl
    | cons y r => exact absurd ((h y).2 List.mem_cons_self) (by simp)
  | cons x r ih =>
    intro ys hx hy h
    cases ys with
    | nil => exact absurd ((h x).1 List.mem_cons_self) (by simp)
    | cons y s =>
      rw [List.pairwise_cons] at hx hy
      have e : x = y := by
        have h1 := (h x).1 List.mem_cons_self
        have h2 := (h y).2 List.mem_cons_self
        rcases List.mem_cons.1 h1 with h1 | h1
        · exact h1
        · rcases List.mem_cons.1 h2 with h2 | h2
          · exact h2.symm
          · have := hx.1 y h2
            have := hy.1 x h1
            omega
      subst e
      congr 1
      refine ih s hx.2 hy.2 fun z => ⟨fun hz => ?_, fun hz => ?_⟩
      · rcases List.mem_cons.1 ((h z).1 (List.mem_cons_of_mem _ hz)) with e | h1
        · have := hx.1 z hz
          omega
        · exact h1
      · rcases List.mem_cons.1 ((h z).2 (List.mem_cons_of_mem _ hz)) with e | h1
        · have := hy.1 z hz
          omega
        · exact h1
theorem srt_sorted (xs : List Int) : (Go.Proofs.YtgnpindamkgggaaRev.srt xs).Pairwise (· ≤ ·) := by
  have tr : ∀ (a b c : Int), decide (a ≤ b) = true → decide (b ≤ c) = true → decide (a ≤ c) = true := by
    intro a b c h1 h2
    simp only [decide_eq_true_eq] at *
    omega
  have tot : ∀ (a b : Int), (decide (a ≤ b) || decide (b ≤ a)) = true := by
    intro a b
    simp only [Bool.or_eq_true, decide_eq_true_eq]
    omega
  refine (List.pairwise_mergeSort tr tot xs).imp ?_
  intro a b h
  simpa using h
theorem cmp_facts (xs : List Int) (hs : xs.Pairwise (· ≤ ·)) : ∀ m, m ≤ xs.length → (Lib.compactUpTo xs.toArray m).Pairwise (· < ·) ∧ (∀ z, z ∈ Lib.compactUpTo xs.toArray m ↔ z ∈ xs.take m) := by
  intro m
  induction m with
  | zero =>
    intro _
    simp [Lib.compactUpTo]
  | succ m ih =>
    intro hm
    obtain ⟨i1, i2⟩ := ih (by omega)
    have hlt : m < xs.length := by omega
    have eg : ∀ j (hj : j < xs.length), xs.toArray[j]! = xs[j] := fun j hj => by simp [getElem!_pos, hj]
    have et : xs.take (m + 1) = xs.take m ++ [xs[m]] := List.take_succ_eq_append_getElem hlt
    rw [Lib.compactUpTo_succ]
    by_cases hk : Lib.keeps xs.toArray m = true
    · rw [if_pos hk]
      refine ⟨?_, fun z => by rw [List.mem_append, i2, et, List.mem_append, eg m hlt]⟩
      rw [List.pairwise_append]
      refine ⟨i1, by simp, ?_⟩
      intro x hx y hy
      rw [eg m hlt] at hy
      obtain rfl := List.mem_singleton.1 hy
      rw [i2] at hx
      unfold Lib.keeps at hk
      rw [decide_eq_true_eq] at hk
      obtain ⟨j, hj, rfl⟩ := List.getElem_of_mem hx
      have hjm : j < m := by simp at hj; omega
      rcases hk with hk | hk
      · omega
      · rw [eg m hlt, eg (m - 1) (by omega)] at hk
        have hp := List.pairwise_iff_getElem.1 hs
        have h1 : xs[m - 1] ≤ xs[m] := hp (m - 1) m (by omega) hlt (by omega)
        have h2 : xs[j] ≤ xs[m - 1] := by
          by_cases e : j = m - 1
          · subst e
            exact Int.le_refl _
          · exact hp j (m - 1) (by omega) (by omega) (by omega)
        rw [List.getElem_take]
        omega
    · rw [if_neg hk, List.append_nil]
      refine ⟨i1, fun z => ?_⟩
      unfold Lib.keeps at hk
      rw [decide_eq_true_eq] at hk
      have hm0 : m ≠ 0 := fun h => hk (Or.inl h)
      have he : xs[m] = xs[m - 1] := by
        have : ¬ xs.toArray[m]! ≠ xs.toArray[m - 1]! := fun h => hk (Or.inr h)
        rw [eg m hlt, eg (m - 1) (by omega)] at this
        omega
      rw [i2, et, List.mem_append, List.mem_singleton]
      constructor
      · exact Or.inl
      · rintro (h | rfl)
        · exact h
        · rw [he]
          have : m - 1 < (xs.take m).length := by simp; omega
          have h2 := List.getElem_mem this
          rwa [List.getElem_take] at h2
theorem cmp_srt (xs : List Int) : (Go.Proofs.YtgnpindamkgggaaRev.cmp (Go.Proofs.YtgnpindamkgggaaRev.srt xs)).Pairwise (· < ·) ∧ ∀ z, z ∈ Go.Proofs.YtgnpindamkgggaaRev.cmp (Go.Proofs.YtgnpindamkgggaaRev.srt xs) ↔ z ∈ xs := by
  obtain ⟨h1, h2⟩ := cmp_facts _ (srt_sorted xs) _ (Nat.le_refl _)
  refine ⟨h1, fun z => (h2 z).trans ?_⟩
  rw [List.take_length]
  exact (List.mergeSort_perm xs _).mem_iff
theorem allF_at' (f : Int → Bool) : ∀ (d : Nat) (i : Int), allF f d i = true → ∀ j : Nat, j < d → f (i + j) = true := by
  intro d
  induction d with
  | zero => intro i _ j hj; omega
  | succ d ih =>
    intro i h j hj
    simp only [allF, Bool.and_eq_true] at h
    cases j with
    | zero => simpa using h.1
    | succ j =>
      have := ih (i + 1) h.2 j (by omega)
      rw [show i + 1 + (j : Int) = i + ((j + 1 : Nat) : Int) by omega] at this
      exact this
theorem word_letter (w : ByteArray) (h : isWordB w = true) (a : Int) (h0 : 0 ≤ a) (h1 : a < (w.size : Int)) : 97 ≤ bt w a ∧ bt w a ≤ 122 := by
  unfold isWordB at h
  rw [Bool.and_eq_true] at h
  have := allF_at' _ _ _ h.2 a.toNat (by omega)
  rw [show (0 : Int) + ((a.toNat : Nat) : Int) = a by omega] at this
  simpa [letB] using this
theorem let_same (a : Int) (l : List ByteArray) : Go.Proofs.YtgnpindamkgggaaRev.cmp (Go.Proofs.YtgnpindamkgggaaRev.srt (accL a l)) = letS a l := by
  unfold letS
  obtain ⟨h1, h2⟩ := cmp_srt (accL a l)
  by_cases ha : 0 ≤ a
  · rw [if_pos ha]
    refine lt_unique _ _ h1 (selC_lt a l ha 26 97) fun z => ?_
    rw [h2, selC_mem a l ha]
    constructor
    · intro hz
      refine ⟨?_, hz⟩
      rw [accL_mem] at hz
      obtain ⟨w, _, ⟨hw, _, hlt⟩, rfl⟩ := hz
      have := word_letter w hw a ha hlt
      omega
    · exact fun h => h.2
  · rw [if_neg ha]
    refine List.eq_nil_iff_forall_not_mem.2 fun z hz => ?_
    rw [h2, accL_mem] at hz
    obtain ⟨w, _, ⟨_, h0, _⟩, _⟩ := hz
    exact ha h0
theorem szStr (l : List ByteArray) (hw : ∀ s ∈ l, s.size ≤ maxLen) : ∀ (d k i : Nat) (q : Int), i + d = l.length → l.length ≤ 1048576 → d < k → 0 ≤ q → q ≤ 1048576 → ∃ r, laws_szStringS.l0 k l q (i : Int) = some r ∧ (r < 0 ∨ (0 ≤ r ∧ ∀ j, i ≤ j → j < l.length → (l.getD j ByteArray.empty).size ≤ 1048576)) := by
  intro d
  induction d with
  | zero =>
    intro k i q hi hn hk q0 q1
    obtain ⟨k, rfl⟩ : ∃ m, k = m + 1 := ⟨k - 1, by omega⟩
    simp only [laws_szStringS.l0]
    rw [if_neg (by omega)]
    exact ⟨q, rfl, Or.inr ⟨q0, fun j h1 h2 => by omega⟩⟩
  | succ d ih =>
    intro k i q hi hn hk q0 q1
    obtain ⟨k, rfl⟩ : ∃ m, k = m + 1 := ⟨k - 1, by omega⟩
    simp only [laws_szStringS.l0]
    have hlt : i < l.length := by omega
    have e : rdOf ByteArray.empty l (i : Int) = l[i] := by simp [rdOf, List.getD_eq_getElem?_getD, List.getElem?_eq_getElem hlt]
    have hs := hw l[i] (List.getElem_mem _)
    unfold maxLen at hs
    have e2 : wrap64 (q - (l[i].size : Int)) = q - l[i].size := by unfold wrap64; omega
    rw [if_pos (by omega), if_pos (by omega), e, e2]
    by_cases h : q - (l[i].size : Int) < 0
    · rw [if_pos h]
      exact ⟨-1, rfl, Or.inl (by decide)⟩
    · rw [if_neg h, wrap_nat hlt (by omega)]
      obtain ⟨r, er, hr⟩ := ih k (i + 1) (q - l[i].size) (by omega) hn (by omega) (by omega) (by omega)
      refine ⟨r, er, ?_⟩
      rcases hr with hr | ⟨r0, hr⟩
      · exact Or.inl hr
      · refine Or.inr ⟨r0, fun j h1 h2 => ?_⟩
        by_cases hj : j = i
        · subst hj
          simp only [List.getD_eq_getElem?_getD, List.getElem?_eq_getElem hlt, Option.getD_some]
          omega
        · exact hr j (by omega) h2
/-- What the law's guard lets by: a list of at most 2^20 strings of at most 2^20 bytes. -/
theorem szStrs (k : Nat) (l : List ByteArray) (hl : l.length ≤ 9223372036854775807) (hw : ∀ s ∈ l, s.size ≤ maxLen) (q : Int) (q0 : 0 ≤ q) (q1 : q ≤ 1048576) (hk : l.length < k) : ∃ r, laws_szStringS.f k l q = some r ∧ (r < 0 ∨ (0 ≤ r ∧ r ≤ q ∧ l.length ≤ 1048576 ∧ ∀ s ∈ l, s.size ≤ 1048576)) := by
  unfold laws_szStringS.f
  have e : wrap64 (q - (l.length : Int)) = q - l.length := by unfold wrap64; omega
  rw [e]
  by_cases h : q - (l.length : Int) < 0
  · rw [if_pos h]
    exact ⟨-1, rfl, Or.inl (by decide)⟩
  · rw [if_neg h]
    obtain ⟨r, er, hr⟩ := szStr l hw l.length k 0 (q - l.length) (by omega) (by omega) hk (by omega) (by omega)
    have mono : ∀ (d k i : Nat) (q : Int), i + d = l.length → l.length ≤ 1048576 → d < k → 0 ≤ q → q ≤ 1048576 → ∀ r, laws_szStringS.l0 k l q (i : Int) = some r → r ≤ q := by
      intro d
      induction d with
      | zero =>
        intro k i q hi hn hk q0 q1 r hr
        obtain ⟨k, rfl⟩ : ∃ m, k = m + 1 := ⟨k - 1, by omega⟩
        simp only [laws_szStringS.l0] at hr
        rw [if_neg (by omega)] at hr
        simp at hr
        omega
      | succ d ih =>
        intro k i q hi hn hk q0 q1 r hr
        obtain ⟨k, rfl⟩ : ∃ m, k = m + 1 := ⟨k - 1, by omega⟩
        have hlt : i < l.length := by omega
        have e : rdOf ByteArray.empty l (i : Int) = l[i] := by simp [rdOf, List.getD_eq_getElem?_getD, List.getElem?_eq_getElem hlt]
        have hs := hw l[i] (List.getElem_mem _)
        unfold maxLen at hs
        have e2 : wrap64 (q - (l[i].size : Int)) = q - l[i].size := by unfold wrap64; omega
        simp only [laws_szStringS.l0] at hr
        rw [if_pos (by omega), if_pos (by omega), e, e2] at hr
        by_cases h : q - (l[i].size : Int) < 0
        · rw [if_pos h] at hr
          simp at hr
          omega
        · rw [if_neg h, wrap_nat hlt (by omega)] at hr
          have := ih k (i + 1) (q - l[i].size) (by omega) hn (by omega) (by omega) (by omega) r hr
          omega
    have m := mono l.length k 0 (q - l.length) (by omega) (by omega) hk (by omega) (by omega) r er
    refine ⟨r, er, ?_⟩
    rcases hr with hr | ⟨r0, hr⟩
    · exact Or.inl hr
    · refine Or.inr ⟨r0, by omega, by omega, fun s hs => ?_⟩
      obtain ⟨j, hj, rfl⟩ := List.getElem_of_mem hs
      have := hr j (by omega) hj
      simpa [List.getD_eq_getElem?_getD, List.getElem?_eq_getElem hj] using this
theorem toStr (k : Nat) (l : List ByteArray) (hl : l.length ≤ 1000000000000) (hk : l.length < k) : laws_toStringS.f k l = some l := by
  unfold laws_toStringS.f
  rw [if_pos (by omega), if_pos (by omega)]
  refine copy_loop (fun k i s => laws_toStringS.l0 k l s (i : Int)) l ByteArray.empty (fun k s hs => ?_) (fun k i s hi hs => ?_) l.length k 0 _ (by omega) hk (by simp) (fun j h => by omega)
  · simp only [laws_toStringS.l0]
    rw [if_neg (by omega)]
  · simp only [laws_toStringS.l0]
    rw [if_pos (by omega), if_pos (by omega), if_pos (by omega), wrap_nat hi (by omega)]
    simp [rdOf]
theorem ba_ext {a b : ByteArray} : a.toList = b.toList ↔ a = b := by
  constructor
  · intro h
    rw [ByteArray.toList_eq, ByteArray.toList_eq] at h
    cases a
    cases b
    congr 1
    exact Array.ext' h
  · rintro rfl
    rfl
theorem eqStr (k : Nat) (a b : List ByteArray) (ha : a.length ≤ 1000000000000) (hk : a.length < k) : laws_eqStringS.f k a b = some (decide (a = b)) := by
  unfold laws_eqStringS.f
  by_cases hl : a.length = b.length
  · rw [if_pos (by omega)]
    have h := eq_loop (fun k i => laws_eqStringS.l0 k a b (i : Int)) a b ByteArray.empty hl (fun k => ?_) (fun k i hi => ?_) a.length k 0 (by omega) hk
    · simpa using h
    · simp only [laws_eqStringS.l0]
      rw [if_neg (by omega)]
    · simp only [laws_eqStringS.l0]
      rw [if_pos (by omega), if_pos (by omega), if_pos (by omega), wrap_nat hi (by omega)]
      simp only [ba_ext, rdOf, Int.toNat_natCast]
  · rw [if_neg (by omega)]
    have : ¬ a = b := fun e => hl (by rw [e])
    simp [this]
theorem FnExactLettersAt (l : List ByteArray) (hl : l.length ≤ 9223372036854775807) (hw : ∀ s ∈ l, s.size ≤ maxLen) (a : Int) (_ha : (Lit.int .i64 a).wf = true) : ∃ k, laws_FnExactLettersAt.f k l a = some true := by
  obtain ⟨K, hK⟩ : ∃ K, K = 26 * l.length + 1048800 := ⟨_, rfl⟩
  refine ⟨K, ?_⟩
  unfold laws_FnExactLettersAt.f
  obtain ⟨r, er, hr⟩ := szStrs K l hl hw 1048576 (by decide) (by decide) (by omega)
  rw [er]
  simp only [Option.bind_some]
  by_cases hneg : r < 0
  · rw [if_pos hneg]
  rw [if_neg hneg]
  rcases hr with hr | ⟨_, _, hn, hs⟩
  · exact absurd hr hneg
  rw [toStr K l (by omega) (by omega)]
  simp only [Option.bind_some]
  rw [specLet K a l (by omega) hs (by omega), implLet K a l (by omega) hs (by omega), let_same]
  simp only [Option.bind_some]
  rw [if_pos trivial, eqStr K l l (by omega) (by omega)]
  simp
end Go.Proofs.Ytgnpindamkgggaa.Pure
