/- The law FnExactParseInt answers true for every string. No condition. -/
import Derived.Test.YtddkpgmomakkcaaDoorPFnExactParseIntx1
namespace Go.Proofs.YtddkpgmomakkcaaDoor.Pure
open Go.RowKit Go.Proofs.YtddkpgmomakkcaaDoor.PFnExactParseInt Go.Proofs.YtddkpgmomakkcaaDoorW.PrintWords Go.Proofs.YtddkpgmomakkcaaDoorW.PrintLast Go.Proofs.YtddkpgmomakkcaaDoorW.PrintMore
set_option linter.unusedVariables false
set_option linter.unusedSimpArgs false
theorem wrap_nat {m n : Nat} (h : m < n) (hn : n ≤ 140737488351232) : wrap64 ((m : Int) + 1) = ((m + 1 : Nat) : Int) := by
  unfold wrap64
  omega
theorem getD_set_self {α : Type} (l : List α) (i j : Nat) (v d : α) : (l.set i v).getD j d = if i = j ∧ i < l.length then v else l.getD j d := by
  simp only [List.getD_eq_getElem?_getD, List.getElem?_set]
  by_cases h : i = j
  · subst h
    by_cases h2 : i < l.length
    · simp [h2]
    · simp [h2]
  · simp [h]
theorem ext_getD {α : Type} (a b : List α) (d : α) (hl : a.length = b.length) (h : ∀ j, j < b.length → a.getD j d = b.getD j d) : a = b := by
  refine List.ext_getElem hl fun j h1 h2 => ?_
  have := h j h2
  simpa [List.getD_eq_getElem?_getD, List.getElem?_eq_getElem h1, List.getElem?_eq_getElem h2] using this
theorem copy_loop {α : Type} (F : Nat → Nat → List α → Option (List α)) (x0 : List α) (dv : α)
    (hend : ∀ k s, s.length = x0.length → F (k + 1) x0.length s = some s)
    (hstep : ∀ k i s, i < x0.length → s.length = x0.length → F (k + 1) i s = F k (i + 1) (s.set i (x0.getD i dv))) :
    ∀ (d k i : Nat) (s : List α), i + d = x0.length → d < k → s.length = x0.length → (∀ j, j < i → s.getD j dv = x0.getD j dv) → F k i s = some x0 := by
  intro d
  induction d with
  | zero =>
    intro k i s hi hk hs hj
    obtain ⟨k, rfl⟩ : ∃ m, k = m + 1 := ⟨k - 1, by omega⟩
    obtain rfl : i = x0.length := by omega
    rw [hend k s hs, ext_getD s x0 dv hs hj]
  | succ d ih =>
    intro k i s hi hk hs hj
    obtain ⟨k, rfl⟩ : ∃ m, k = m + 1 := ⟨k - 1, by omega⟩
    rw [hstep k i s (by omega) hs]
    refine ih k (i + 1) _ (by omega) (by omega) (by simpa using hs) fun j h => ?_
    rw [getD_set_self]
    by_cases e : i = j
    · subst e
      rw [if_pos ⟨rfl, by omega⟩]
    · rw [if_neg (fun h => e h.1)]
      exact hj j (by omega)
theorem eq_loop {α : Type} [DecidableEq α] (F : Nat → Nat → Option Bool) (x0 x1 : List α) (dv : α) (hl : x0.length = x1.length)
    (hend : ∀ k, F (k + 1) x0.length = some true)
    (hstep : ∀ k i, i < x0.length → F (k + 1) i = if x0.getD i dv = x1.getD i dv then F k (i + 1) else some false) :
    ∀ (d k i : Nat), i + d = x0.length → d < k → F k i = some (decide (x0.drop i = x1.drop i)) := by
  intro d
  induction d with
  | zero =>
    intro k i hi hk
    obtain ⟨k, rfl⟩ : ∃ m, k = m + 1 := ⟨k - 1, by omega⟩
    obtain rfl : i = x0.length := by omega
    rw [hend]
    simp [hl]
  | succ d ih =>
    intro k i hi hk
    obtain ⟨k, rfl⟩ : ∃ m, k = m + 1 := ⟨k - 1, by omega⟩
    have h0 : i < x0.length := by omega
    have h1 : i < x1.length := by omega
    rw [hstep k i h0, ih k (i + 1) (by omega) (by omega), List.drop_eq_getElem_cons h0, List.drop_eq_getElem_cons h1]
    simp only [List.getD_eq_getElem?_getD, List.getElem?_eq_getElem h0, List.getElem?_eq_getElem h1, Option.getD_some, List.cons.injEq]
    by_cases e : x0[i] = x1[i] <;> simp [e]
theorem mark_loop {α : Type} (F : Nat → Nat → List α → Option (Int × List α)) (n : Nat) (val : Nat → α)
    (hend : ∀ k s, s.length = n → F (k + 1) n s = some (1 + (n : Int), s))
    (hstep : ∀ k i s, i < n → s.length = n → F (k + 1) i s = F k (i + 1) (s.set i (val i))) (dv : α) :
    ∀ (d k i : Nat) (s : List α), i + d = n → d < k → s.length = n → (∀ j, j < i → s.getD j dv = val j) → F k i s = some (1 + (n : Int), (List.range n).map val) := by
  intro d
  induction d with
  | zero =>
    intro k i s hi hk hs hj
    obtain ⟨k, rfl⟩ : ∃ m, k = m + 1 := ⟨k - 1, by omega⟩
    obtain rfl : i = n := by omega
    rw [hend k s hs]
    have e : s = (List.range i).map val := ext_getD s _ dv (by simpa using hs) fun j h => by
      have h' : j < i := by simpa using h
      rw [hj j h']
      simp [List.getD_eq_getElem?_getD, h']
    rw [← e]
  | succ d ih =>
    intro k i s hi hk hs hj
    obtain ⟨k, rfl⟩ : ∃ m, k = m + 1 := ⟨k - 1, by omega⟩
    rw [hstep k i s (by omega) hs]
    refine ih k (i + 1) _ (by omega) (by omega) (by simpa using hs) fun j h => ?_
    rw [getD_set_self]
    by_cases e : i = j
    · subst e
      rw [if_pos ⟨rfl, by omega⟩]
    · rw [if_neg (fun h => e h.1)]
      exact hj j (by omega)
theorem held_loop (F : Nat → Nat → Option Int) (n : Nat)
    (hend : ∀ k, F (k + 1) n = some (1 + (n : Int)))
    (hstep : ∀ k i, i < n → F (k + 1) i = F k (i + 1)) :
    ∀ (d k i : Nat), i + d = n → d < k → F k i = some (1 + (n : Int)) := by
  intro d
  induction d with
  | zero =>
    intro k i hi hk
    obtain ⟨k, rfl⟩ : ∃ m, k = m + 1 := ⟨k - 1, by omega⟩
    obtain rfl : i = n := by omega
    exact hend k
  | succ d ih =>
    intro k i hi hk
    obtain ⟨k, rfl⟩ : ∃ m, k = m + 1 := ⟨k - 1, by omega⟩
    rw [hstep k i (by omega)]
    exact ih k (i + 1) (by omega) (by omega)
/-- A loop that counts up, told by its step. -/
def runL {σ ρ : Type} (step : Nat → σ → ρ ⊕ σ) (fin : σ → ρ) : Nat → Nat → σ → ρ
  | 0, _, s => fin s
  | d + 1, i, s => match step i s with
    | .inl r => r
    | .inr s' => runL step fin d (i + 1) s'
theorem loop_run {σ ρ : Type} (F : Nat → Nat → σ → Option ρ) (n : Nat) (step : Nat → σ → ρ ⊕ σ) (fin : σ → ρ) (Inv : Nat → σ → Prop)
    (hend : ∀ k s, Inv n s → F (k + 1) n s = some (fin s))
    (hstep : ∀ k i s, i < n → Inv i s → F (k + 1) i s = match step i s with
      | .inl r => some r
      | .inr s' => F k (i + 1) s')
    (hinv : ∀ i s s', i < n → Inv i s → step i s = .inr s' → Inv (i + 1) s') :
    ∀ (d k i : Nat) (s : σ), i + d = n → d < k → Inv i s → F k i s = some (runL step fin d i s) := by
  intro d
  induction d with
  | zero =>
    intro k i s hi hk hs
    obtain ⟨k, rfl⟩ : ∃ m, k = m + 1 := ⟨k - 1, by omega⟩
    obtain rfl : i = n := by omega
    exact hend k s hs
  | succ d ih =>
    intro k i s hi hk hs
    obtain ⟨k, rfl⟩ : ∃ m, k = m + 1 := ⟨k - 1, by omega⟩
    rw [hstep k i s (by omega) hs]
    unfold runL
    cases e : step i s with
    | inl r => rfl
    | inr s' => exact ih k (i + 1) s' (by omega) (by omega) (hinv i s s' (by omega) hs e)
theorem one_neg (n : Nat) : (1 + (n : Int) < 0) = False := by
  simp
  omega
theorem u8_bds {n : Int} (h : (Lit.int .u8 n).wf = true) : 0 ≤ n ∧ n ≤ 255 := by
  simp [Lit.wf, IntKind.min, IntKind.max, IntKind.signed, IntKind.bits] at h
  omega
theorem i64_bds {n : Int} (h : (Lit.int .i64 n).wf = true) : -9223372036854775808 ≤ n ∧ n ≤ 9223372036854775807 := by
  simp [Lit.wf, IntKind.min, IntKind.max, IntKind.signed, IntKind.bits] at h
  omega
theorem tmod_bd (a : Int) {b : Int} (hb : 0 < b) : -b < Int.tmod a b ∧ Int.tmod a b < b := by
  by_cases h : 0 ≤ a
  · rw [Int.tmod_eq_emod_of_nonneg h]
    have := Int.emod_nonneg a (show b ≠ 0 by omega)
    have := Int.emod_lt_of_pos a hb
    omega
  · have e : Int.tmod a b = -(Int.tmod (-a) b) := by rw [Int.neg_tmod]; omega
    rw [e, Int.tmod_eq_emod_of_nonneg (by omega)]
    have := Int.emod_nonneg (-a) (show b ≠ 0 by omega)
    have := Int.emod_lt_of_pos (-a) hb
    omega
theorem tm_pos (u : Nat) : Int.tmod (u : Int) 10 = ((u % 10 : Nat) : Int) ∧ Int.tdiv (u : Int) 10 = ((u / 10 : Nat) : Int) := by
  rw [Int.tmod_eq_emod_of_nonneg (by omega), Int.tdiv_eq_ediv_of_nonneg (by omega)]
  omega
theorem tm_neg (u : Nat) : Int.tmod (-(u : Int)) 10 = -((u % 10 : Nat) : Int) ∧ Int.tdiv (-(u : Int)) 10 = -((u / 10 : Nat) : Int) := by
  rw [Int.neg_tmod, Int.neg_tdiv, (tm_pos u).1, (tm_pos u).2]
  exact ⟨rfl, rfl⟩
theorem dig_app (c : Nat) (A : List UInt8) : strOfNums [((48 + c : Nat) : Int)] ++ (⟨A.toArray⟩ : ByteArray) = ⟨(UInt8.ofNat (48 + c) :: A).toArray⟩ := by
  apply ByteArray.ext
  apply Array.ext'
  unfold strOfNums
  simp only [List.map_cons, List.map_nil, Int.toNat_natCast, ByteArray.data_append, Array.toList_append]
  rfl
theorem w_small (z : Int) (h0 : -1000 ≤ z) (h1 : z ≤ 1000) : wrap64 z = z := by
  unfold wrap64
  omega
theorem e_pos (m : Nat) (h : m < 10) : (wrap64 (48 + (m : Int))) % 256 = ((48 + m : Nat) : Int) := by
  rw [w_small _ (by omega) (by omega)]
  omega
theorem e_neg (m : Nat) (h : m < 10) : (wrap64 (48 + (wrap64 (- -(m : Int))))) % 256 = ((48 + m : Nat) : Int) := by
  rw [Int.neg_neg, w_small (m : Int) (by omega) (by omega)]
  exact e_pos m h
theorem w_quot (q : Nat) (h : q ≤ 922337203685477580) : wrap64 (q : Int) = q ∧ wrap64 (-(q : Int)) = -(q : Int) := by
  unfold wrap64
  omega
def finF (x0 : Int) (L : List UInt8) : ByteArray := if x0 < 0 then ⟨(45 :: L).toArray⟩ else ⟨L.toArray⟩
theorem minus_app (A : List UInt8) : (⟨#[45]⟩ : ByteArray) ++ (⟨A.toArray⟩ : ByteArray) = ⟨(45 :: A).toArray⟩ := by
  apply ByteArray.ext
  apply Array.ext'
  simp [ByteArray.data_append]
theorem fmt_zero (k : Nat) (x0 : Int) (A : List UInt8) (hA : A.length ≤ 1000) (hk : 0 < k) : spec_FormatInt.l0 k x0 ⟨A.toArray⟩ 0 = some (finF x0 A) := by
  obtain ⟨k, rfl⟩ : ∃ m, k = m + 1 := ⟨k - 1, by omega⟩
  have hs : (⟨A.toArray⟩ : ByteArray).size = A.length := by simp [ByteArray.size]
  simp only [spec_FormatInt.l0]
  rw [if_pos trivial]
  unfold finF
  by_cases h : x0 < 0
  · rw [if_pos h, if_pos h, if_pos (by rw [hs]; omega), minus_app]
  · rw [if_neg h, if_neg h]
theorem fmt_l0 (x0 : Int) : ∀ (d k : Nat) (x : Int) (A : List UInt8), x ≠ 0 → x.natAbs < 10 ^ d → x.natAbs ≤ 9223372036854775808 → A.length + d ≤ 1000 → d < k → spec_FormatInt.l0 k x0 ⟨A.toArray⟩ x = some (finF x0 (Lib.decDigits x.natAbs ++ A)) := by
  intro d
  induction d with
  | zero =>
    intro k x A hx h1 _ _ _
    exfalso
    simp at h1
    omega
  | succ d ih =>
    intro k x A hx h1 h2 hA hk
    obtain ⟨k, rfl⟩ : ∃ m, k = m + 1 := ⟨k - 1, by omega⟩
    obtain ⟨u, hu⟩ : ∃ u, u = x.natAbs := ⟨_, rfl⟩
    have hs : (⟨A.toArray⟩ : ByteArray).size = A.length := by simp [ByteArray.size]
    have h1s : ∀ z : Int, (strOfNums [z]).size = 1 := fun z => rfl
    have hpow : u / 10 < 10 ^ d := by
      rw [← hu, Nat.pow_succ] at h1
      omega
    rw [← hu] at h2 ⊢
    -- the rest of the rounds, once the digit stands
    have rest : ∀ x' : Int, x'.natAbs = u / 10 → spec_FormatInt.l0 k x0 (strOfNums [((48 + u % 10 : Nat) : Int)] ++ (⟨A.toArray⟩ : ByteArray)) x' = some (finF x0 (Lib.decDigits u ++ A)) := by
      intro x' hx'
      rw [dig_app]
      by_cases hlt : u < 10
      · have e0 : x' = 0 := by omega
        subst e0
        rw [fmt_zero k x0 _ (by simp; omega) (by omega)]
        have e : Lib.decDigits u = [UInt8.ofNat (48 + u % 10)] := by
          rw [Lib.decDigits, dif_pos hlt, Nat.mod_eq_of_lt hlt]
        rw [e]
        rfl
      · have e : Lib.decDigits u = Lib.decDigits (u / 10) ++ [UInt8.ofNat (48 + u % 10)] := by
          rw [Lib.decDigits, dif_neg hlt]
        have := ih k x' (UInt8.ofNat (48 + u % 10) :: A) (by omega) (by rw [hx']; exact hpow) (by omega) (by simp; omega) (by omega)
        rw [this, hx', e]
        simp
    have hq : u / 10 ≤ 922337203685477580 := by omega
    have hm : u % 10 < 10 := Nat.mod_lt _ (by decide)
    have hsz : 1 + A.length ≤ 9223372036854775807 := by omega
    have hcase : x = (u : Int) ∨ x = -(u : Int) := by omega
    clear h1 h2 hA hk hpow ih
    simp only [spec_FormatInt.l0, Option.bind_some]
    rw [if_neg hx]
    rcases hcase with hc | hc
    · rw [hc, (tm_pos u).1, (tm_pos u).2, if_neg (Int.not_lt.2 (Int.natCast_nonneg _)), e_pos _ hm, h1s, hs, if_pos hsz, (w_quot _ hq).1]
      exact rest _ (Int.natAbs_natCast _)
    · rw [hc, (tm_neg u).1, (tm_neg u).2]
      have hab : (-((u / 10 : Nat) : Int)).natAbs = u / 10 := by rw [Int.natAbs_neg]; exact Int.natAbs_natCast _
      by_cases hz : u % 10 = 0
      · rw [hz]
        rw [if_neg (by decide), show wrap64 (48 + -((0 : Nat) : Int)) % 256 = ((48 + 0 : Nat) : Int) from by rw [w_small _ (by decide) (by decide)]; decide, h1s, hs, if_pos hsz, (w_quot _ hq).2]
        rw [hz] at rest
        exact rest _ hab
      · rw [if_pos (by omega), e_neg _ hm, h1s, hs, if_pos hsz, (w_quot _ hq).2]
        exact rest _ hab
theorem specFmt (k : Nat) (n : Int) (h0 : -9223372036854775808 ≤ n) (h1 : n ≤ 9223372036854775807) (hk : 30 < k) : spec_FormatInt.f k n = some ⟨(Lib.itoa n).toArray⟩ := by
  unfold spec_FormatInt.f
  by_cases h : n = 0
  · subst h
    rw [if_pos rfl]
    have e : Lib.itoa 0 = [48] := by
      unfold Lib.itoa
      rw [if_neg (by decide)]
      rw [Lib.decDigits, dif_pos (by decide)]
      rfl
    rw [e]
  · rw [if_neg h]
    have := fmt_l0 n 20 k n [] h (by omega) (by omega) (by decide) (by omega)
    have e0 : (⟨([] : List UInt8).toArray⟩ : ByteArray) = ⟨#[]⟩ := rfl
    rw [e0] at this
    rw [this, List.append_nil]
    unfold finF Lib.itoa
    by_cases hn : n < 0
    · rw [if_pos hn, if_pos hn]
    · rw [if_neg hn, if_neg hn]
      have : n.toNat = n.natAbs := by omega
      rw [this]
theorem implFmt (n : Int) (h0 : -9223372036854775808 ≤ n) (h1 : n ≤ 9223372036854775807) : impl_FormatInt.f n = some ⟨(Lib.itoa n).toArray⟩ := by
  unfold impl_FormatInt.f
  rw [if_pos ⟨h0, h1⟩]
theorem l1in (a b c : Int) : spec_l1In.f a b c = some (decide (b ≤ a ∧ a ≤ c)) := by
  unfold spec_l1In.f
  by_cases h : b ≤ a <;> simp [h]
def parEnd (s : ByteArray) (acc : Int) : Int × Bool := if acc > 1000000000000 then (0, false) else if (⟨(Lib.itoa acc).toArray⟩ : ByteArray).toList = s.toList then (acc, true) else (0, false)
def parV (s : ByteArray) : Nat → Int → Int → Int × Bool
  | 0, _, acc => parEnd s acc
  | d + 1, i, acc => if 48 ≤ bt s i ∧ bt s i ≤ 57 then parV s d (i + 1) (acc * 10 + (bt s i - 48)) else (0, false)
def parseV (s : ByteArray) : Int × Bool := if 1 ≤ s.size ∧ s.size ≤ 13 then parV s s.size 0 0 else (0, false)
theorem par_pow (i : Nat) (h : i ≤ 13) : ((10 ^ i : Nat) : Int) ≤ 10000000000000 := by
  have := Nat.pow_le_pow_right (by decide : 0 < 10) h
  have e : (10 : Nat) ^ 13 = 10000000000000 := by decide
  omega
theorem par_step (P acc b : Int) (hP : P ≤ 10000000000000) (h0 : 0 ≤ acc) (h1 : acc < P) (b0 : 48 ≤ b) (b1 : b ≤ 57) : wrap64 (wrap64 (10 * acc) + ((b - 48) % 256)) = acc * 10 + (b - 48) ∧ wrap64 (wrap64 (acc * 10) + ((b - 48) % 256)) = acc * 10 + (b - 48) := by
  have e1 : wrap64 (10 * acc) = acc * 10 := by unfold wrap64; omega
  have e2 : wrap64 (acc * 10) = acc * 10 := by unfold wrap64; omega
  have e3 : (b - 48) % 256 = b - 48 := by omega
  have e4 : wrap64 (acc * 10 + (b - 48)) = acc * 10 + (b - 48) := by unfold wrap64; omega
  rw [e1, e2, e3, e4]
  exact ⟨rfl, rfl⟩
theorem par_next (i : Nat) (acc b : Int) (h0 : 0 ≤ acc) (h1 : acc < ((10 ^ i : Nat) : Int)) (b0 : 48 ≤ b) (b1 : b ≤ 57) : 0 ≤ acc * 10 + (b - 48) ∧ acc * 10 + (b - 48) < ((10 ^ (i + 1) : Nat) : Int) := by
  rw [Nat.pow_succ]
  generalize 10 ^ i = P at *
  omega
theorem bt_wrap (s : ByteArray) (i : Int) (h0 : 0 ≤ i) (h : i < (s.size : Int)) : wrap64 (bt s i) = bt s i ∧ 0 ≤ bt s i ∧ bt s i ≤ 255 := by
  have h' : i.toNat < s.size := by omega
  have e := bt_at s i h'
  have hb := (s[i.toNat]'h').toNat_lt
  have hr : 0 ≤ bt s i ∧ bt s i ≤ 255 := by rw [← e]; omega
  refine ⟨?_, hr⟩
  obtain ⟨a, b⟩ := hr
  generalize bt s i = z at *
  unfold wrap64
  omega
theorem par_lt (i : Nat) (acc : Int) (h : i ≤ 13) (h1 : acc < ((10 ^ i : Nat) : Int)) : acc ≤ 9223372036854775807 := by
  have := par_pow i h
  omega
theorem specParse_l0 (s : ByteArray) (hs : s.size ≤ 13) : ∀ (d k i : Nat) (acc : Int), i + d = s.size → 0 ≤ acc → acc < ((10 ^ i : Nat) : Int) → d + 32 < k → spec_ParseInt.l0 k s acc (i : Int) = some (parV s d (i : Int) acc) := by
  intro d
  induction d with
  | zero =>
    intro k i acc hi h0 h1 hk
    have hb := par_lt i acc (by omega) h1
    obtain ⟨k, rfl⟩ : ∃ m, k = m + 1 := ⟨k - 1, by omega⟩
    simp only [spec_ParseInt.l0]
    rw [if_neg (by omega), specFmt k acc (by omega) hb (by omega)]
    simp only [Option.bind_some, parV, parEnd]
    by_cases h : acc > 1000000000000
    · rw [if_pos h, if_pos h]
    · rw [if_neg h, if_neg h]
      by_cases h2 : (⟨(Lib.itoa acc).toArray⟩ : ByteArray).toList = s.toList
      · rw [if_pos h2, if_pos h2]
      · rw [if_neg h2, if_neg h2]
  | succ d ih =>
    intro k i acc hi h0 h1 hk
    obtain ⟨k, rfl⟩ : ∃ m, k = m + 1 := ⟨k - 1, by omega⟩
    have hlt : i < s.size := by omega
    have hw := bt_wrap s (i : Int) (by omega) (by omega)
    have hP := par_pow i (by omega)
    simp only [spec_ParseInt.l0, l1in]
    rw [if_pos (by omega), if_pos (by omega), hw.1, wrap_nat hlt (by omega)]
    simp only [Option.bind_some, parV]
    by_cases h : 48 ≤ bt s (i : Int) ∧ bt s (i : Int) ≤ 57
    · have hn := par_next i acc (bt s (i : Int)) h0 h1 h.1 h.2
      rw [decide_eq_true h, if_pos rfl, if_pos h, (par_step _ acc _ hP h0 h1 h.1 h.2).1]
      exact ih k (i + 1) _ (by omega) hn.1 hn.2 (by omega)
    · rw [decide_eq_false h, if_neg (by decide), if_neg h]
theorem implParse_l0 (s : ByteArray) (hs : s.size ≤ 13) : ∀ (d k i : Nat) (acc : Int), i + d = s.size → 0 ≤ acc → acc < ((10 ^ i : Nat) : Int) → d < k → impl_ParseInt.l0 k s acc (s.size : Int) (i : Int) = some (parV s d (i : Int) acc) := by
  intro d
  induction d with
  | zero =>
    intro k i acc hi h0 h1 hk
    have hb := par_lt i acc (by omega) h1
    obtain ⟨k, rfl⟩ : ∃ m, k = m + 1 := ⟨k - 1, by omega⟩
    simp only [impl_ParseInt.l0]
    rw [if_neg (by omega), implFmt acc (by omega) hb]
    simp only [Option.bind_some, parV, parEnd]
    by_cases h : acc > 1000000000000
    · rw [if_pos h, if_pos h]
    · rw [if_neg h, if_neg h]
      by_cases h2 : (⟨(Lib.itoa acc).toArray⟩ : ByteArray).toList = s.toList
      · rw [if_pos h2, if_pos h2]
      · rw [if_neg h2, if_neg h2]
  | succ d ih =>
    intro k i acc hi h0 h1 hk
    obtain ⟨k, rfl⟩ : ∃ m, k = m + 1 := ⟨k - 1, by omega⟩
    have hlt : i < s.size := by omega
    have hP := par_pow i (by omega)
    simp only [impl_ParseInt.l0]
    rw [if_pos (by omega), if_pos (by omega), if_pos (by omega), wrap_nat hlt (by omega)]
    simp only [parV]
    by_cases h : 48 ≤ bt s (i : Int) ∧ bt s (i : Int) ≤ 57
    · have hn := par_next i acc (bt s (i : Int)) h0 h1 h.1 h.2
      rw [if_neg (by omega), if_neg (by omega), if_pos h, (par_step _ acc _ hP h0 h1 h.1 h.2).2]
      exact ih k (i + 1) _ (by omega) hn.1 hn.2 (by omega)
    · rw [if_neg h]
      by_cases h2 : bt s (i : Int) < 48
      · rw [if_pos h2]
      · rw [if_neg h2, if_pos (by omega)]
theorem specParse (k : Nat) (s : ByteArray) (hk : 60 < k) : spec_ParseInt.f k s = some (parseV s) := by
  unfold spec_ParseInt.f parseV
  rw [l1in]
  simp only [Option.bind_some]
  by_cases h : 1 ≤ s.size ∧ s.size ≤ 13
  · rw [if_pos h, if_pos (by simp; omega)]
    exact specParse_l0 s h.2 s.size k 0 0 (by omega) (by decide) (by decide) (by omega)
  · rw [if_neg h, if_neg (by simp; omega)]
theorem implParse (k : Nat) (s : ByteArray) (hk : 60 < k) : impl_ParseInt.f k s = some (parseV s) := by
  obtain ⟨k, rfl⟩ : ∃ m, k = m + 1 := ⟨k - 1, by omega⟩
  unfold impl_ParseInt.f parseV
  by_cases h0 : (s.size : Int) = 0
  · rw [if_pos h0, if_neg (by omega)]
    simp only [impl_ParseInt.j0, if_true]
  · rw [if_neg h0]
    by_cases h : s.size ≤ 13
    · rw [if_pos ⟨by omega, h⟩, decide_eq_false (by omega)]
      simp only [impl_ParseInt.j0, Bool.false_eq_true, if_false]
      exact implParse_l0 s h s.size k 0 0 (by omega) (by decide) (by decide) (by omega)
    · rw [if_neg (by omega), decide_eq_true (by omega)]
      simp only [impl_ParseInt.j0, if_true]
theorem FnExactParseInt : laws_FnExactParseInt.Pure := by
  intro s _
  refine ⟨100, ?_⟩
  unfold laws_FnExactParseInt.f
  by_cases h : (s.size : Int) > 1048576
  · rw [if_pos h]
  rw [if_neg h, specParse 100 s (by decide), implParse 100 s (by decide)]
  simp
end Go.Proofs.YtddkpgmomakkcaaDoor.Pure
