/- Contracts of Go functions that one law uses: each call comes to what the Lean function of its name says, under the conditions in its theorem; and the law's walk and row. -/
import Derived.Test.YtcagamenognlpaaPFnExactAddWordx0
namespace Go.Proofs.Ytcagamenognlpaa.PFnExactAddWord
open Go.RowKit Go.Proofs.YtcagamenognlpaaW.PrintWords Go.Proofs.YtcagamenognlpaaW.PrintLast Go.Proofs.YtcagamenognlpaaW.PrintMore
attribute [local go_sem] max2_int min2_int max_two min_two max_three min_three max_four min_four   -- for this text's walks alone
set_option linter.unusedVariables false
set_option linter.unusedSimpArgs false

/-! ### impl_listedAt: function 46 -/
theorem impl_listedAt.cl (W : World) (B : Nat) (s : ByteArray) (word : ByteArray) (x y z : Int) (hB : B < W.heap.size) (hc : W.cell? ⟨B, 0, none⟩ = some (.string word)) :
  Calls Try.prog 59 #[.agg #[.string s, .int .i64 x, .int .i64 y, .int .i64 z], .pointer (some ⟨B, 0, none⟩)] W fun e w' => e = .returned (.bool (s.toList == word.toList)) ∧ Below W.heap.size W w' := by
  go_enter Try.func59, Try.ntmps59
  go_wp2
  go_ret
  exact ⟨rfl, below_alloc (Below.refl _ _) _⟩
def impl_listedAt.g (l : List S45) (s : ByteArray) : Nat → Int → Int
  | 0, _ => -1
  | d + 1, i => if ((rd_T45 l i).f0.toList == s.toList) = true then i else impl_listedAt.g l s d (i + 1)
set_option maxHeartbeats 2000000 in
theorem impl_listedAt.ix (A0 : Option Addr) (c0 : Nat) (l : List S45) (word : ByteArray) (B : Nat) (w : World) (hr0 : Kd.C k45 w A0 l.length l) (hB : B < w.heap.size) (hc : w.cell? ⟨B, 0, none⟩ = some (.string word)) (hl : l.length ≤ 140737488351232) :
  Calls Try.prog 58 #[.slice A0 l.length c0, .func (.func 59) #[] #[.pointer (some ⟨B, 0, none⟩)]] w fun e w' => e = .returned (.int .i64 (impl_listedAt.g l word l.length 0)) ∧ Below w.heap.size w w' := by
  have HR0 := Aside0.mk hr0
  have HL := Aside0.mk hl
  have hcl : ∀ (W : World) (s : ByteArray) (x y z : Int), Below w.heap.size w W → Calls Try.prog 59 (#[.agg #[.string s, .int .i64 x, .int .i64 y, .int .i64 z]] ++ #[.pointer (some ⟨B, 0, none⟩)]) W fun e w' => e = .returned (.bool (s.toList == word.toList)) ∧ Below w.heap.size w w' := by
    intro W s x y z hb
    refine (impl_listedAt.cl W B s word x y z (Nat.lt_of_lt_of_le hB hb.size) ((hb.cell (p := ⟨B, 0, none⟩) hB).trans hc)).mono ?_
    rintro e w' ⟨he, hb'⟩
    exact ⟨he, hb.trans (hb'.mono hb.size)⟩
  have HCL := Aside0.mk hcl
  clear hr0 hl hc hB hcl
  go_enter Try.func58, Try.ntmps58
  go_wp2
  go_loopg [5, 8] l.length (fun gg _ v8 wr => ∃ x : Int, v8 = .int .i64 x ∧ Aside0 (0 ≤ x) ∧ Aside0 (x + gg = l.length) ∧ Aside0 (impl_listedAt.g l word gg x = impl_listedAt.g l word l.length 0) ∧ Aside0 (Below w.heap.size w wr))
  case atStart => exact ⟨0, rfl, ⟨by omega⟩, ⟨by omega⟩, ⟨rfl⟩, ⟨Below.refl _ _⟩⟩
  case round =>
    obtain ⟨x, rfl, H0, HX, HG, HB⟩ := hrel
    by_cases hlt : x < (l.length : Int)
    · have p1 : 0 ≤ x := H0.out
      obtain ⟨ad, e1, hx0, hx1, hx2, hx3⟩ := at_T45 HR0.out x p1 hlt
      cases e1
      replace hx0 := (HB.out.cell (World.block_lt_of_cell? w _ hx0)).trans hx0
      replace hx1 := (HB.out.cell (World.block_lt_of_cell? w _ hx1)).trans hx1
      replace hx2 := (HB.out.cell (World.block_lt_of_cell? w _ hx2)).trans hx2
      replace hx3 := (HB.out.cell (World.block_lt_of_cell? w _ hx3)).trans hx3
      have hcall := HCL.out _ (rd_T45 l x).f0 (rd_T45 l x).f1 (rd_T45 l x).f2 (rd_T45 l x).f3 HB.out
      have c1 : decide (x < (l.length : Int)) = true := decide_eq_true hlt
      replace p1 := eq_true p1
      replace hlt := eq_true hlt
      obtain ⟨bq, hbq⟩ : ∃ b : Bool, b = ((rd_T45 l x).f0.toList == word.toList) := ⟨_, rfl⟩
      rw [← hbq] at hcall
      have NB := Aside0.mk hbq
      clear hbq
      obtain ⟨m, rfl⟩ : ∃ m, gk = m + 1 := ⟨gk - 1, by have := HX.out; have := of_eq_true hlt; omega⟩
      have HS := Aside0.mk (show impl_listedAt.g l word (m + 1) x = if bq = true then x else impl_listedAt.g l word m (x + 1) by rw [NB.out]; rfl)
      have hw := Aside0.mk (show 0 ≤ x + 1 ∧ x + 1 ≤ 140737488351232 by have := HL.out; have := of_eq_true hlt; have := H0.out; omega)
      cases bq
      · go_wp2_with (go_at_call 59; refine hcall.mono ?_; rintro e w' ⟨rfl, hb'⟩)
        go_roundg m
        case measure => omega
        case rel =>
          refine ⟨x + 1, ?_, ⟨hw.out.1⟩, ⟨by have := HX.out; omega⟩, ⟨?_⟩, ⟨hb'⟩⟩
          · have h1 := hw.out
            rw [show wrap64 (x + 1) = x + 1 by unfold wrap64; omega]
          · have h1 := HG.out
            rw [HS.out] at h1
            simpa using h1
      · go_wp2_with (go_at_call 59; refine hcall.mono ?_; rintro e w' ⟨rfl, hb'⟩)
        go_ret
        refine ⟨?_, hb'⟩
        have h1 := HG.out
        rw [HS.out] at h1
        rw [← h1]
        rfl
    · have c1 : decide (x < (l.length : Int)) = false := decide_eq_false hlt
      obtain rfl : gk = 0 := by have := HX.out; omega
      clear hlt
      go_wp2
      go_ret
      refine ⟨?_, HB.out⟩
      have h1 := HG.out
      rw [← h1]
      rfl
def impl_listedAt.f (l0 : List S45) (a1 : ByteArray) : Option (Int) := if l0.length ≤ 140737488351232 then some (impl_listedAt.g l0 a1 l0.length 0) else none
theorem impl_listedAt.calls (A0 : Option Addr) (c0 : Nat) (l0 : List S45) (a1 : ByteArray) (r : Int) (w : World) (hr0 : Kd.C k45 w A0 l0.length l0) (hc0 : l0.length ≤ c0) (h : impl_listedAt.f l0 a1 = some r) :
    Calls Try.prog 46 #[.slice A0 l0.length c0, .string a1] w fun e w' => e = .returned (.int .i64 r) ∧ Below w.heap.size w w' := by
  unfold impl_listedAt.f at h
  by_cases hl : l0.length ≤ 140737488351232
  · rw [if_pos hl] at h
    obtain rfl := Option.some.inj h
    clear h
    have HB := Aside0.mk (Below.refl w.heap.size w)
    have hix := fun (W : World) (h1 : Kd.C k45 W A0 l0.length l0) (hB : w.heap.size < W.heap.size) (hc : W.cell? ⟨w.heap.size, 0, none⟩ = some (.string a1)) => impl_listedAt.ix A0 c0 l0 a1 w.heap.size W h1 hB hc hl
    have HI := Aside0.mk hix
    have HR0 := Aside0.mk hr0
    clear hix hr0 hl
    go_enter Try.func46, Try.ntmps46
    go_wp2_with (go_at_call 58; refine (HI.out _ (Kd.C_below HR0.out (below_alloc HB.out _)) (by simp) (by simp)).mono ?_; rintro e w' ⟨rfl, hb'⟩)
    go_ret
    exact ⟨rfl, below_step (below_alloc HB.out _) hb'⟩
  · rw [if_neg hl] at h
    cases h

/-! ### impl_Listed: function 47 -/
def impl_Listed.f (l0 : List S45) : Option (List S45) := if l0.length < 3518437208883 then some l0 else none
set_option maxHeartbeats 8000000 in
set_option maxRecDepth 100000 in
theorem impl_Listed.calls (A0 : Option Addr) (c0 : Nat) (l0 : List S45) (r : List S45) (w : World) (hr0 : Kd.C k45 w A0 l0.length l0) (hc0 : l0.length ≤ c0) (h : impl_Listed.f l0 = some r) :
    Calls Try.prog 47 #[.slice A0 l0.length c0] w fun e w' => ∃ v0_ : Value, e = .returned (v0_) ∧ Kd.R k45 45 w' w.heap.size (fun _ => True) v0_ r ∧ Below w.heap.size w w' := by
  have HR0 := Aside0.mk hr0
  have HC0 := Aside0.mk hc0
  have HB := Aside0.mk (Below.refl w.heap.size w)
  unfold impl_Listed.f at h
  by_cases c2 : l0.length < 3518437208883
  · rw [if_pos c2] at h
    have LMc2 := Aside0.mk c2
    clear c2
    obtain rfl := Option.some.inj h
    clear h hc0
    have heq := fun (W : World) => Lib.run_eql_slice_nil (P := Try.prog) W 25 45 A0 l0.length c0 0 0 Try.underlying25
    cases A0 with
    | none =>
      have h0 : l0 = [] := by
        have h1 := hr0.2.2
        cases l0 with
        | nil => rfl
        | cons x xs =>
          exfalso
          obtain ⟨ad, hq, _⟩ := h1 (by simp)
          cases hq
      clear hr0 HR0
      subst h0
      simp only [Option.isNone_none, List.length_nil] at heq ⊢
      go_enter Try.func47, Try.ntmps47
      go_wp2
      go_ret
      exact ⟨_, rfl, Kd.R_nil _ _ _ _ _, (by repeat (first | (with_reducible first | exact HB.out | apply below_alloc | apply pw_below_drewN | apply below_drew1) | exact HB.out))⟩
    | some ad =>
      clear hr0
      simp only [Option.isNone_some] at heq
      obtain ⟨y134, hy134⟩ : ∃ y_ : List S45, y_ = ([] : List S45) := ⟨_, rfl⟩
      have Ny134 := Aside0.mk hy134
      obtain ⟨y137, hy137⟩ : ∃ y_ : List S45, y_ = y134 ++ l0 := ⟨_, rfl⟩
      have Ny137 := Aside0.mk hy137
      have Nr := Aside0.mk (show y137 = l0 by rw [hy137, hy134]; rfl)
      have LMc3 := Aside0.mk (show y134.length + l0.length < 3518437208883 by rw [hy134]; simpa using LMc2.out)
      clear hy134 hy137
      go_enter Try.func47, Try.ntmps47
      go_wp2_with (first | ((with_reducible refine gate_dst (N := 5) rfl ?_); refine Kd.R_lit k45 _ 45 ?hg (N := 5) ?hd (xs := ([] : List S45)) (inner := []) (ok := fun _ => True) (okp := fun _ => True) ?hr ?hp (fun _ hk => hk) trivial (Below.refl _ _) (Nat.le_refl _) (by simp) ?_; (case hd => rfl); (case hg => rfl); (case hr => first | (go_simp; done) | (go_simp; rfl)); (case hp => exact (Reps.none _ _)); intro v135 w3 ho4 hb hg_ hnew_; clear hg_ hnew_; (rw [← Ny134.out] at ho4); have n0_ := Aside0.mk (Kd.R_lower ho4 (below_size (by repeat (first | (with_reducible first | exact HB.out | apply below_alloc | apply pw_below_drewN | apply below_drew1) | exact HB.out)))); have n1_ := Aside0.mk (below_step (by repeat (first | (with_reducible first | exact HB.out | apply below_alloc | apply pw_below_drewN | apply below_drew1) | exact HB.out)) hb); clear HB; have HO136 := n0_; have HB := n1_; clear n0_ n1_; clear hb ho4) | ((with_reducible refine gate_builtin (b := .append) (xs := #[.tmp 5, .tmp 6]) rfl ?_); at_builtin; refine Kd.R_append_rows k45 (w0 := w) w.heap.size rfl (.tmp 5) (.tmp 6) 25 45 (.agg #[(.string ⟨#[]⟩), (.int .i64 0), (.int .i64 0), (.int .i64 0)]) 40 rfl Try.underlying25 info45 rfl (by decide) (by omega) v135 y134 l0 _ _ _ (fun _ => True) (fun _ => False) rfl rfl ?aO ?aR (fun _ _ h => h) (fun _ h => h.elim) ?aF ?aB ?aS ?aL ?_; (case aR => repeat (first | exact (Kd.C_below HR0.out HB.out) | (with_reducible refine Kd.C_alloc ?_ _) | (with_reducible refine Kd.C_drewN ?_ _) | (with_reducible refine Kd.C_drew ?_))); (case aB => exact (by repeat (first | (with_reducible first | exact HB.out | apply below_alloc | apply pw_below_drewN | apply below_drew1) | exact HB.out))); (case aF => exact (fun _ _ => trivial)); (case aO => exact (by (with_reducible repeat (first | apply Kd.R_alloc | apply Kd.R_drewN | apply Kd.R_drew)); exact HO136.out)); (case aS => exact (below_size (by repeat (first | (with_reducible first | exact HB.out | apply below_alloc | apply pw_below_drewN | apply below_drew1) | exact HB.out)))); (case aL => have := LMc3.out; omega); intro v138 w5 ho hb hg hat; rw [← Ny137.out] at ho; have n0_ := Aside0.mk (hb); have n1_ := Aside0.mk (ho); clear HB; clear HO136; have HB := n0_; have HO139 := n1_; clear n0_ n1_; clear ho hb hg hat))
      go_ret
      have hfin := HO139.out
      rw [Nr.out] at hfin
      exact ⟨_, rfl, (by (with_reducible repeat (first | apply Kd.R_alloc | apply Kd.R_drewN | apply Kd.R_drew)); exact hfin), (by repeat (first | (with_reducible first | exact HB.out | apply below_alloc | apply pw_below_drewN | apply below_drew1) | exact HB.out))⟩
  · rw [if_neg c2] at h
    cases h

end Go.Proofs.Ytcagamenognlpaa.PFnExactAddWord
