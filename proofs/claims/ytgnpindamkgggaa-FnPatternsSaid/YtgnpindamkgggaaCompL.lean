/- slices.Sort of no element, slices.Compact at bytes over a row that is new. No condition beyond those in each theorem. -/
import Derived.Test.YtgnpindamkgggaaSortL
import Derived.Shelf.SlicesE.Compact
namespace Go.Proofs.YtgnpindamkgggaaRev
open Go.RowKit Go.Proofs.YtgnpindamkgggaaW.PrintWords Go.Sort Go.Proofs Go.Proofs.YtgnpindamkgggaaSrt
set_option linter.unusedVariables false
set_option linter.unusedSimpArgs false
theorem ins_nil (p : Option Addr) (cap : Nat) (w : World) :
    Calls Try.prog 98 #[.slice p 0 cap, .int .i64 0, .int .i64 0] w fun e w' => e = .returned (.tuple #[]) ∧ w' = w := by
  go_enter Try.func98, Try.ntmps98
  go_wp2
  refine wp_loop_rounds 1 ?_
  rw [rounds_succ]
  go_wp2
  go_end0
  exact ⟨rfl, rfl⟩
set_option maxRecDepth 100000 in
theorem pdq_nil (p : Option Addr) (cap : Nat) (w : World) :
    Calls Try.prog 91 #[.slice p 0 cap, .int .i64 0, .int .i64 0, .int .i64 0] w fun e w' => e = .returned (.tuple #[]) ∧ w' = w := by
  go_enter Try.func91, Try.ntmps91
  go_wp2
  refine wp_loop_rounds 1 ?_
  rw [rounds_succ]
  go_wp2_with (first | (go_at_call 98; refine (ins_nil p cap _).mono ?_; rintro e w' ⟨rfl, rfl⟩))
  refine bodyPost_ret (results_none rfl _ _ _) rfl ?_
  exact ⟨rfl, rfl⟩
set_option maxRecDepth 100000 in
theorem sort_nil (p : Option Addr) (cap : Nat) (w : World) :
    Calls Try.prog 60 #[.slice p 0 cap] w fun e w' => e = .returned (.tuple #[]) ∧ w' = w := by
  have hLen : ∀ w, Calls Try.prog 92 #[.int .u64 0] w fun e w' => e = .returned (.int .i64 0) ∧ w' = w := fun w => So8.bits_Len 0 w (by omega) (by omega)
  go_enter Try.func60, Try.ntmps60
  go_wp2_with (first
    | (go_at_call 92; refine (hLen _).mono ?_; rintro e w' ⟨rfl, rfl⟩)
    | (go_at_call 91; refine (pdq_nil p cap _).mono ?_; rintro e w' ⟨rfl, rfl⟩))
  go_end0
  exact ⟨rfl, rfl⟩
theorem compact_nil (p : Option Addr) (cap : Nat) (w : World) :
    Calls Try.prog 61 #[.slice p 0 cap] w fun e w' => e = .returned (.slice p 0 cap) ∧ w' = w := by
  go_enter Try.func61, Try.ntmps61
  go_wp2
  go_ret
  exact ⟨rfl, rfl⟩
def laysCm : Go.Shelf.Ren := ⟨fun | 43 => 61 | n => n, fun | 0 => 0 | 3 => 3 | 4 => 4 | 22 => 30 | 23 => 5 | n => n, fun n => n⟩
theorem laysCm_ok : Go.Proofs.SlLaysE.n43 Try.prog laysCm := {
  mixed := by kernel_rfl
  f43 := ⟨Try.f61.name, by decide, Try.func61.trans (congrArg some (by kernel_rfl))⟩
  t0 := Try.underlying0
  a0 := Try.isAgg0
  z0 := Try.sizeOf0
  v0 := Try.zeroValue0
  t3 := Try.underlying3
  a3 := Try.isAgg3
  z3 := Try.sizeOf3
  v3 := Try.zeroValue3
  t4 := Try.underlying4
  a4 := Try.isAgg4
  z4 := Try.sizeOf4
  v4 := Try.zeroValue4
  t22 := Try.underlying30
  a22 := Try.isAgg30
  z22 := Try.sizeOf30
  v22 := Try.zeroValue30
  a23 := Try.isAgg5
  z23 := Try.sizeOf5 }
def cmp (xs : List Int) : List Int := Lib.compact xs
theorem cmp_len (xs : List Int) : (cmp xs).length ≤ xs.length := by
  unfold cmp Lib.compact Lib.compactUpTo
  rw [List.length_map]
  refine Nat.le_trans (List.length_filter_le _ _) ?_
  simp
theorem C_of_prefix {w : World} {g : Nat} {xs ys : List Int} (h : Holds encB w g 0 (xs ++ ys).toArray) (hn : xs.length ≤ 9223372036854775807) : Kd.C (Kd.int .u8) w (some ⟨g, 0, none⟩) xs.length xs := by
  refine Go.Proofs.YtgnpindamkgggaaConv.C_of_holds (fun j hj => ?_) hn
  have hj' : j < xs.length := by simpa using hj
  have := h j (by simp; omega)
  rw [Go.Proofs.YtgnpindamkgggaaConv.get_bang _ _ (by simp; omega)] at this
  rw [Go.Proofs.YtgnpindamkgggaaConv.get_bang _ _ hj']
  simp only [List.getD_eq_getElem?_getD, List.getElem?_append_left hj'] at this ⊢
  exact this
theorem comp_list (blk cap m : Nat) (xs : List Int) (hm : m = xs.length) (hm2 : m ≤ 9223372036854775807) (hc : m ≤ cap) (w0 w : World) (hH : Holds encB w blk 0 xs.toArray) (hb : Go.RowKit.Below w0.heap.size w0 w) (hg : w0.heap.size ≤ blk) :
    Calls Try.prog 61 #[.slice (some ⟨blk, 0, none⟩) m cap] w fun e w' => e = .returned (.slice (some ⟨blk, 0, none⟩) (cmp xs).length cap) ∧ Kd.C (Kd.int .u8) w' (some ⟨blk, 0, none⟩) (cmp xs).length (cmp xs) ∧ Go.RowKit.Below w0.heap.size w0 w' := by
  subst hm
  have h := AnyE.slices_Compact (P := Try.prog) (ρ := laysCm) laysCm_ok encB (fun _ => rfl) (EqlAt.intD Try.prog (laysCm.t 23) .u8) (NeqAt.intD Try.prog (laysCm.t 23) .u8) (0 : Int) (fun w => Try.zeroValue5 w) blk 0 cap xs.toArray w hH (by simpa using hm2) (by simpa using hc)
  simp only [List.size_toArray] at h
  refine h.mono ?_
  rintro e w' ⟨he, q, rfl⟩
  have hl : (Lib.compactUpTo xs.toArray xs.length).length ≤ xs.length := cmp_len xs
  refine ⟨he, ?_, below_putRow hb hg⟩
  refine C_of_prefix (ys := List.replicate (xs.length - (Lib.compactUpTo xs.toArray xs.length).length) 0) ?_ (Nat.le_trans hl hm2)
  exact holds_putRow encB (Sort.ahead w q) blk 0 xs.toArray _ (holds_ahead _ _ _ _ _ _ hH) (by simp; omega)
theorem cmp_nil : cmp (srt []) = [] := by simp [srt, cmp, Lib.compact, Lib.compactUpTo]
/-- A row of bytes of the call's own: none, or a block's cells from its head on. -/
theorem R_holds {w : World} {base e : Nat} {ok : Nat → Prop} {v : Value} {xs : List Int} (h : Kd.R (Kd.int .u8) e w base ok v xs) :
    (v = .slice none 0 0 ∧ xs = []) ∨ ∃ g cap, v = .slice (some ⟨g, 0, none⟩) xs.length cap ∧ base ≤ g ∧ g < w.heap.size ∧ xs.length ≤ cap ∧ cap ≤ 9223372036854775807 ∧ Holds encB w g 0 xs.toArray := by
  obtain ⟨h0, inner, ⟨hlen, ho⟩, hr⟩ := h
  rcases ho with ⟨rfl, hn⟩ | ⟨g, cap, cur, rfl, hg, hh, hc1, hc2, hc3, hc4⟩
  · exact .inl ⟨rfl, List.length_eq_zero_iff.1 hn⟩
  · refine .inr ⟨g, cap, rfl, hg, (Array.getElem?_eq_some_iff.1 hh).1, hc1, by unfold maxLen at hc2; exact hc2, fun j hj => ?_⟩
    have hj' : j < xs.length := by simpa using hj
    have h1 := hr.2 j _ (List.getElem?_eq_getElem hj')
    have hK : (inner.drop (j * 1)).take 1 = [Value.int .u8 xs[j]] := h1
    have hi : inner[j]? = some (Value.int .u8 xs[j]) := by
      have := congrArg (fun l => l[0]?) hK
      simpa using this
    have hcur : cur[j]? = some (Value.int .u8 xs[j]) := by
      have h2 : (cur.toList.take (xs.length * 1))[j]? = some (Value.int .u8 xs[j]) := by
        have hc4' : cur.toList.take (xs.length * 1) = inner := hc4
        rw [hc4']; exact hi
      rw [List.getElem?_take_of_lt (by omega)] at h2
      simpa using h2
    refine ⟨?_, ?_⟩
    · rw [Nat.zero_add]
      have e : encB (xs.toArray)[j]! = Value.int .u8 xs[j] := by
        rw [Go.Proofs.YtgnpindamkgggaaConv.get_bang _ _ hj']
        simp [encB, List.getD_eq_getElem?_getD, List.getElem?_eq_getElem hj']
      rw [e]
      simp [World.cell?, hh, hcur]
    · simp [World.frozen?, hh]
end Go.Proofs.YtgnpindamkgggaaRev
