/- slices.Insert of one element into a row of elements of four cells: each of its three ways. No condition beyond those in each theorem. -/
import Derived.Test.YtcagamenognlpaaWMore
import Derived.Test.YtcagamenognlpaaProg
import Derived.Shelf.Spec.SlicesInsert
import Derived.Lib.AppendZerosOnto
import Derived.Maps.AppendAt
namespace Go.Proofs.YtcagamenognlpaaInsL
open Go.RowKit Go.Proofs.YtcagamenognlpaaW.PrintWords Go.Lib Go.Proofs
set_option linter.unusedVariables false
set_option linter.unusedSimpArgs false
theorem copy_rows {P : Program} (w : World) (dT sT ty elem : TypeId) (size : Nat) (g o dLen dCap : Nat) (a : Addr) (sLen sCap : Nat) (cur : Array Value) (t : TypeId) (cs : List Value)
    (hu : P.underlying dT = some (.slice elem)) (hs : (P.info? elem).map (·.size) = some size)
    (hg : w.heap[g]? = some (.cells cur t (0, 0))) (hn : cs.length = Nat.min sLen dLen * size)
    (hsrc : ∀ j v, cs[j]? = some v → w.cell? (a.add j) = some v) (hfit : o + cs.length ≤ cur.size) (h1 : ∀ v ∈ cs, v.oneCell' = true) :
    (Builtin.copy_ #[dT, sT] ty #[.slice (some ⟨g, o, none⟩) dLen dCap, .slice (some a) sLen sCap]).run P w =
      .ok (goInt (Nat.min sLen dLen)) (w.setRow g (cur.toList.take o ++ cs ++ cur.toList.drop (o + cs.length)).toArray) := by
  have hl := run_loadCells_list (P := P) w a cs hsrc
  have hst := run_storeCells_at P g o t cs 0 cur w hg (by simpa using hfit) h1
  cases hq : P.info? elem with
  | none => simp [hq] at hs
  | some i =>
    have hi : i.size = size := by simpa [hq] using hs
    simp [Builtin.copy_, run_underlying hu, Builtin.lenOf, Builtin.firstCells, sizeOf, typeInfo, hq, hi, ← hn, hl, hst]
theorem cut_hi {P : Program} (t e : TypeId) (kh : IntKind) {i : TypeInfo} (ht : P.underlying t = some (.slice e)) (hi : P.info? e = some i) (A : Option Addr) (n c : Nat) (j : Int) (h0 : 0 ≤ j) (hm : j ≤ c) :
    ∀ W : World, (Instr.slice t (.slice A n c) none (some (.int kh j)) none).run P W = .ok (.slice A j.toNat c) W := by
  intro W
  have hel : P.elem t = e := by simp [Program.elem, ht]
  have hu : P.underlying t = some (.slice (P.elem t)) := by rw [hel]; exact ht
  have ha : (A.map fun x => x.add 0) = A := by cases A <;> simp [Addr.add]
  rw [run_slice_h W t A n c hu kh j h0 (by omega), hel]
  simp [sizeOf, typeInfo, hi, sliced, Result.andThen, ha]
theorem cut_lo {P : Program} (t e : TypeId) {i : TypeInfo} (ht : P.underlying t = some (.slice e)) (hi : P.info? e = some i) (size : Nat) (hsz : i.size = size) (g n c j : Nat) (hm : j ≤ n) (hc : j < c) :
    ∀ W : World, (Instr.slice t (.slice (some ⟨g, 0, none⟩) n c) (some (.int .i64 (j : Int))) none none).run P W = .ok (.slice (some ⟨g, j * size, none⟩) (n - j) (c - j)) W := by
  intro W
  have h := cut_from t e .i64 ht hi size hsz (some ⟨g, 0, none⟩) n c (j : Int) (by omega) (by omega) W
  rw [h, Int.toNat_natCast, if_neg (by omega)]
  show Result.ok (Value.slice (some ((⟨g, 0, none⟩ : Addr).add (j * size))) (n - j) (c - j)) W = _
  rw [Addr.add_lit, Nat.zero_add]
theorem info45 : (Try.prog.info? 45).map (fun i => (i.zero, i.size, i.bytes)) = some (some (.agg #[(.string ⟨#[]⟩), (.int .i64 0), (.int .i64 0), (.int .i64 0)]), 4, 40) := by kernel_rfl
theorem size45 : (Try.prog.info? 45).map (·.size) = some 4 := by kernel_rfl
theorem heap_setRow (w : World) (g : Nat) (cur new : Array Value) (t : TypeId) (h : w.heap[g]? = some (.cells cur t (0, 0))) : (w.setRow g new).heap[g]? = some (.cells new t (0, 0)) := setRow_heap w g cur new t _ h
theorem heap_setRow_ne (w : World) (g k : Nat) (new : Array Value) (h : k ≠ g) : (w.setRow g new).heap[k]? = w.heap[k]? := by
  unfold World.setRow
  simp only [Array.getElem?_modify]
  rw [if_neg (fun e => h e.symm)]
theorem cell_row (w : World) (g : Nat) (cur : Array Value) (t : TypeId) (h : w.heap[g]? = some (.cells cur t (0, 0))) (j : Nat) (hj : j < cur.size) : w.cell? ⟨g, j, none⟩ = some cur[j] := by
  simp [World.cell?, h, hj]
set_option maxHeartbeats 4000000 in
set_option maxRecDepth 100000 in
theorem ins_room (g n i cap vb vc : Nat) (cur curx : Array Value) (cs cx : List Value) (w : World) (hi : i < n) (hroom : n + 1 ≤ cap) (hcm : cap ≤ maxLen)
    (hg : w.heap[g]? = some (.cells cur 45 (0, 0))) (hcs : cur.size = cap * 4) (ht : cur.toList.take (n * 4) = cs)
    (hv : w.heap[vb]? = some (.cells curx 45 (0, 0))) (hvc : 1 ≤ vc) (hvs : curx.size = vc * 4) (hvt : curx.toList.take 4 = cx) (hne : vb ≠ g)
    (h1c : ∀ v ∈ cs, v.oneCell' = true) (h1x : ∀ v ∈ cx, v.oneCell' = true) :
    Calls Try.prog 48 #[.slice (some ⟨g, 0, none⟩) n cap, .int .i64 i, .slice (some ⟨vb, 0, none⟩) 1 vc] w fun e w' =>
      e = .returned (.slice (some ⟨g, 0, none⟩) (n + 1) cap) ∧ ∃ C1 C2 : Array Value, w' = (w.drew.setRow g C1).setRow g C2 ∧
        C1 = (cur.toList.take ((i + 1) * 4) ++ cs.drop (i * 4) ++ cur.toList.drop ((i + 1) * 4 + (cs.drop (i * 4)).length)).toArray ∧ C2 = (C1.toList.take (i * 4) ++ cx ++ C1.toList.drop (i * 4 + cx.length)).toArray := by
  obtain ⟨i0, hi0, hz0, hzs, hzb⟩ := info_parts info45
  have hcap63 : cap ≤ 9223372036854775807 := by simp only [maxLen] at hcm; omega
  have hcl : cs.length = n * 4 := by
    rw [← ht, List.length_take, Array.length_toList, hcs]
    exact Nat.min_eq_left (Nat.mul_le_mul_right _ (by omega))
  have hxl : cx.length = 4 := by
    rw [← hvt, List.length_take, Array.length_toList, hvs]
    omega
  have hdl : (cs.drop (i * 4)).length = (n - i) * 4 := by rw [List.length_drop, hcl, Nat.sub_mul]
  have hov : ∀ (W : World), W.heap[vb]? = some (.cells curx 45 (0, 0)) → W.heap[g]? = some (.cells cur 45 (0, 0)) → ∀ lb cb, (callFunc 60 #[.slice (some ⟨vb, 0, none⟩) 1 vc, .slice (some ⟨g, (i + 1) * 4, none⟩) lb cb]).run Try.prog W = .ok (.value (.bool false)) W := fun W h1 h2 lb cb => by
    rw [run_callFunc_extern Try.func60 (by kernel_rfl) (by kernel_rfl) (by kernel_rfl) (e := Extern.SlicesOverlaps.overlaps #[25, 25] #[4]) (by kernel_rfl),
      Lib.run_overlaps_apart W 25 4 45 Try.underlying25 4 (fun w => by simp [Go.sizeOf, typeInfo, hi0, hzs]) ⟨vb, 0, none⟩ ⟨g, (i + 1) * 4, none⟩ 1 vc lb cb hne 45 45 curx.size cur.size
        (by simp [World.shape?, h1]) (by simp [World.shape?, h2]) (by omega) (by simp [World.frozen?, h1]) (by simp [World.frozen?, h1])]
    rfl
  have hw1 : IntKind.i64.wrap ((i : Int) + 1) = ((i + 1 : Nat) : Int) := by rw [IntKind.wrap_i64]; omega
  have hw2 : IntKind.i64.wrap ((n : Int) + 1) = ((n + 1 : Nat) : Int) := by rw [IntKind.wrap_i64]; omega
  have hz2 : ¬ ((i : Int) = (n : Int)) := by omega
  have hz3 : ¬ ((cap : Int) < ((n + 1 : Nat) : Int)) := by omega
  have hb1 : (0 : Int) ≤ (i : Int) + 1 := by omega
  have hin : i ≤ n := by omega
  have hb2 : ¬ (cap = i + 1) := by omega
  have hb4 : ¬ (cap = i) := by omega
  have hb5 : i ≤ n + 1 := by omega
  have hc1 := cut_lo (P := Try.prog) 25 45 Try.underlying25 hi0 4 hzs g n cap i (by omega) (by omega)
  have hc2 := cut_hi (P := Try.prog) 25 45 .i64 Try.underlying25 hi0 (some ⟨g, 0, none⟩) n cap ((n + 1 : Nat) : Int) (by omega) (by omega)
  rw [Int.toNat_natCast] at hc2
  have hc3 := cut_lo (P := Try.prog) 25 45 Try.underlying25 hi0 4 hzs g (n + 1) cap (i + 1) (by omega) (by omega)
  have hc4 := cut_lo (P := Try.prog) 25 45 Try.underlying25 hi0 4 hzs g (n + 1) cap i (by omega) (by omega)
  obtain ⟨C1, hC1⟩ : ∃ C1 : Array Value, C1 = (cur.toList.take ((i + 1) * 4) ++ cs.drop (i * 4) ++ cur.toList.drop ((i + 1) * 4 + (cs.drop (i * 4)).length)).toArray := ⟨_, rfl⟩
  obtain ⟨C2, hC2⟩ : ∃ C2 : Array Value, C2 = (C1.toList.take (i * 4) ++ cx ++ C1.toList.drop (i * 4 + cx.length)).toArray := ⟨_, rfl⟩
  have hC1s : C1.size = cap * 4 := by
    rw [hC1]
    simp only [List.size_toArray, List.length_append, List.length_take, List.length_drop, Array.length_toList, hdl, hcs, hcl]
    omega
  have hcp1 : ∀ ty dc sc, (Builtin.copy_ #[25, 25] ty #[.slice (some ⟨g, (i + 1) * 4, none⟩) (n - i) dc, .slice (some ⟨g, i * 4, none⟩) (n + 1 - i) sc]).run Try.prog w.drew = .ok (goInt (Nat.min (n + 1 - i) (n - i))) (w.drew.setRow g C1) := fun ty dc sc => by
    rw [hC1]
    exact copy_rows w.drew _ _ ty 45 4 g ((i + 1) * 4) (n - i) dc ⟨g, i * 4, none⟩ (n + 1 - i) sc cur 45 (cs.drop (i * 4)) Try.underlying25 size45 hg
      (by rw [hdl]; simp only [Nat.min_def]; split <;> omega)
      (fun j v hj => by
        rw [Addr.add_lit]
        rw [List.getElem?_drop, ← ht, List.getElem?_take] at hj
        split at hj
        · rw [Array.getElem?_toList] at hj
          simp only [World.cell?]
          rw [show w.drew.heap[g]? = some (.cells cur 45 (0, 0)) from hg]
          exact hj
        · cases hj)
      (by rw [hdl, hcs]; omega) (fun v hv => h1c v (List.mem_of_mem_drop hv))
  have hcp2 : ∀ (W : World), W.heap = (w.drew.setRow g C1).heap → ∀ ty dc, (Builtin.copy_ #[25, 25] ty #[.slice (some ⟨g, i * 4, none⟩) (n + 1 - i) dc, .slice (some ⟨vb, 0, none⟩) 1 vc]).run Try.prog W = .ok (goInt (Nat.min 1 (n + 1 - i))) (W.setRow g C2) := fun W hW ty dc => by
    have hgW : W.heap[g]? = some (.cells C1 45 (0, 0)) := by rw [hW]; exact heap_setRow w.drew g cur C1 _ hg
    have hvW : W.heap[vb]? = some (.cells curx 45 (0, 0)) := by rw [hW, heap_setRow_ne _ _ _ _ hne]; exact hv
    rw [hC2]
    exact copy_rows W _ _ ty 45 4 g (i * 4) (n + 1 - i) dc ⟨vb, 0, none⟩ 1 vc C1 45 cx Try.underlying25 size45 hgW
      (by rw [hxl]; simp only [Nat.min_def]; split <;> omega)
      (fun j v hj => by
        rw [Addr.add_lit]
        rw [← hvt, List.getElem?_take] at hj
        split at hj
        · rw [Array.getElem?_toList] at hj
          simp only [World.cell?, Nat.zero_add]
          rw [hvW]
          exact hj
        · cases hj)
      (by rw [hxl, hC1s]; omega) h1x
  have hovw := hov w hv hg
  have HC1 := Aside0.mk hC1
  have HC2 := Aside0.mk hC2
  clear hov hC1s hdl hxl hcl hcm h1c h1x hvt ht hcs hvs hC1 hC2
  go_enter Try.func48, Try.ntmps48
  go_wp2_with (simp only [hovw])
  go_region_law (refine step_copy_runI rfl _ _ 25 25 rfl _ _ (by simp [Act.eval, Act.put]) (by simp [Act.eval, Act.put]) (hcp1 _ _ _) ?_)
  go_wp2_with (at_builtin; refine wpList_copy_runI _ rfl _ _ 25 25 rfl _ _ rfl rfl (hcp2 _ rfl _ _) ?_)
  go_ret
  exact ⟨rfl, C1, C2, rfl, HC1.out, HC2.out⟩
set_option maxHeartbeats 4000000 in
set_option maxRecDepth 100000 in
theorem ins_end (base n : Nat) (v : Value) (cs cx : List Value) (w : World) (ho : w.ownsRow base 45 4 v n cs) (vb vc : Nat) (curx : Array Value) (hbase : base ≤ w.heap.size) (hbig : n + 1 < 3518437208883)
    (hv : w.heap[vb]? = some (.cells curx 45 (0, 0))) (hvc : 1 ≤ vc) (hvs : curx.size = vc * 4) (hvt : curx.toList.take 4 = cx) (h1x : ∀ v ∈ cx, v.oneCell' = true) :
    Calls Try.prog 48 #[v, .int .i64 n, .slice (some ⟨vb, 0, none⟩) 1 vc] w fun e w' =>
      ∃ v1, e = .returned v1 ∧ w'.ownsRow base 45 4 v1 (n + 1) (cs ++ cx) ∧ w.grownBy w' v.ownBlock ∧ (v1.ownBlock = v.ownBlock ∨ v1.ownBlock = some w.heap.size) := by
  obtain ⟨i0, hi0, hz0, hzs, hzb⟩ := info_parts info45
  have hxl : cx.length = 4 := by
    rw [← hvt, List.length_take, Array.length_toList, hvs]
    omega
  have hnews : ∀ j u, cx[j]? = some u → w.cell? ((⟨vb, 0, none⟩ : Addr).add j) = some u := fun j u hj => by
    rw [Addr.add_lit]
    rw [← hvt, List.getElem?_take] at hj
    split at hj
    · rw [Array.getElem?_toList] at hj
      simp only [World.cell?, Nat.zero_add]
      rw [hv]
      exact hj
    · cases hj
  obtain ⟨v1, w1, hrun, h2, hg, _, hat⟩ := run_append_own_at (P := Try.prog) w base 25 25 45 i0 _ 4 40 Try.underlying25 hi0 hz0 hzs hzb rfl (by decide) v n cs ho ⟨vb, 0, none⟩ 1 vc cx (by rw [hxl]) hnews h1x (by simp only [maxLen]; omega) (by omega) hbase
  have R := Aside0.mk (And.intro h2 (And.intro hg hat))
  have ho2 := ho.2
  clear ho h2 hg hat hnews h1x hvt hvs hxl hv
  rcases ho2 with ⟨rfl, rfl⟩ | ⟨g, cap, cur, rfl, _, _, hnc, hcm, _, _⟩
  · go_enter Try.func48, Try.ntmps48
    go_wp2_with (at_builtin; refine Lib.wpList_append_run _ rfl _ _ _ _ rfl _ _ rfl rfl _ _ hrun ?_)
    go_ret
    exact ⟨v1, rfl, R.out⟩
  · have hcap63 : cap ≤ 9223372036854775807 := by simp only [maxLen] at hcm; omega
    clear hcm
    go_enter Try.func48, Try.ntmps48
    go_wp2_with (at_builtin; refine Lib.wpList_append_run _ rfl _ _ _ _ rfl _ _ rfl rfl _ _ hrun ?_)
    all_goals (go_ret; exact ⟨v1, rfl, R.out⟩)
set_option maxHeartbeats 4000000 in
set_option maxRecDepth 100000 in
theorem ins_grow (g n i cap vb vc : Nat) (cur curx : Array Value) (cs cx : List Value) (w : World) (hi : i < n) (hnc : n ≤ cap) (hroom : cap < n + 1) (hbig : n + 1 < 3518437208883)
    (hg : w.heap[g]? = some (.cells cur 45 (0, 0))) (hcs : cur.size = cap * 4) (ht : cur.toList.take (n * 4) = cs)
    (hv : w.heap[vb]? = some (.cells curx 45 (0, 0))) (hvc : 1 ≤ vc) (hvs : curx.size = vc * 4) (hvt : curx.toList.take 4 = cx)
    (h1c : ∀ v ∈ cs, v.oneCell' = true) (h1x : ∀ v ∈ cx, v.oneCell' = true) :
    Calls Try.prog 48 #[.slice (some ⟨g, 0, none⟩) n cap, .int .i64 i, .slice (some ⟨vb, 0, none⟩) 1 vc] w fun e w' =>
      ∃ (G : Nat) (ROW C1 C2 : Array Value), e = .returned (.slice (some ⟨w.heap.size, 0, none⟩) (n + 1) G) ∧ (w' = (((w.alloc (.cells ROW 45)).drew.setRow w.heap.size C1).drew).setRow w.heap.size C2) ∧ (n + 1 ≤ G ∧ G ≤ maxLen ∧ ROW.size = G * 4 ∧ ROW.toList.take (i * 4) = cs.take (i * 4)) ∧
        C1 = (ROW.toList.take (i * 4) ++ cx ++ ROW.toList.drop (i * 4 + cx.length)).toArray ∧ C2 = (C1.toList.take ((i + 1) * 4) ++ cs.drop (i * 4) ++ C1.toList.drop ((i + 1) * 4 + (cs.drop (i * 4)).length)).toArray := by
  obtain ⟨i0, hi0, hz0, hzs, hzb⟩ := info_parts info45
  have hcl : cs.length = n * 4 := by
    rw [← ht, List.length_take, Array.length_toList, hcs]
    exact Nat.min_eq_left (Nat.mul_le_mul_right _ (by omega))
  have hxl : cx.length = 4 := by
    rw [← hvt, List.length_take, Array.length_toList, hvs]
    omega
  have hdl : (cs.drop (i * 4)).length = (n - i) * 4 := by rw [List.length_drop, hcl, Nat.sub_mul]
  have htl : (cs.take (i * 4)).length = i * 4 := by rw [List.length_take, hcl]; exact Nat.min_eq_left (Nat.mul_le_mul_right _ (by omega))
  have hgw : g < w.heap.size := (Array.getElem?_eq_some_iff.1 hg).1
  have hvw : vb < w.heap.size := (Array.getElem?_eq_some_iff.1 hv).1
  have hkk : (n : Int) + 1 - (i : Int) = ((n + 1 - i : Nat) : Int) := by omega
  have hik : i + (n + 1 - i) = n + 1 := by omega
  have hcell : ∀ j v, cs[j]? = some v → w.cell? ⟨g, j, none⟩ = some v := fun j v hj => by
    rw [← ht, List.getElem?_take] at hj
    split at hj
    · rw [Array.getElem?_toList] at hj
      simp only [World.cell?]
      rw [hg]
      exact hj
    · cases hj
  have hold : (Builtin.firstCells i0.size i (.slice (some ⟨g, 0, none⟩) i cap)).run Try.prog w.drew = .ok (cs.take (i * 4)).toArray w.drew := by
    rw [hzs]
    exact run_firstCells_some w.drew 4 i ⟨g, 0, none⟩ i cap (cs.take (i * 4)) (by rw [htl]) (fun j v hj => by
      rw [Addr.add_lit, Nat.zero_add]
      rw [List.getElem?_take] at hj
      split at hj
      · exact hcell j v hj
      · cases hj)
  obtain ⟨z, hz⟩ : ∃ z : Value, z = (.agg #[(.string ⟨#[]⟩), (.int .i64 0), (.int .i64 0), (.int .i64 0)]) := ⟨_, rfl⟩
  rw [← hz] at hz0
  have hzc : z.cells.size = 4 := by rw [hz]; rfl
  have hrz : ∀ ty, (Builtin.append_ #[25, 3] ty #[.slice (some ⟨g, 0, none⟩) i cap, .int .i64 ((n : Int) + 1 - (i : Int))]).run Try.prog w =
      .ok (.slice (some ⟨w.heap.size, 0, none⟩) (n + 1) (grownCap w (n + 1) cap 45)) (w.drew.alloc (.cells ((cs.take (i * 4)).toArray ++ Builtin.zeroCells z.cells (n + 1 - i) ++ Builtin.zeroCells z.cells (grownCap w (n + 1) cap 45 - (n + 1))) 45)) := fun ty => by
    have h := Lib.run_append_grow_zeros w 25 3 ty 45 i0 _ .i64 .i64 Try.underlying25 Try.underlying3 hi0 hz0 (some ⟨g, 0, none⟩) i cap (cs.take (i * 4)) hold (n + 1 - i) (by omega) (by omega) (by omega) (by omega) (by rw [hzb]; omega) (by rw [hzb, hik]; exact growslice_fits hroom (by omega))
    rw [hik] at h
    rw [hkk]
    exact h
  obtain ⟨G, hG⟩ : ∃ G, G = grownCap w (n + 1) cap 45 := ⟨_, rfl⟩
  obtain ⟨ROW, hROW⟩ : ∃ ROW : Array Value, ROW = (cs.take (i * 4)).toArray ++ Builtin.zeroCells z.cells (n + 1 - i) ++ Builtin.zeroCells z.cells (G - (n + 1)) := ⟨_, rfl⟩
  rw [← hG] at hrz
  rw [← hROW] at hrz
  have hGn : n + 1 ≤ G := by rw [hG]; exact grownCap_ge w _ _ _
  have hGm : G ≤ maxLen := by rw [hG]; exact grownCap_le_maxLen w (n + 1) cap 45 (by unfold maxLen; omega)
  have hG63 : G ≤ 9223372036854775807 := by unfold maxLen at hGm; omega
  have hRs : ROW.size = G * 4 := by
    rw [hROW]
    simp only [Builtin.zeroCells, Array.size_append, List.size_toArray, htl]
    simp [hzc]
    omega
  have hRt : ROW.toList.take (i * 4) = cs.take (i * 4) := by
    rw [hROW]
    simp only [Array.toList_append, List.append_assoc]
    rw [List.take_append_of_le_length (by rw [htl]; exact Nat.le_refl _)]
    exact List.take_of_length_le (by rw [htl]; exact Nat.le_refl _)
  obtain ⟨C1, hC1⟩ : ∃ C1 : Array Value, C1 = (ROW.toList.take (i * 4) ++ cx ++ ROW.toList.drop (i * 4 + cx.length)).toArray := ⟨_, rfl⟩
  obtain ⟨C2, hC2⟩ : ∃ C2 : Array Value, C2 = (C1.toList.take ((i + 1) * 4) ++ cs.drop (i * 4) ++ C1.toList.drop ((i + 1) * 4 + (cs.drop (i * 4)).length)).toArray := ⟨_, rfl⟩
  have hC1s : C1.size = G * 4 := by
    rw [hC1]
    simp only [List.size_toArray, List.length_append, List.length_take, List.length_drop, Array.length_toList, hxl, hRs]
    omega
  have hnew : (w.alloc (.cells ROW 45)).heap[w.heap.size]? = some (.cells ROW 45 (0, 0)) := heap_alloc_new w _
  have hOld : ∀ k, k < w.heap.size → (w.alloc (.cells ROW 45)).heap[k]? = w.heap[k]? := fun k hk => (below_alloc (Below.refl w.heap.size w) _).block k hk
  have hcpA : ∀ (W : World), W.heap = (w.alloc (.cells ROW 45)).heap → ∀ ty dc, (Builtin.copy_ #[25, 25] ty #[.slice (some ⟨w.heap.size, i * 4, none⟩) (n + 1 - i) dc, .slice (some ⟨vb, 0, none⟩) 1 vc]).run Try.prog W = .ok (goInt (Nat.min 1 (n + 1 - i))) (W.setRow w.heap.size C1) := fun W hW ty dc => by
    have hgW : W.heap[w.heap.size]? = some (.cells ROW 45 (0, 0)) := by rw [hW]; exact hnew
    have hvW : W.heap[vb]? = some (.cells curx 45 (0, 0)) := by rw [hW, hOld vb hvw]; exact hv
    rw [hC1]
    exact copy_rows W _ _ ty 45 4 w.heap.size (i * 4) (n + 1 - i) dc ⟨vb, 0, none⟩ 1 vc ROW 45 cx Try.underlying25 size45 hgW
      (by rw [hxl]; simp only [Nat.min_def]; split <;> omega)
      (fun j v hj => by
        rw [Addr.add_lit]
        rw [← hvt, List.getElem?_take] at hj
        split at hj
        · rw [Array.getElem?_toList] at hj
          simp only [World.cell?, Nat.zero_add]
          rw [hvW]
          exact hj
        · cases hj)
      (by rw [hxl, hRs]; omega) h1x
  have hcpB : ∀ (W : World), W.heap = ((w.alloc (.cells ROW 45)).setRow w.heap.size C1).heap → ∀ ty dc sc, (Builtin.copy_ #[25, 25] ty #[.slice (some ⟨w.heap.size, (i + 1) * 4, none⟩) (n - i) dc, .slice (some ⟨g, i * 4, none⟩) (n - i) sc]).run Try.prog W = .ok (goInt (Nat.min (n - i) (n - i))) (W.setRow w.heap.size C2) := fun W hW ty dc sc => by
    have hNW : W.heap[w.heap.size]? = some (.cells C1 45 (0, 0)) := by rw [hW]; exact heap_setRow _ _ ROW C1 _ hnew
    have hgW : W.heap[g]? = some (.cells cur 45 (0, 0)) := by rw [hW, heap_setRow_ne _ _ _ _ (by omega), hOld g hgw]; exact hg
    rw [hC2]
    exact copy_rows W _ _ ty 45 4 w.heap.size ((i + 1) * 4) (n - i) dc ⟨g, i * 4, none⟩ (n - i) sc C1 45 (cs.drop (i * 4)) Try.underlying25 size45 hNW
      (by rw [hdl]; simp only [Nat.min_def]; split <;> omega)
      (fun j v hj => by
        rw [Addr.add_lit]
        rw [List.getElem?_drop, ← ht, List.getElem?_take] at hj
        split at hj
        · rw [Array.getElem?_toList] at hj
          simp only [World.cell?]
          rw [hgW]
          exact hj
        · cases hj)
      (by rw [hdl, hC1s]; omega) (fun v hv => h1c v (List.mem_of_mem_drop hv))
  have hz2 : ¬ ((i : Int) = (n : Int)) := by omega
  have hz3 : (cap : Int) < (n : Int) + 1 := by omega
  have hw1 : IntKind.i64.wrap ((i : Int) + 1) = ((i + 1 : Nat) : Int) := by rw [IntKind.wrap_i64]; omega
  have hb1 : (0 : Int) ≤ (i : Int) + 1 := by omega
  have hin : i ≤ n := by omega
  have hin1 : i ≤ n + 1 := by omega
  have hic : i ≤ cap := by omega
  have hGi : ¬ (G = i) := by omega
  have hGi1 : ¬ (G = i + 1) := by omega
  have hci : ¬ (cap = i) := by omega
  have hb3 : (i : Int) ≤ (n : Int) := by omega
  have R := Aside0.mk (And.intro (And.intro hGn (And.intro hGm (And.intro hRs hRt))) (And.intro hC1 hC2))
  clear hold hcell hC1s hdl hxl hcl htl h1c h1x hvt ht hcs hvs hC1 hC2 hRs hRt hnew hOld hROW hG hGm hzc hz hik hkk
  have hE1 : ((w.alloc (.cells ROW 45)).drew).heap = (w.alloc (.cells ROW 45)).heap := rfl
  go_enter Try.func48, Try.ntmps48
  go_wp2_with (first
    | (at_builtin; refine Lib.wpList_append_run _ rfl _ _ _ _ rfl _ _ rfl rfl _ _ (hrz _) ?_)
    | (at_builtin; refine wpList_copy_runI _ rfl _ _ 25 25 rfl _ _ rfl rfl (hcpA _ rfl _ _) ?_))
  have hcpB' := hcpB (((w.alloc (.cells ROW 45)).drew.setRow w.heap.size C1).drew) rfl
  clear hcpB hcpA hrz
  go_region_law (refine step_copy_runI rfl _ _ 25 25 rfl _ _ (by simp [Act.eval, Act.put]) (by simp [Act.eval, Act.put]) (hcpB' _ _ _) ?_)
  go_wp2
  go_ret
  have R := R.out
  exact ⟨G, ROW, C1, C2, rfl, rfl, ⟨R.1.1, R.1.2.1, R.1.2.2.1, R.1.2.2.2⟩, R.2.1, R.2.2⟩
theorem cells_mid (A B C : List Value) (n i : Nat) (R : List Value) (hA : A.length = i * 4) (hB : B.length = 4) (hC : C.length = (n - i) * 4) (hi : i ≤ n) (S : List Value) : (A ++ B ++ C ++ S).take ((n + 1) * 4) = A ++ B ++ C := by
  rw [List.take_append_of_le_length (by simp only [List.length_append]; omega)]
  exact List.take_of_length_le (by simp only [List.length_append]; omega)
/-- slices.Insert of one element: the row that it gives is this call's own. -/
theorem insert_one (base n i : Nat) (hin : i ≤ n) (v vx : Value) (cs cx : List Value) (w : World) (bx : Nat) (ho : w.ownsRow base 45 4 v n cs) (hx : w.ownsRow bx 45 4 vx 1 cx) (hne : v.ownBlock ≠ vx.ownBlock) (hbase : base ≤ w.heap.size) (hbig : n + 1 < 3518437208883)
    (h1c : ∀ v ∈ cs, v.oneCell' = true) (h1x : ∀ v ∈ cx, v.oneCell' = true) :
    Calls Try.prog 48 #[v, .int .i64 i, vx] w fun e w' =>
      ∃ v1, e = .returned v1 ∧ w'.ownsRow base 45 4 v1 (n + 1) (cs.take (i * 4) ++ cx ++ cs.drop (i * 4)) ∧ w.grownBy w' v.ownBlock ∧ (v1.ownBlock = v.ownBlock ∨ ∃ b, v1.ownBlock = some b ∧ w.heap.size ≤ b) := by
  obtain ⟨hxl, hx2⟩ := hx
  rcases hx2 with ⟨_, h0⟩ | ⟨vb, vc, curx, rfl, hbx, hv, hvc, hvm, hvs, hvt⟩
  · omega
  have hvt4 : curx.toList.take 4 = cx := hvt
  have hcl := ho.1
  by_cases hi : i = n
  · subst hi
    refine (ins_end base i v cs cx w ho vb vc curx hbase hbig hv hvc hvs hvt4 h1x).mono ?_
    rintro e w' ⟨v1, rfl, h1, h2, h3⟩
    refine ⟨v1, rfl, ?_, h2, ?_⟩
    · rw [List.take_of_length_le (by omega), List.drop_of_length_le (by omega), List.append_nil]
      exact h1
    · rcases h3 with h3 | h3
      · exact .inl h3
      · exact .inr ⟨_, h3, Nat.le_refl _⟩
  have hilt : i < n := by omega
  rcases ho.2 with ⟨_, h0⟩ | ⟨g, cap, cur, rfl, hb, hg, hnc, hcm, hcs, ht⟩
  · omega
  have hvg : vb ≠ g := fun e => hne (by simp [Value.ownBlock, e])
  have hgw : g < w.heap.size := (Array.getElem?_eq_some_iff.1 hg).1
  have htl : (cs.take (i * 4)).length = i * 4 := by rw [List.length_take, hcl]; omega
  have hdl : (cs.drop (i * 4)).length = (n - i) * 4 := by rw [List.length_drop, hcl, Nat.sub_mul]
  have hxl' : cx.length = 4 := hxl
  by_cases hroom : n + 1 ≤ cap
  · refine (ins_room g n i cap vb vc cur curx cs cx w hilt hroom hcm hg hcs ht hv hvc hvs hvt4 hvg h1c h1x).mono ?_
    rintro e w' ⟨rfl, C1, C2, rfl, hC1, hC2⟩
    have hct : cur.toList.take (i * 4) = cs.take (i * 4) := by rw [← ht, List.take_take, Nat.min_eq_left (by omega)]
    have hcL : cur.toList.length = cap * 4 := by rw [Array.length_toList, hcs]
    have e1 : C1.toList.take (i * 4) = cs.take (i * 4) := by
      rw [hC1, List.append_assoc, List.take_append_of_le_length (by rw [List.length_take, hcL]; omega), List.take_take, Nat.min_eq_left (by omega), hct]
    have e2 : C1.toList.drop (i * 4 + 4) = cs.drop (i * 4) ++ cur.toList.drop ((i + 1) * 4 + (n - i) * 4) := by
      have hl : (cur.toList.take ((i + 1) * 4)).length = i * 4 + 4 := by rw [List.length_take, hcL]; omega
      rw [hC1, hdl]
      show List.drop (i * 4 + 4) (cur.toList.take ((i + 1) * 4) ++ cs.drop (i * 4) ++ _) = _
      rw [List.append_assoc, List.drop_append_of_le_length (by omega), List.drop_of_length_le (by omega), List.nil_append]
    have e3 : C2.toList = cs.take (i * 4) ++ cx ++ cs.drop (i * 4) ++ cur.toList.drop ((i + 1) * 4 + (n - i) * 4) := by
      rw [hC2, hxl', e1, e2]
      simp only [List.append_assoc]
    have hs1 : (w.drew.setRow g C1).heap[g]? = some (.cells C1 45 (0, 0)) := heap_setRow w.drew g cur C1 _ hg
    have hs2 := heap_setRow _ g C1 C2 _ hs1
    have hC2s : C2.size = cap * 4 := by
      rw [← Array.length_toList, e3]
      simp only [List.length_append, List.length_drop, htl, hdl, hxl', hcL]
      omega
    refine ⟨_, rfl, ⟨?_, .inr ⟨g, cap, C2, rfl, hb, hs2, hroom, hcm, hC2s, ?_⟩⟩, ?_, .inl rfl⟩
    · simp only [List.length_append, htl, hdl, hxl']
      omega
    · rw [e3]
      exact cells_mid _ _ _ n i [] htl hxl' hdl hin _
    · refine ⟨rfl, rfl, rfl, ?_, fun k hk hkn => ?_⟩
      · unfold World.setRow
        simp only [Array.size_modify]
        exact Nat.le_refl _
      · have hkg : k ≠ g := fun e => hkn (by simp [Value.ownBlock, e])
        rw [heap_setRow_ne _ _ _ _ hkg, heap_setRow_ne _ _ _ _ hkg]
        rfl
  · refine (ins_grow g n i cap vb vc cur curx cs cx w hilt hnc (by omega) hbig hg hcs ht hv hvc hvs hvt4 h1c h1x).mono ?_
    rintro e w' ⟨G, ROW, C1, C2, rfl, rfl, ⟨hG1, hG2, hRs, hRt⟩, hC1, hC2⟩
    have hRL : ROW.toList.length = G * 4 := by rw [Array.length_toList, hRs]
    have hC1L : C1.toList = cs.take (i * 4) ++ cx ++ ROW.toList.drop (i * 4 + 4) := by rw [hC1, hxl', hRt]
    have e1 : C1.toList.take ((i + 1) * 4) = cs.take (i * 4) ++ cx := by
      rw [hC1L, List.take_append_of_le_length (by simp only [List.length_append, htl, hxl']; omega)]
      exact List.take_of_length_le (by simp only [List.length_append, htl, hxl']; omega)
    have e3 : C2.toList = cs.take (i * 4) ++ cx ++ cs.drop (i * 4) ++ C1.toList.drop ((i + 1) * 4 + (n - i) * 4) := by
      rw [hC2, hdl, e1]
    have hnew : (w.alloc (.cells ROW 45)).heap[w.heap.size]? = some (.cells ROW 45 (0, 0)) := heap_alloc_new w _
    have hOld : ∀ k, k < w.heap.size → (w.alloc (.cells ROW 45)).heap[k]? = w.heap[k]? := fun k hk => (below_alloc (Below.refl w.heap.size w) _).block k hk
    have hs1 : ((w.alloc (.cells ROW 45)).drew.setRow w.heap.size C1).drew.heap[w.heap.size]? = some (.cells C1 45 (0, 0)) := heap_setRow (w.alloc (.cells ROW 45)).drew w.heap.size ROW C1 _ hnew
    have hs2 := heap_setRow _ w.heap.size C1 C2 _ hs1
    have hC2s : C2.size = G * 4 := by
      rw [← Array.length_toList, e3, hC1L]
      simp only [List.length_append, List.length_drop, htl, hdl, hxl', hRL]
      omega
    refine ⟨_, rfl, ⟨?_, .inr ⟨w.heap.size, G, C2, rfl, hbase, hs2, hG1, hG2, hC2s, ?_⟩⟩, ?_, .inr ⟨w.heap.size, rfl, Nat.le_refl _⟩⟩
    · simp only [List.length_append, htl, hdl, hxl']
      omega
    · rw [e3]
      exact cells_mid _ _ _ n i [] htl hxl' hdl hin _
    · refine ⟨rfl, rfl, rfl, ?_, fun k hk _ => ?_⟩
      · have hz : ∀ (W : World) (c : Array Value), (W.setRow w.heap.size c).heap.size = W.heap.size := fun W c => by unfold World.setRow; simp only [Array.size_modify]
        rw [hz]
        show w.heap.size ≤ ((w.alloc (.cells ROW 45)).drew.setRow w.heap.size C1).heap.size
        rw [hz]
        exact (below_alloc (Below.refl w.heap.size w) (.cells ROW 45)).size
      · rw [heap_setRow_ne _ _ _ _ (by omega)]
        show ((w.alloc (.cells ROW 45)).drew.setRow w.heap.size C1).heap[k]? = _
        rw [heap_setRow_ne _ _ _ _ (by omega)]
        exact hOld k hk
end Go.Proofs.YtcagamenognlpaaInsL
