/- PAGEROOTS: the walk of the law. -/
import Derived.Test.YtckopikeegegkaaAwake4
import Derived.Test.YtckopikeegegkaaPure2
import Derived.Test.YtckopikeegegkaaLaws4
namespace Go.Proofs.Ytckopikeegegkaa
open Go.RowKit Go.MapKept Go.Shelf
set_option linter.unusedSimpArgs false
set_option linter.unusedVariables false

abbrev zeroMk : Mk := ⟨false, 0, 0⟩
theorem pr_make : Dk.make 12 = some (Dk.zero 12) := by kernel_rfl

theorem pr_has (a : Nat) (h : a ≤ 1) : hasRoot (Dk.zero 12) a = true ∧ rootOf ((Dk.zero 12).now (4 * a)) = zeroMk := by
  rcases Nat.le_one_iff_eq_zero_or_eq_one.1 h with rfl | rfl
  · exact ⟨by kernel_rfl, by kernel_rfl⟩
  · exact ⟨by kernel_rfl, by kernel_rfl⟩
theorem ite_mk (c : Bool) (m : Mk) : (if c then m else zeroMk) = ⟨if c then m.on else false, if c then m.epoch else 0, if c then m.page else 0⟩ := by cases c <;> rfl
theorem pr_facts (w W4 W5 W6 : World) (m n : Mk) (x : List Value) (t : Nat) (i3 : W4.heap[w.heap.size]? = some (.cells (List.toArray [.bool m.on, .int .i64 m.epoch, .int .i64 m.page]) 23)) (i4 : W4.heap[w.heap.size + 1]? = some (.cells (List.toArray [.bool n.on, .int .i64 n.epoch, .int .i64 n.page]) 23))
    (q5 : Keeps noB W4 W5) (q6 : Keeps noB (W5.alloc (.cells (List.toArray x) t)) W6) (k4 : Keeps noB w W4) :
    (∀ o, (W6.alloc o).heap[w.heap.size]? = some (.cells (List.toArray [.bool m.on, .int .i64 m.epoch, .int .i64 m.page]) 23)) ∧ (∀ o, (W6.alloc o).heap[w.heap.size + 1]? = some (.cells (List.toArray [.bool n.on, .int .i64 n.epoch, .int .i64 n.page]) 23)) ∧
    (∀ o, (W6.alloc o).heap[W5.heap.size]? = some (.cells (List.toArray x) t)) ∧ (∀ o, (W6.alloc o).cell? ⟨w.heap.size, 1, none⟩ = some (.int .i64 m.epoch)) ∧ (∀ o, (W6.alloc o).cell? ⟨w.heap.size, 2, none⟩ = some (.int .i64 m.page)) ∧ (∀ o, Keeps noB w (W6.alloc o)) := by
  have z3 := (Array.getElem?_eq_some_iff.1 i3).1
  have z4 := (Array.getElem?_eq_some_iff.1 i4).1
  have z5 := q5.size
  have z6 := q6.size
  simp only [World.size_alloc] at z6
  have a3 : W6.heap[w.heap.size]? = some (.cells (List.toArray [.bool m.on, .int .i64 m.epoch, .int .i64 m.page]) 23) :=
    (q6.block _ (by simp; omega) (fun q => q)).trans ((heap_alloc_ne _ _ _ (by omega)).trans ((q5.block _ (by omega) (fun q => q)).trans i3))
  have a4 : W6.heap[w.heap.size + 1]? = some (.cells (List.toArray [.bool n.on, .int .i64 n.epoch, .int .i64 n.page]) 23) :=
    (q6.block _ (by simp; omega) (fun q => q)).trans ((heap_alloc_ne _ _ _ (by omega)).trans ((q5.block _ (by omega) (fun q => q)).trans i4))
  have b3 : ∀ o, (W6.alloc o).heap[w.heap.size]? = some (.cells (List.toArray [.bool m.on, .int .i64 m.epoch, .int .i64 m.page]) 23) := fun o => (heap_alloc_ne _ _ _ (by omega)).trans a3
  refine ⟨b3, fun o => (heap_alloc_ne _ _ _ (by omega)).trans a4, fun o => (heap_alloc_ne _ _ _ (by omega)).trans ((q6.block _ (by simp) (fun q => q)).trans (by simp (disch := (first | (simp only [World.size_alloc, World.size_setCell, World.size_drew, size_setRow, heap_drew, heap_drewN]; done) | ((try simp only [World.size_alloc, World.size_setCell, World.size_drew, size_setRow, heap_drew, heap_drewN]); omega))) only [heap_drew, heap_drewN, heap_alloc_ne, heap_alloc_eq, heap_setCell_ne, heap_setRow_ne])), fun o => ?_, fun o => ?_, fun o => ((((k4.trans q5).alloc _).trans q6).alloc _)⟩
  · simp only [World.cell?, b3]; rfl
  · simp only [World.cell?, b3]; rfl
set_option maxHeartbeats 20000000 in
theorem pageRoots_walk (m n : Mk) (k : Int) (a b : Nat) (hk : 0 ≤ k ∧ k ≤ 255) (hp : k % 2 = a) (hb : 1 - (a : Int) = b) (hab : a ≠ b) (w : World) :
    Calls Try.prog 3 #[.agg #[.bool m.on, .int .i64 m.epoch, .int .i64 m.page], .agg #[.bool n.on, .int .i64 n.epoch, .int .i64 n.page], .int .u8 k] w fun e w' => e = .returned (.bool true) ∧ Keeps noB w w' := by
  obtain ⟨k0, k1⟩ := hk
  have a1 : (a : Int) ≤ 1 := by omega
  have b1 : (b : Int) ≤ 1 := by omega
  have haw := fun W => awake4_calls W
  have hnew := fun W => new_good 12 _ W pr_make
  obtain ⟨D1, D2, s1, s2, r1, r2⟩ := roots_two (Dk.zero 12) a b hab (pr_has a (by omega)).1 (pr_has b (by omega)).1 rfl (pr_has a (by omega)).2 (pr_has b (by omega)).2 m n
  have hs1 := fun (p q j : Nat) (W : World) (h : DiskAt W p q j (Dk.zero 12)) => setRoot_calls a m W h
  have hs2 := fun (p q j : Nat) (W : World) (h : DiskAt W p q j D1) => setRoot_calls b n W h
  have hr1 := fun (p q j : Nat) (W : World) (h : DiskAt W p q j D2) => pgroot_calls a W h
  have hr2 := fun (p q j : Nat) (W : World) (h : DiskAt W p q j D2) => pgroot_calls b W h
  have hmr : mayRoot m = (decide (0 ≤ m.epoch) && (decide (m.epoch ≤ 1099511627776) && (decide (0 ≤ m.page) && decide (m.page < 1024)))) := rfl
  simp only [s1, s2, r1, r2, ite_mk, encM] at hs1 hs2 hr1 hr2
  clear s1 s2 r1 r2
  generalize hom : mayRoot m = om at *
  generalize hon : mayRoot n = on at *
  clear hom hon
  have Hmr := Lib.hid hmr
  clear hmr
  generalize Dk.zero 12 = D0 at *
  go_enter Try.func3, Try.ntmps3
  go_wp2_with (first | (go_at_call 15; refine (haw _).mono ?_; rintro e W1 ⟨rfl, q1⟩) | (go_at_call 16; refine (hnew _).mono ?_; rintro e W2 ⟨p, q, j, rfl, d2, q2, lp, lq, lj⟩))
  have z1 := q1.size
  have z2 := q2.size
  simp only [World.size_alloc] at z1
  have f3 : W2.heap[w.heap.size]? = some (.cells (List.toArray [.bool m.on, .int .i64 m.epoch, .int .i64 m.page]) 23) :=
    (q2.block _ (by omega) (fun q => q)).trans ((q1.block _ (by simp; omega) (fun q => q)).trans (by simp (disch := (first | (simp only [World.size_alloc, World.size_setCell, World.size_drew, size_setRow, heap_drew, heap_drewN]; done) | ((try simp only [World.size_alloc, World.size_setCell, World.size_drew, size_setRow, heap_drew, heap_drewN]); omega))) only [heap_drew, heap_drewN, heap_alloc_ne, heap_alloc_eq, heap_setCell_ne, heap_setRow_ne]))
  have f4 : W2.heap[w.heap.size + 1]? = some (.cells (List.toArray [.bool n.on, .int .i64 n.epoch, .int .i64 n.page]) 23) :=
    (q2.block _ (by omega) (fun q => q)).trans ((q1.block _ (by simp) (fun q => q)).trans (by simp (disch := (first | (simp only [World.size_alloc, World.size_setCell, World.size_drew, size_setRow, heap_drew, heap_drewN]; done) | ((try simp only [World.size_alloc, World.size_setCell, World.size_drew, size_setRow, heap_drew, heap_drewN]); omega))) only [heap_drew, heap_drewN, heap_alloc_ne, heap_alloc_eq, heap_setCell_ne, heap_setRow_ne]))
  have kw : Keeps noB w W2 := ((((Keeps.refl _ w).alloc _).alloc _).trans q1).trans q2
  clear q1 q2
  refine wp_region_text [(0, true), (1, true), (2, true), (4, true), (5, true), (6, true), (3, false), (7, false), (8, true), (9, true)] (fun W' => W'.heap[w.heap.size]? = some (.cells (List.toArray [.bool m.on, .int .i64 m.epoch, .int .i64 m.page]) 23) ∧ W'.heap[w.heap.size + 1]? = some (.cells (List.toArray [.bool n.on, .int .i64 n.epoch, .int .i64 n.page]) 23)) (by kernel_rfl) (by kernel_rfl) (fun d _ _ _ _ h => by cases d <;> exact h) ⟨f3, f4⟩ ?_
  iterate 2 (apply wpText_take; rfl; rfl; (intro W hS; (try dsimp only at hS); go_simp; exact rfl))
  apply wpText_take (v := .agg (List.toArray [.bool m.on, .int .i64 m.epoch, .int .i64 m.page])); rfl; rfl; intro W' hS; refine exec_run (s := Instr.loadAt 23 (.pointer (some ⟨w.heap.size, 0, none⟩))) rfl (run_loadAll 23 _ (w.heap.size) [.bool m.on, .int .i64 m.epoch, .int .i64 m.page] 23 (0, 0) Try.isAgg23 Try.sizeOf23 hS.1 rfl)
  iterate 2 (apply wpText_take; rfl; rfl; (intro W hS; (try dsimp only at hS); go_simp; exact rfl))
  apply wpText_take (v := .agg (List.toArray [.bool n.on, .int .i64 n.epoch, .int .i64 n.page])); rfl; rfl; intro W' hS; refine exec_run (s := Instr.loadAt 23 (.pointer (some ⟨w.heap.size + 1, 0, none⟩))) rfl (run_loadAll 23 _ (w.heap.size + 1) [.bool n.on, .int .i64 n.epoch, .int .i64 n.page] 23 (0, 0) Try.isAgg23 Try.sizeOf23 hS.2 rfl)
  simp only [Act.put, List.setIfInBounds_toArray, List.set_cons_succ, List.set_cons_zero]
  apply wpText_go; rfl; rfl; intro K hK
  go_simp
  refine (hs1 p q j W2.drew (d2.same rfl rfl rfl)).mono ?_
  rintro e W3 ⟨rfl, d3, q3⟩
  have z3 := q3.size
  simp only [World.size_drew] at z3
  have g3 := (q3.block w.heap.size (by simp; omega) (by simp only [dset]; omega)).trans f3
  have g4 := (q3.block (w.heap.size + 1) (by simp; omega) (by simp only [dset]; omega)).trans f4
  refine hK _ _ ⟨g3, g4⟩ ?_
  clear hK K
  apply wpText_go; rfl; rfl; intro K hK
  go_simp
  refine (hs2 p q j _ d3).mono ?_
  rintro e W4 ⟨rfl, d4, q4⟩
  have z4 := q4.size
  have i3 := (q4.block w.heap.size (by omega) (by simp only [dset]; omega)).trans g3
  have i4 := (q4.block (w.heap.size + 1) (by omega) (by simp only [dset]; omega)).trans g4
  refine hK _ _ ⟨i3, i4⟩ ?_
  clear hK K
  iterate 2 (apply wpText_take; rfl; rfl; (intro W hS; (try dsimp only at hS); go_simp; exact rfl))
  simp only [Act.put, List.setIfInBounds_toArray, List.set_cons_succ, List.set_cons_zero]
  apply wpText_done
  have k4 : Keeps noB w W4 := (kw.drew.trans_new q3 (fun k hk q => by simp only [dset] at q; omega)).trans_new q4 (fun k hk q => by simp only [dset] at q; omega)
  clear q3 q4 g3 g4 f3 f4 kw d2 d3 hs1 hs2 hnew haw
  cases om with
  | true =>
    have hm := Hmr.out.symm
    simp only [Bool.and_eq_true] at hm
    obtain ⟨m1, m2, m3, m4⟩ := hm
    clear Hmr lp lq lj z2 z1 z3 z4 hp hb hab k0 k1 a1 b1
    cases on with
    | true =>
      simp only [if_true, if_false, Bool.false_eq_true] at hr1 hr2
      go_wp2_with (first | (go_at_call 18; with_reducible refine (hr1 p q j _ d4).mono ?_; rintro e W5 ⟨rfl, q5⟩) | ((with_reducible apply wpl_store_all 23 (n := 3) (vs := [.bool m.on, .int .i64 m.epoch, .int .i64 m.page]) (hs := Try.sizeOf23) (L := [.bool false, .int .i64 0, .int .i64 0]) (t := 23)); rfl; rfl; rfl; simp (disch := (first | (simp only [World.size_alloc, World.size_setCell, World.size_drew, size_setRow, heap_drew, heap_drewN]; done) | ((try simp only [World.size_alloc, World.size_setCell, World.size_drew, size_setRow, heap_drew, heap_drewN]); omega))) only [heap_drew, heap_drewN, heap_alloc_ne, heap_alloc_eq, heap_setCell_ne, heap_setRow_ne]; rfl; (intro v hv; simp at hv; rcases hv with rfl | rfl | rfl <;> rfl); rfl; rfl; simp (disch := (first | (simp only [World.size_alloc, World.size_setCell, World.size_drew, size_setRow, heap_drew, heap_drewN]; done) | ((try simp only [World.size_alloc, World.size_setCell, World.size_drew, size_setRow, heap_drew, heap_drewN]); omega))) only [setRow_alloc_top, setRow_alloc_under]) | (go_at_call 18; with_reducible refine (hr2 p q j _ (d4.keep (q5.alloc _) (fun q => q) (fun q => q) (fun q => q))).mono ?_; rintro e W6 ⟨rfl, q6⟩; obtain ⟨e3, e4, e13, ec1, ec2, ek⟩ := pr_facts _ _ _ _ _ _ _ _ i3 i4 q5 q6 k4) | ((with_reducible apply wpl_store_all 23 (n := 3) (vs := [.bool n.on, .int .i64 n.epoch, .int .i64 n.page]) (hs := Try.sizeOf23) (L := [.bool false, .int .i64 0, .int .i64 0]) (t := 23)); rfl; rfl; rfl; simp (disch := (first | (simp only [World.size_alloc, World.size_setCell, World.size_drew, size_setRow, heap_drew, heap_drewN]; done) | ((try simp only [World.size_alloc, World.size_setCell, World.size_drew, size_setRow, heap_drew, heap_drewN]); omega))) only [heap_drew, heap_drewN, heap_alloc_ne, heap_alloc_eq, heap_setCell_ne, heap_setRow_ne]; rfl; (intro v hv; simp at hv; rcases hv with rfl | rfl | rfl <;> rfl); rfl; rfl; simp (disch := (first | (simp only [World.size_alloc, World.size_setCell, World.size_drew, size_setRow, heap_drew, heap_drewN]; done) | ((try simp only [World.size_alloc, World.size_setCell, World.size_drew, size_setRow, heap_drew, heap_drewN]); omega))) only [setRow_alloc_top, setRow_alloc_under]) | ((with_reducible apply wplg_load_all 23 (n := 3) (hg := Try.isAgg23) (hs := Try.sizeOf23) (L := [.bool m.on, .int .i64 m.epoch, .int .i64 m.page]) (t := 23) (fr := (0, 0))); rfl; rfl; exact e3 _; rfl; rfl) | ((with_reducible apply wplg_load_all 23 (n := 3) (hg := Try.isAgg23) (hs := Try.sizeOf23) (L := [.bool n.on, .int .i64 n.epoch, .int .i64 n.page]) (t := 23) (fr := (0, 0))); rfl; rfl; exact e4 _; rfl; rfl) | ((with_reducible apply wplg_load_all 23 (n := 3) (hg := Try.isAgg23) (hs := Try.sizeOf23) (L := [.bool m.on, .int .i64 m.epoch, .int .i64 m.page]) (t := 23) (fr := (0, 0))); rfl; rfl; exact e13 _; rfl; rfl) | ((with_reducible apply wplg_load_all 23 (n := 3) (hg := Try.isAgg23) (hs := Try.sizeOf23) (L := [.bool n.on, .int .i64 n.epoch, .int .i64 n.page]) (t := 23) (fr := (0, 0))); rfl; rfl; (simp (disch := (first | (simp only [World.size_alloc, World.size_setCell, World.size_drew, size_setRow, heap_drew, heap_drewN]; done) | ((try simp only [World.size_alloc, World.size_setCell, World.size_drew, size_setRow, heap_drew, heap_drewN]); omega))) only [heap_drew, heap_drewN, heap_alloc_ne, heap_alloc_eq, heap_setCell_ne, heap_setRow_ne]); rfl; rfl))
      all_goals go_ret
      all_goals exact ⟨rfl, ek _⟩
    | false =>
      simp only [if_true, if_false, Bool.false_eq_true] at hr1 hr2
      go_wp2_with (first | (go_at_call 18; with_reducible refine (hr1 p q j _ d4).mono ?_; rintro e W5 ⟨rfl, q5⟩) | ((with_reducible apply wpl_store_all 23 (n := 3) (vs := [.bool m.on, .int .i64 m.epoch, .int .i64 m.page]) (hs := Try.sizeOf23) (L := [.bool false, .int .i64 0, .int .i64 0]) (t := 23)); rfl; rfl; rfl; simp (disch := (first | (simp only [World.size_alloc, World.size_setCell, World.size_drew, size_setRow, heap_drew, heap_drewN]; done) | ((try simp only [World.size_alloc, World.size_setCell, World.size_drew, size_setRow, heap_drew, heap_drewN]); omega))) only [heap_drew, heap_drewN, heap_alloc_ne, heap_alloc_eq, heap_setCell_ne, heap_setRow_ne]; rfl; (intro v hv; simp at hv; rcases hv with rfl | rfl | rfl <;> rfl); rfl; rfl; simp (disch := (first | (simp only [World.size_alloc, World.size_setCell, World.size_drew, size_setRow, heap_drew, heap_drewN]; done) | ((try simp only [World.size_alloc, World.size_setCell, World.size_drew, size_setRow, heap_drew, heap_drewN]); omega))) only [setRow_alloc_top, setRow_alloc_under]) | (go_at_call 18; with_reducible refine (hr2 p q j _ (d4.keep (q5.alloc _) (fun q => q) (fun q => q) (fun q => q))).mono ?_; rintro e W6 ⟨rfl, q6⟩; obtain ⟨e3, e4, e13, ec1, ec2, ek⟩ := pr_facts _ _ _ _ _ _ _ _ i3 i4 q5 q6 k4) | ((with_reducible apply wpl_store_all 23 (n := 3) (vs := [.bool false, .int .i64 0, .int .i64 0]) (hs := Try.sizeOf23) (L := [.bool false, .int .i64 0, .int .i64 0]) (t := 23)); rfl; rfl; rfl; simp (disch := (first | (simp only [World.size_alloc, World.size_setCell, World.size_drew, size_setRow, heap_drew, heap_drewN]; done) | ((try simp only [World.size_alloc, World.size_setCell, World.size_drew, size_setRow, heap_drew, heap_drewN]); omega))) only [heap_drew, heap_drewN, heap_alloc_ne, heap_alloc_eq, heap_setCell_ne, heap_setRow_ne]; rfl; (intro v hv; simp at hv; rcases hv with rfl | rfl | rfl <;> rfl); rfl; rfl; simp (disch := (first | (simp only [World.size_alloc, World.size_setCell, World.size_drew, size_setRow, heap_drew, heap_drewN]; done) | ((try simp only [World.size_alloc, World.size_setCell, World.size_drew, size_setRow, heap_drew, heap_drewN]); omega))) only [setRow_alloc_top, setRow_alloc_under]) | ((with_reducible apply wplg_load_all 23 (n := 3) (hg := Try.isAgg23) (hs := Try.sizeOf23) (L := [.bool m.on, .int .i64 m.epoch, .int .i64 m.page]) (t := 23) (fr := (0, 0))); rfl; rfl; exact e3 _; rfl; rfl) | ((with_reducible apply wplg_load_all 23 (n := 3) (hg := Try.isAgg23) (hs := Try.sizeOf23) (L := [.bool n.on, .int .i64 n.epoch, .int .i64 n.page]) (t := 23) (fr := (0, 0))); rfl; rfl; exact e4 _; rfl; rfl) | ((with_reducible apply wplg_load_all 23 (n := 3) (hg := Try.isAgg23) (hs := Try.sizeOf23) (L := [.bool m.on, .int .i64 m.epoch, .int .i64 m.page]) (t := 23) (fr := (0, 0))); rfl; rfl; exact e13 _; rfl; rfl) | ((with_reducible apply wplg_load_all 23 (n := 3) (hg := Try.isAgg23) (hs := Try.sizeOf23) (L := [.bool false, .int .i64 0, .int .i64 0]) (t := 23) (fr := (0, 0))); rfl; rfl; (simp (disch := (first | (simp only [World.size_alloc, World.size_setCell, World.size_drew, size_setRow, heap_drew, heap_drewN]; done) | ((try simp only [World.size_alloc, World.size_setCell, World.size_drew, size_setRow, heap_drew, heap_drewN]); omega))) only [heap_drew, heap_drewN, heap_alloc_ne, heap_alloc_eq, heap_setCell_ne, heap_setRow_ne]); rfl; rfl))
      all_goals go_ret
      all_goals exact ⟨rfl, ek _⟩
  | false =>
    have hm : decide (0 ≤ m.epoch) = false ∨ decide (0 ≤ m.epoch) = true ∧ decide (m.epoch ≤ 1099511627776) = false ∨ decide (0 ≤ m.epoch) = true ∧ decide (m.epoch ≤ 1099511627776) = true ∧ decide (0 ≤ m.page) = false ∨
        decide (0 ≤ m.epoch) = true ∧ decide (m.epoch ≤ 1099511627776) = true ∧ decide (0 ≤ m.page) = true ∧ decide (m.page < 1024) = false := by
      have := Hmr.out
      revert this
      cases decide (0 ≤ m.epoch) <;> cases decide (m.epoch ≤ 1099511627776) <;> cases decide (0 ≤ m.page) <;> cases decide (m.page < 1024) <;> decide
    clear Hmr lp lq lj z2 z1 z3 z4 hp hb hab k0 k1 a1 b1
    rcases hm with m1 | ⟨m1, m2⟩ | ⟨m1, m2, m3⟩ | ⟨m1, m2, m3, m4⟩
    all_goals cases on with
    | true =>
      simp only [if_true, if_false, Bool.false_eq_true] at hr1 hr2
      go_wp2_with (first | (go_at_call 18; with_reducible refine (hr1 p q j _ d4).mono ?_; rintro e W5 ⟨rfl, q5⟩) | ((with_reducible apply wpl_store_all 23 (n := 3) (vs := [.bool false, .int .i64 0, .int .i64 0]) (hs := Try.sizeOf23) (L := [.bool false, .int .i64 0, .int .i64 0]) (t := 23)); rfl; rfl; rfl; simp (disch := (first | (simp only [World.size_alloc, World.size_setCell, World.size_drew, size_setRow, heap_drew, heap_drewN]; done) | ((try simp only [World.size_alloc, World.size_setCell, World.size_drew, size_setRow, heap_drew, heap_drewN]); omega))) only [heap_drew, heap_drewN, heap_alloc_ne, heap_alloc_eq, heap_setCell_ne, heap_setRow_ne]; rfl; (intro v hv; simp at hv; rcases hv with rfl | rfl | rfl <;> rfl); rfl; rfl; simp (disch := (first | (simp only [World.size_alloc, World.size_setCell, World.size_drew, size_setRow, heap_drew, heap_drewN]; done) | ((try simp only [World.size_alloc, World.size_setCell, World.size_drew, size_setRow, heap_drew, heap_drewN]); omega))) only [setRow_alloc_top, setRow_alloc_under]) | (go_at_call 18; with_reducible refine (hr2 p q j _ (d4.keep (q5.alloc _) (fun q => q) (fun q => q) (fun q => q))).mono ?_; rintro e W6 ⟨rfl, q6⟩; obtain ⟨e3, e4, e13, ec1, ec2, ek⟩ := pr_facts _ _ _ _ _ _ _ _ i3 i4 q5 q6 k4) | ((with_reducible apply wpl_store_all 23 (n := 3) (vs := [.bool n.on, .int .i64 n.epoch, .int .i64 n.page]) (hs := Try.sizeOf23) (L := [.bool false, .int .i64 0, .int .i64 0]) (t := 23)); rfl; rfl; rfl; simp (disch := (first | (simp only [World.size_alloc, World.size_setCell, World.size_drew, size_setRow, heap_drew, heap_drewN]; done) | ((try simp only [World.size_alloc, World.size_setCell, World.size_drew, size_setRow, heap_drew, heap_drewN]); omega))) only [heap_drew, heap_drewN, heap_alloc_ne, heap_alloc_eq, heap_setCell_ne, heap_setRow_ne]; rfl; (intro v hv; simp at hv; rcases hv with rfl | rfl | rfl <;> rfl); rfl; rfl; simp (disch := (first | (simp only [World.size_alloc, World.size_setCell, World.size_drew, size_setRow, heap_drew, heap_drewN]; done) | ((try simp only [World.size_alloc, World.size_setCell, World.size_drew, size_setRow, heap_drew, heap_drewN]); omega))) only [setRow_alloc_top, setRow_alloc_under]) | ((with_reducible apply wplg_load_all 23 (n := 3) (hg := Try.isAgg23) (hs := Try.sizeOf23) (L := [.bool m.on, .int .i64 m.epoch, .int .i64 m.page]) (t := 23) (fr := (0, 0))); rfl; rfl; exact e3 _; rfl; rfl) | ((with_reducible apply wplg_load_all 23 (n := 3) (hg := Try.isAgg23) (hs := Try.sizeOf23) (L := [.bool n.on, .int .i64 n.epoch, .int .i64 n.page]) (t := 23) (fr := (0, 0))); rfl; rfl; exact e4 _; rfl; rfl) | ((with_reducible apply wplg_load_all 23 (n := 3) (hg := Try.isAgg23) (hs := Try.sizeOf23) (L := [.bool false, .int .i64 0, .int .i64 0]) (t := 23) (fr := (0, 0))); rfl; rfl; exact e13 _; rfl; rfl) | ((with_reducible apply wplg_load_all 23 (n := 3) (hg := Try.isAgg23) (hs := Try.sizeOf23) (L := [.bool n.on, .int .i64 n.epoch, .int .i64 n.page]) (t := 23) (fr := (0, 0))); rfl; rfl; (simp (disch := (first | (simp only [World.size_alloc, World.size_setCell, World.size_drew, size_setRow, heap_drew, heap_drewN]; done) | ((try simp only [World.size_alloc, World.size_setCell, World.size_drew, size_setRow, heap_drew, heap_drewN]); omega))) only [heap_drew, heap_drewN, heap_alloc_ne, heap_alloc_eq, heap_setCell_ne, heap_setRow_ne]); rfl; rfl))
      all_goals go_ret
      all_goals exact ⟨rfl, ek _⟩
    | false =>
      simp only [if_true, if_false, Bool.false_eq_true] at hr1 hr2
      go_wp2_with (first | (go_at_call 18; with_reducible refine (hr1 p q j _ d4).mono ?_; rintro e W5 ⟨rfl, q5⟩) | ((with_reducible apply wpl_store_all 23 (n := 3) (vs := [.bool false, .int .i64 0, .int .i64 0]) (hs := Try.sizeOf23) (L := [.bool false, .int .i64 0, .int .i64 0]) (t := 23)); rfl; rfl; rfl; simp (disch := (first | (simp only [World.size_alloc, World.size_setCell, World.size_drew, size_setRow, heap_drew, heap_drewN]; done) | ((try simp only [World.size_alloc, World.size_setCell, World.size_drew, size_setRow, heap_drew, heap_drewN]); omega))) only [heap_drew, heap_drewN, heap_alloc_ne, heap_alloc_eq, heap_setCell_ne, heap_setRow_ne]; rfl; (intro v hv; simp at hv; rcases hv with rfl | rfl | rfl <;> rfl); rfl; rfl; simp (disch := (first | (simp only [World.size_alloc, World.size_setCell, World.size_drew, size_setRow, heap_drew, heap_drewN]; done) | ((try simp only [World.size_alloc, World.size_setCell, World.size_drew, size_setRow, heap_drew, heap_drewN]); omega))) only [setRow_alloc_top, setRow_alloc_under]) | (go_at_call 18; with_reducible refine (hr2 p q j _ (d4.keep (q5.alloc _) (fun q => q) (fun q => q) (fun q => q))).mono ?_; rintro e W6 ⟨rfl, q6⟩; obtain ⟨e3, e4, e13, ec1, ec2, ek⟩ := pr_facts _ _ _ _ _ _ _ _ i3 i4 q5 q6 k4) | ((with_reducible apply wpl_store_all 23 (n := 3) (vs := [.bool false, .int .i64 0, .int .i64 0]) (hs := Try.sizeOf23) (L := [.bool false, .int .i64 0, .int .i64 0]) (t := 23)); rfl; rfl; rfl; simp (disch := (first | (simp only [World.size_alloc, World.size_setCell, World.size_drew, size_setRow, heap_drew, heap_drewN]; done) | ((try simp only [World.size_alloc, World.size_setCell, World.size_drew, size_setRow, heap_drew, heap_drewN]); omega))) only [heap_drew, heap_drewN, heap_alloc_ne, heap_alloc_eq, heap_setCell_ne, heap_setRow_ne]; rfl; (intro v hv; simp at hv; rcases hv with rfl | rfl | rfl <;> rfl); rfl; rfl; simp (disch := (first | (simp only [World.size_alloc, World.size_setCell, World.size_drew, size_setRow, heap_drew, heap_drewN]; done) | ((try simp only [World.size_alloc, World.size_setCell, World.size_drew, size_setRow, heap_drew, heap_drewN]); omega))) only [setRow_alloc_top, setRow_alloc_under]) | ((with_reducible apply wplg_load_all 23 (n := 3) (hg := Try.isAgg23) (hs := Try.sizeOf23) (L := [.bool m.on, .int .i64 m.epoch, .int .i64 m.page]) (t := 23) (fr := (0, 0))); rfl; rfl; exact e3 _; rfl; rfl) | ((with_reducible apply wplg_load_all 23 (n := 3) (hg := Try.isAgg23) (hs := Try.sizeOf23) (L := [.bool n.on, .int .i64 n.epoch, .int .i64 n.page]) (t := 23) (fr := (0, 0))); rfl; rfl; exact e4 _; rfl; rfl) | ((with_reducible apply wplg_load_all 23 (n := 3) (hg := Try.isAgg23) (hs := Try.sizeOf23) (L := [.bool false, .int .i64 0, .int .i64 0]) (t := 23) (fr := (0, 0))); rfl; rfl; exact e13 _; rfl; rfl) | ((with_reducible apply wplg_load_all 23 (n := 3) (hg := Try.isAgg23) (hs := Try.sizeOf23) (L := [.bool false, .int .i64 0, .int .i64 0]) (t := 23) (fr := (0, 0))); rfl; rfl; (simp (disch := (first | (simp only [World.size_alloc, World.size_setCell, World.size_drew, size_setRow, heap_drew, heap_drewN]; done) | ((try simp only [World.size_alloc, World.size_setCell, World.size_drew, size_setRow, heap_drew, heap_drewN]); omega))) only [heap_drew, heap_drewN, heap_alloc_ne, heap_alloc_eq, heap_setCell_ne, heap_setRow_ne]); rfl; rfl))
      all_goals go_ret
      all_goals exact ⟨rfl, ek _⟩
end Go.Proofs.Ytckopikeegegkaa
