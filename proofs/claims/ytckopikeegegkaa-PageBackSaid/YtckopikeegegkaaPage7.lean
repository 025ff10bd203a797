/- PAGE 7: the calls on no disk. -/
import Derived.Test.YtckopikeegegkaaPage6
namespace Go.Proofs.Ytckopikeegegkaa
open Go.RowKit Go.MapKept Go.Shelf
set_option linter.unusedSimpArgs false
set_option linter.unusedVariables false
set_option maxHeartbeats 1000000 in
theorem pread_nil (n : Int) (w : World) :
    Calls Try.prog 19 #[.pointer none, .int .i64 n] w fun e w' => e = .returned (.tuple #[.string (bs []), .int .i64 2]) ∧ Keeps noB w w' := by
  have hi := fun W => there_nil n W
  refine calls_marks Try.func19 rfl ?_
  simp only [Try.ntmps19, List.size_toArray, List.length_cons, List.length_nil, Nat.reduceAdd, Nat.reduceSub, Array.replicate_succ, Array.replicate_zero, List.push_toArray, List.append_toArray, List.nil_append, List.cons_append]
  go_wp2_with (go_at_call 54; refine (hi _).mono ?_; rintro e w' ⟨rfl, rfl⟩)
  have k1 : Keeps noB w (((w.alloc (.cells #[.pointer none] 25)).alloc (.cells #[.string (bs [])] 9)).alloc (.cells #[.int .i64 2] 26)) := (((Keeps.refl _ _).alloc _).alloc _).alloc _
  have g4 : Boxed (((w.alloc (.cells #[.pointer none] 25)).alloc (.cells #[.string (bs [])] 9)).alloc (.cells #[.int .i64 2] 26)) (w.heap.size + 1) 9 (.string (bs [])) := by unfold Boxed; simp (disch := (first | (simp only [World.size_alloc, World.size_setCell, World.size_drew, size_setRow, heap_drew, heap_drewN]; done) | ((try simp only [World.size_alloc, World.size_setCell, World.size_drew, size_setRow, heap_drew, heap_drewN]); omega))) only [heap_drew, heap_drewN, heap_alloc_ne, heap_alloc_eq, heap_setCell_ne, heap_setRow_ne]
  have g5 : Boxed (((w.alloc (.cells #[.pointer none] 25)).alloc (.cells #[.string (bs [])] 9)).alloc (.cells #[.int .i64 2] 26)) (w.heap.size + 1 + 1) 26 (.int .i64 2) := by unfold Boxed; simp (disch := (first | (simp only [World.size_alloc, World.size_setCell, World.size_drew, size_setRow, heap_drew, heap_drewN]; done) | ((try simp only [World.size_alloc, World.size_setCell, World.size_drew, size_setRow, heap_drew, heap_drewN]); omega))) only [heap_drew, heap_drewN, heap_alloc_ne, heap_alloc_eq, heap_setCell_ne, heap_setRow_ne]
  exact leaves_plain (results_cell2 rfl _ _ (w.heap.size + 1) (w.heap.size + 1 + 1) (.string (bs [])) (.int .i64 2) rfl (Try.isAgg9 _) g4.cell rfl (Try.isAgg26 _) g5.cell) ⟨rfl, k1⟩
set_option maxHeartbeats 1000000 in
theorem pwrite_nil (n : Int) (b : Str) (w : World) :
    Calls Try.prog 21 #[.pointer none, .int .i64 n, .string (bs b)] w fun e w' => e = .returned (.int .i64 2) ∧ Keeps noB w w' := by
  have hi := fun W => there_nil n W
  refine calls_marks Try.func21 rfl ?_
  simp only [Try.ntmps21, List.size_toArray, List.length_cons, List.length_nil, Nat.reduceAdd, Nat.reduceSub, Array.replicate_succ, Array.replicate_zero, List.push_toArray, List.append_toArray, List.nil_append, List.cons_append]
  go_wp2_with (go_at_call 54; refine (hi _).mono ?_; rintro e w' ⟨rfl, rfl⟩)
  have k1 : Keeps noB w ((w.alloc (.cells #[.pointer none] 25)).alloc (.cells #[.int .i64 2] 26)) := ((Keeps.refl _ _).alloc _).alloc _
  exact leaves_plain (results_cell1 rfl _ _ (w.heap.size + 1) (.int .i64 2) rfl (Try.isAgg26 _) (by simp)) ⟨rfl, k1⟩
set_option maxHeartbeats 1000000 in
theorem setRoot_nil (n : Int) (on : Bool) (ep pg : Int) (w : World) :
    Calls Try.prog 17 #[.pointer none, .int .i64 n, .agg #[.bool on, .int .i64 ep, .int .i64 pg]] w fun e w' => e = .returned (.int .i64 2) ∧ Keeps noB w w' := by
  have hr := root_nil n (w.alloc (.cells #[.bool on, .int .i64 ep, .int .i64 pg] 23))
  go_enter Try.func17, Try.ntmps17
  go_wp2_with (go_at_call 53; refine hr.mono ?_; rintro e w' ⟨rfl, rfl⟩)
  go_ret
  exact ⟨rfl, (Keeps.refl _ _).alloc _⟩
end Go.Proofs.Ytckopikeegegkaa
