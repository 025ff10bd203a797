/- MAY: the contract of may. -/
import Derived.Test.YtckopikeegegkaaAt2
namespace Go.Proofs.Ytckopikeegegkaa
open Go.RowKit Go.MapKept Go.Shelf
set_option linter.unusedSimpArgs false
set_option linter.unusedVariables false
def mayE (e : Int) : Int := IntKind.u64.wrap e % 1099511627776
def mayG (g : Int) : Int := IntKind.u64.wrap g % 1024
theorem mayE_bounds (e : Int) : 0 ≤ mayE e ∧ mayE e ≤ 1099511627776 := by unfold mayE; omega
theorem mayG_bounds (g : Int) : 0 ≤ mayG g ∧ mayG g < 1024 := by unfold mayG; omega
set_option maxHeartbeats 1000000 in
theorem may_calls (on : Bool) (ep pg : Int) (w : World) : Calls Try.prog 41 #[.agg #[.bool on, .int .i64 ep, .int .i64 pg]] w fun e w' =>
    e = .returned (.agg #[.bool on, .int .i64 (mayE ep), .int .i64 (mayG pg)]) ∧ Keeps noB w w' := by
  go_enter Try.func41, Try.ntmps41
  go_wp2
  have u : ∀ x, 0 ≤ IntKind.u64.wrap x := fun x => by rw [IntKind.wrap_u64]; omega
  have e1 : wrap64 ((IntKind.u64.wrap ep).tmod 1099511627776) = mayE ep := by
    have h := mayE_bounds ep
    rw [Int.tmod_eq_emod_of_nonneg (u ep)]
    exact IntWalk.wrap64_in (IntKind.u64.wrap ep % 1099511627776) (by unfold mayE at h; omega)
  have e2 : wrap64 ((IntKind.u64.wrap pg).tmod 1024) = mayG pg := by
    have h := mayG_bounds pg
    rw [Int.tmod_eq_emod_of_nonneg (u pg)]
    exact IntWalk.wrap64_in (IntKind.u64.wrap pg % 1024) (by unfold mayG at h; omega)
  rw [e1, e2]
  exact bodyPost_ret (results_all rfl _ _ (w.heap.size + 1) [.bool on, .int .i64 (mayE ep), .int .i64 (mayG pg)] 23 (0, 0) 3 rfl Try.isAgg23 Try.sizeOf23 (by simp (disch := (first | (simp only [World.size_alloc, World.size_setCell, World.size_drew, size_setRow, heap_drew, heap_drewN]; done) | ((try simp only [World.size_alloc, World.size_setCell, World.size_drew, size_setRow, heap_drew, heap_drewN]); omega))) only [heap_drew, heap_drewN, heap_alloc_ne, heap_alloc_eq, heap_setCell_ne, heap_setRow_ne]) rfl) rfl ⟨rfl, ((Keeps.refl _ _).alloc _).alloc _⟩
end Go.Proofs.Ytckopikeegegkaa
