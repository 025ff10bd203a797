/- OPENS 2: slices that come in, opened. -/
import Derived.Test.YtckopikeegegkaaOpens
import Derived.Test.YtckopikeegegkaaStt
import Derived.Deep.Grids
namespace Go.Proofs.Ytckopikeegegkaa
open Go.ChangeShapes Go.WideShapes Go.ChangeAt Go.RowKit Go.Joins Go.Deep
set_option maxRecDepth 100000 in
theorem open_boolsAt {H : Type} {enc : TypeId × Value → H} {w : World} {base b0 : Nat} {held : Bool} {r : Reach} {v : Value} {d : DataW H} {p : List MemPlace}
    (hv : Value.okWide Try.prog w r b0 40 v) (h : DataW.Trod enc Try.prog w base (fun _ => true) held 40 v d p) : ∃ l : List Bool, BoolsAt w v l ∧ l.length ≤ maxLen := by
  obtain ⟨a0, len, cap, rfl⟩ := okWide_slice Try.underlying40 hv
  obtain ⟨fuel, hf⟩ := h
  rcases open_bools Try.underlying40 Try.underlying4 (by kernel_rfl) hf with ⟨hc, _⟩ | ⟨a, len', cap', B, hc, _, hl, hm, _, hcell⟩
  · simp [Value.cells] at hc
    obtain ⟨rfl, rfl, rfl⟩ := hc
    exact ⟨[], .inl ⟨rfl, rfl⟩, by simp⟩
  · simp [Value.cells] at hc
    obtain ⟨rfl, rfl, rfl⟩ := hc
    refine ⟨(List.range len).map B, .inr ⟨a, cap, by simp, fun i hi => ?_⟩, by simp; omega⟩
    rw [hcell i (by simp at hi; omega)]
    simp
end Go.Proofs.Ytckopikeegegkaa
