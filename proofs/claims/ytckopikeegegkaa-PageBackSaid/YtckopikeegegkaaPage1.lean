/- PAGE 1: Pages, there, root, sectors. -/
import Derived.Test.YtckopikeegegkaaDisk4
namespace Go.Proofs.Ytckopikeegegkaa
open Go.RowKit Go.MapKept
set_option linter.unusedSimpArgs false
set_option linter.unusedVariables false
variable {p q m : Nat} {D : Dk}

set_option maxHeartbeats 400000 in
theorem pages_calls (w : World) (h : DiskAt w p q m D) :
    Calls Try.prog 20 #[.pointer (some ⟨p, 0, none⟩)] w fun e w' => e = .returned (.int .i64 (pages D)) ∧ w = w' := by
  have hs := sectors_calls w h
  have hb := h.wf.small
  have hp : pages D = (D.there.length : Int) / 4 := by unfold pages; omega
  rw [hp]
  generalize D.there.length = n at *
  go_enter Try.func20, Try.ntmps20
  go_wp2_with (go_at_call 39; refine hs.mono ?_; rintro e w' ⟨rfl, rfl⟩)
  go_ret
  exact ⟨rfl, rfl⟩
set_option maxHeartbeats 400000 in
theorem pages_nil (w : World) :
    Calls Try.prog 20 #[.pointer none] w fun e w' => e = .returned (.int .i64 0) ∧ w = w' := by
  have hs := sectors_nil w
  go_enter Try.func20, Try.ntmps20
  go_wp2_with (go_at_call 39; refine hs.mono ?_; rintro e w' ⟨rfl, rfl⟩)
  go_ret
  exact ⟨rfl, rfl⟩
set_option maxHeartbeats 400000 in
theorem there_nil (n : Int) (w : World) :
    Calls Try.prog 54 #[.pointer none, .int .i64 n] w fun e w' => e = .returned (.int .i64 2) ∧ w = w' := by
  go_enter Try.func54, Try.ntmps54
  go_wp2
  go_ret
  exact ⟨rfl, rfl⟩
set_option maxHeartbeats 400000 in
theorem there_calls (n : Int) (w : World) (h : DiskAt w p q m D) :
    Calls Try.prog 54 #[.pointer (some ⟨p, 0, none⟩), .int .i64 n] w fun e w' => e = .returned (.int .i64 (if hasPage D n then 0 else 5)) ∧ w = w' := by
  have hs := pages_calls w h
  have e : hasPage D n = (decide (0 ≤ n) && decide (n < pages D)) := rfl
  generalize pages D = x at *
  by_cases h0 : n < 0
  · have : hasPage D n = false := by rw [e]; simp; omega
    rw [this]
    have k0 : decide (n < 0) = true := by simpa using h0
    clear e this
    go_enter Try.func54, Try.ntmps54
    go_wp2_with (go_at_call 20; refine hs.mono ?_; rintro e w' ⟨rfl, rfl⟩)
    go_ret
    exact ⟨rfl, rfl⟩
  · have k0 : decide (n < 0) = false := by simpa using h0
    by_cases h1 : n < x
    · have : hasPage D n = true := by rw [e]; simp; omega
      rw [this]
      have k1 : decide (x ≤ n) = false := by simpa using h1
      clear e this
      go_enter Try.func54, Try.ntmps54
      go_wp2_with (go_at_call 20; refine hs.mono ?_; rintro e w' ⟨rfl, rfl⟩)
      go_ret
      exact ⟨rfl, rfl⟩
    · have : hasPage D n = false := by rw [e]; simp; omega
      rw [this]
      have k1 : decide (x ≤ n) = true := by simpa using h1
      clear e this
      go_enter Try.func54, Try.ntmps54
      go_wp2_with (go_at_call 20; refine hs.mono ?_; rintro e w' ⟨rfl, rfl⟩)
      go_ret
      exact ⟨rfl, rfl⟩
set_option maxHeartbeats 400000 in
theorem root_nil (n : Int) (w : World) :
    Calls Try.prog 53 #[.pointer none, .int .i64 n] w fun e w' => e = .returned (.int .i64 2) ∧ w = w' := by
  have hs := there_nil n w
  go_enter Try.func53, Try.ntmps53
  go_wp2_with (go_at_call 54; refine hs.mono ?_; rintro e w' ⟨rfl, rfl⟩)
  go_ret
  exact ⟨rfl, rfl⟩
set_option maxHeartbeats 400000 in
theorem root_calls (n : Int) (w : World) (h : DiskAt w p q m D) :
    Calls Try.prog 53 #[.pointer (some ⟨p, 0, none⟩), .int .i64 n] w fun e w' => e = .returned (.int .i64 (if hasRoot D n then 0 else 5)) ∧ w = w' := by
  have hs := there_calls n w h
  by_cases h1 : n ≤ 1
  · have : hasRoot D n = hasPage D n := by simp [hasRoot, h1]
    rw [this]
    have k1 : decide (1 < n) = false := by simpa using h1
    go_enter Try.func53, Try.ntmps53
    go_wp2_with (go_at_call 54; refine hs.mono ?_; rintro e w' ⟨rfl, rfl⟩)
    all_goals go_ret
    all_goals exact ⟨rfl, rfl⟩
  · have : hasRoot D n = false := by simp [hasRoot, h1]
    rw [this]
    have k1 : decide (1 < n) = true := by simp; omega
    go_enter Try.func53, Try.ntmps53
    go_wp2_with (go_at_call 54; refine hs.mono ?_; rintro e w' ⟨rfl, rfl⟩)
    go_ret
    exact ⟨rfl, rfl⟩
end Go.Proofs.Ytckopikeegegkaa
