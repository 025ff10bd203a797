/- DISK 2: the contracts of burn, Write, Fuse, Dead, Sectors. -/
import Derived.Test.YtckopikeegegkaaDisk1
import Derived.StillTailTactics
namespace Go.Proofs.Ytckopikeegegkaa
open Go.RowKit Go.MapKept
set_option linter.unusedSimpArgs false
set_option linter.unusedVariables false
variable {p q m : Nat} {D : Dk}

theorem DiskAt.setLeft {w : World} (h : DiskAt w p q m D) (x : Int) (h0 : -1 ≤ x) (h1 : x ≤ 9223372036854775807) :
    DiskAt (w.setCell ⟨p, 2, none⟩ (.int .i64 x)) p q m { D with left := x } := by
  obtain ⟨cap, hc, hs⟩ := h.strct
  have np := h.ne_pq; have nm := h.ne_pm
  refine ⟨⟨cap, hc, ?_⟩, ?_, ?_, ⟨h.wf.there, h.wf.aside, h.wf.rises, ⟨h0, h1⟩, h.wf.pos, h.wf.small⟩⟩
  · rw [heap_setCell_same w p 2 _ _ _ hs]; rfl
  · rw [heap_setCell_ne _ _ _ _ _ (Ne.symm np)]; exact h.row
  · rw [heap_setCell_ne _ _ _ _ _ (Ne.symm nm)]; exact h.kept

set_option maxHeartbeats 400000 in
theorem burn_dead (w : World) (h : DiskAt w p q m D) (h0 : D.left = 0) :
    Calls Try.prog 62 #[.pointer (some ⟨p, 0, none⟩)] w fun e w' => e = .returned (.int .i64 42) ∧ w = w' := by
  obtain ⟨cap, hc, c0, c1, c2, hf⟩ := h.cells
  rw [h0] at c2
  go_enter Try.func62, Try.ntmps62
  go_wp2
  go_ret
  exact ⟨rfl, rfl⟩
set_option maxHeartbeats 400000 in
theorem burn_live (w : World) (h : DiskAt w p q m D) (h0 : (D.left == 0) = false) :
    Calls Try.prog 62 #[.pointer (some ⟨p, 0, none⟩)] w fun e w' => e = .returned (.int .i64 0) ∧ w.setCell ⟨p, 2, none⟩ (.int .i64 (Dk.burnt D.left)) = w' := by
  obtain ⟨cap, hc, c0, c1, c2, hf⟩ := h.cells
  obtain ⟨l0, l1⟩ := h.wf.left
  have hf2 := hf 2
  have hne : D.left ≠ 0 := by simpa using h0
  generalize D.left = x at *
  clear h
  go_enter Try.func62, Try.ntmps62
  go_wp2
  all_goals go_ret
  all_goals refine ⟨rfl, ?_⟩
  · have : Dk.burnt x = -1 := by unfold Dk.burnt; split <;> omega
    rw [this]
  · have : Dk.burnt x = x - 1 := by unfold Dk.burnt; split <;> omega
    rw [this]
theorem burnt_bounds {x : Int} (h0 : -1 ≤ x) (h1 : x ≤ 9223372036854775807) : -1 ≤ Dk.burnt x ∧ Dk.burnt x ≤ 9223372036854775807 := by
  unfold Dk.burnt; split <;> omega

set_option maxHeartbeats 400000 in
theorem fuse_calls (n : Int) (w : World) (h : DiskAt w p q m D) (hn : n ≤ 9223372036854775807) :
    Calls Try.prog 35 #[.pointer (some ⟨p, 0, none⟩), .int .i64 n] w fun e w' => e = .returned (.int .i64 (D.fuse n).1) ∧ DiskAt w' p q m (D.fuse n).2 ∧ Keeps (dset p q m) w w' := by
  obtain ⟨cap, hc, c0, c1, c2, hf⟩ := h.cells
  have hf2 := hf 2
  by_cases h0 : n < 0
  · have e : D.fuse n = (1, D) := by simp [Dk.fuse, h0]
    rw [e]
    have k0 : decide (n < 0) = true := by simpa using h0
    go_enter Try.func35, Try.ntmps35
    go_wp2
    go_ret
    exact ⟨rfl, h, Keeps.refl _ _⟩
  · have k0 : decide (n < 0) = false := by simpa using h0
    by_cases h1 : D.left = 0
    · have e : D.fuse n = (42, D) := by simp [Dk.fuse, h0, h1]
      rw [e]
      rw [h1] at c2
      go_enter Try.func35, Try.ntmps35
      go_wp2
      go_ret
      exact ⟨rfl, h, Keeps.refl _ _⟩
    · have e : D.fuse n = (0, { D with left := n }) := by simp [Dk.fuse, h0, h1]
      rw [e]
      have k1 : (D.left == 0) = false := by simpa using h1
      go_enter Try.func35, Try.ntmps35
      go_wp2
      go_ret
      exact ⟨rfl, h.setLeft n (by omega) hn, (Keeps.refl _ _).setCell (fun _ => .inl rfl) _⟩

set_option maxHeartbeats 400000 in
theorem dead_calls (w : World) (h : DiskAt w p q m D) :
    Calls Try.prog 30 #[.pointer (some ⟨p, 0, none⟩)] w fun e w' => e = .returned (.bool D.dead) ∧ w = w' := by
  obtain ⟨cap, hc, c0, c1, c2, hf⟩ := h.cells
  have e : D.dead = (D.left == 0) := by unfold Dk.dead; rfl
  rw [e]
  go_enter Try.func30, Try.ntmps30
  go_wp2
  go_ret
  exact ⟨rfl, rfl⟩
set_option maxHeartbeats 400000 in
theorem sectors_calls (w : World) (h : DiskAt w p q m D) :
    Calls Try.prog 39 #[.pointer (some ⟨p, 0, none⟩)] w fun e w' => e = .returned (.int .i64 D.there.length) ∧ w = w' := by
  obtain ⟨cap, hc, c0, c1, c2, hf⟩ := h.cells
  go_enter Try.func39, Try.ntmps39
  go_wp2
  go_ret
  exact ⟨rfl, rfl⟩
set_option maxHeartbeats 400000 in
theorem sectors_nil (w : World) :
    Calls Try.prog 39 #[.pointer none] w fun e w' => e = .returned (.int .i64 0) ∧ w = w' := by
  go_enter Try.func39, Try.ntmps39
  go_wp2
  go_ret
  exact ⟨rfl, rfl⟩
end Go.Proofs.Ytckopikeegegkaa
