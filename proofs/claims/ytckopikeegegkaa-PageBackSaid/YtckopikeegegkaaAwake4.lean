/- AWAKE 4: the examples of layer 4. -/
import Derived.Test.YtckopikeegegkaaPage6
import Derived.Test.YtckopikeegegkaaDisk4
import Derived.Test.YtckopikeegegkaaStrs
namespace Go.Proofs.Ytckopikeegegkaa
open Go.RowKit Go.MapKept Go.Shelf
set_option linter.unusedSimpArgs false
set_option linter.unusedVariables false

def awD1 : Dk := (pgWrite (Dk.zero 8) 1 [97, 98]).2
def awD2 : Dk := (pgSetRoot awD1 0 ⟨true, 5, 3⟩).2
def awS : Str := (awD2.read 4).1
def awT : Str := (awD2.read 0).1
theorem aw_make : Dk.make 8 = some (Dk.zero 8) := by kernel_rfl
theorem aw_pages : pages (Dk.zero 8) = 2 := by kernel_rfl
theorem aw_write : pgWrite (Dk.zero 8) 1 [97, 98] = (0, awD1) := by kernel_rfl
theorem aw_root : pgSetRoot awD1 0 ⟨true, 5, 3⟩ = (0, awD2) := by kernel_rfl
theorem aw_s : awD2.read 4 = (awS, 0) := by kernel_rfl
theorem aw_t : awD2.read 0 = (awT, 0) := by kernel_rfl
theorem aw_sl : awS.length = 64 := by kernel_rfl
theorem aw_tl : awT.length = 64 := by kernel_rfl
theorem aw_s4 : (bs awS).extract 0 4 = bs [0, 2, 97, 98] := by kernel_rfl
theorem aw_t11 : (bs awT).extract 0 11 = bs [1, 0, 0, 0, 0, 0, 0, 0, 5, 0, 3] := by kernel_rfl
set_option maxHeartbeats 1000000 in
theorem awake4_calls (w : World) : Calls Try.prog 15 #[] w fun e w' => e = .returned (.bool true) ∧ Keeps noB w w' := by
  have hnew := new_good 8 _ w aw_make
  have hpg := fun (p q m : Nat) (W : World) (h : DiskAt W p q m (Dk.zero 8)) => pages_calls W h
  have hwr := fun (p q m : Nat) (W : World) (h : DiskAt W p q m (Dk.zero 8)) => pwrite_calls 1 [97, 98] W h
  have hsr := fun (p q m : Nat) (W : World) (h : DiskAt W p q m awD1) => setRoot_calls 0 ⟨true, 5, 3⟩ W h
  have hr1 := fun (p q m : Nat) (W : World) (h : DiskAt W p q m awD2) => read_calls 4 W h
  have hr2 := fun (p q m : Nat) (W : World) (h : DiskAt W p q m awD2) => read_calls 0 W h
  simp only [aw_pages, aw_write, aw_root, aw_s, aw_t] at hpg hwr hsr hr1 hr2
  have e1 := aw_sl
  have e2 := aw_tl
  have e3 := aw_s4
  have e4 := aw_t11
  generalize awS = S at *
  generalize awT = T at *
  generalize awD2 = D2 at *
  generalize awD1 = D1 at *
  generalize Dk.zero 8 = D0 at *
  go_enter Try.func15, Try.ntmps15
  go_wp2_with (first | (go_at_call 16; refine hnew.mono ?_; rintro e W1 ⟨p, q, m, rfl, d1, k1, lp, lq, lm⟩) | (go_at_call 20; refine (hpg p q m _ d1).mono ?_; rintro e W2 ⟨rfl, rfl⟩) | (go_at_call 21; refine (hwr p q m _ d1).mono ?_; rintro e W2 ⟨rfl, d2, k2⟩) | (go_at_call 17; refine (hsr p q m _ d2).mono ?_; rintro e W3 ⟨rfl, d3, k3⟩) | (go_at_call 24; with_reducible refine (hr1 p q m _ d3).mono ?_; rintro e W4 ⟨rfl, k4⟩) | (go_at_call 24; with_reducible refine (hr2 p q m _ (d3.keep k4 (fun q => q) (fun q => q) (fun q => q))).mono ?_; rintro e W5 ⟨rfl, k5⟩))
  go_ret
  exact ⟨rfl, ((k1.trans_new k2 (fun k hk q => by simp only [dset] at q; omega)).trans_new k3 (fun k hk q => by simp only [dset] at q; omega)).trans (k4.trans k5)⟩
end Go.Proofs.Ytckopikeegegkaa
