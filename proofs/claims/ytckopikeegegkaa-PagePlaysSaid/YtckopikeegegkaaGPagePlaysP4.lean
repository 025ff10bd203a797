/- Texts of one proof, one behind the other: DiskNames, Ref3, Ref3b, Ref3c, Ref3d, Ref3e, Ref3f, Ref3g, Ref3h, Ref4a, Pure7, Pure8, Ref4b. No condition. -/
import Derived.Test.YtckopikeegegkaaGPagePlaysP3
/- DISKNAMES: the walk of the law. -/
namespace Go.Proofs.Ytckopikeegegkaa
open Go.RowKit Go.MapKept Go.Shelf
set_option linter.unusedSimpArgs false
set_option linter.unusedVariables false
set_option maxHeartbeats 1000000 in
theorem read_nil (n : Int) (w : World) : Calls Try.prog 24 #[.pointer none, .int .i64 n] w fun e w' => e = .returned (.tuple #[.string (bs []), .int .i64 2]) ∧ w = w' := by
  go_enter Try.func24, Try.ntmps24
  go_wp2
  go_ret2
  exact ⟨rfl, rfl⟩
set_option maxHeartbeats 1000000 in
theorem write_nil (n : Int) (s : ByteArray) (w : World) : Calls Try.prog 32 #[.pointer none, .int .i64 n, .string s] w fun e w' => e = .returned (.int .i64 2) ∧ w = w' := by
  go_enter Try.func32, Try.ntmps32
  go_wp2
  go_ret
  exact ⟨rfl, rfl⟩
set_option maxHeartbeats 1000000 in
theorem fuse_nil (n : Int) (w : World) : Calls Try.prog 35 #[.pointer none, .int .i64 n] w fun e w' => e = .returned (.int .i64 2) ∧ w = w' := by
  go_enter Try.func35, Try.ntmps35
  go_wp2
  go_ret
  exact ⟨rfl, rfl⟩
set_option maxHeartbeats 1000000 in
theorem dead_nil (w : World) : Calls Try.prog 30 #[.pointer none] w fun e w' => e = .returned (.bool false) ∧ w = w' := by
  go_enter Try.func30, Try.ntmps30
  go_wp2
  go_ret
  exact ⟨rfl, rfl⟩
set_option maxHeartbeats 1000000 in
theorem copy_nil (w : World) : Calls Try.prog 28 #[.pointer none] w fun e w' => e = .returned (.pointer none) ∧ w = w' := by
  go_enter Try.func28, Try.ntmps28
  go_wp2
  go_ret
  exact ⟨rfl, rfl⟩
section
variable {p q m p2 q2 m2 : Nat} {D E : Dk}
theorem dSameT (w : World) (h : DiskAt w p q m D) (h2 : DiskAt w p2 q2 m2 E) (he : D = E) : Calls Try.prog 38 #[.pointer (some ⟨p, 0, none⟩), .pointer (some ⟨p2, 0, none⟩)] w fun e w' => e = .returned (.bool true) ∧ Keeps noB w w' :=
  (same_calls w h h2).mono (fun e W' ⟨b, h1, h2, h3⟩ => ⟨by rw [h1, h2.2 he], h3⟩)
theorem dSameF (w : World) (h : DiskAt w p q m D) (h2 : DiskAt w p2 q2 m2 E) (he : D ≠ E) : Calls Try.prog 38 #[.pointer (some ⟨p, 0, none⟩), .pointer (some ⟨p2, 0, none⟩)] w fun e w' => e = .returned (.bool false) ∧ Keeps noB w w' :=
  (same_calls w h h2).mono (fun e W' ⟨b, h1, h2, h3⟩ => ⟨by rw [h1]; cases b with | false => rfl | true => exact absurd (h2.1 rfl) he, h3⟩)
theorem dWriteX {n e : Int} {W : World} (h : DiskAt W p q m D) (he : D.write n [120] = (e, E)) : Calls Try.prog 32 #[.pointer (some ⟨p, 0, none⟩), .int .i64 n, .string ⟨#[120]⟩] W fun r W' => r = .returned (.int .i64 e) ∧ DiskAt W' p q m E ∧ Keeps (dset p q m) W W' := dWrite h he
end
def nnD1 : Dk := ((Dk.zero 3).fuse 0).2
def nnD3 : Dk := ((Dk.zero 3).write 2 (ofB 9)).2
def nnD4 : Dk := (nnD3.write 0 (ofB 8)).2
def nnC1 : Dk := ((Dk.zero 3).write 0 (ofB 8)).2
def nnD5 : Dk := (nnD4.crash [false, true] 7 9).2
theorem nn_all : ∃ D0 D1 D3 D4 C1 D5 s, Dk.make 3 = some D0 ∧ D0.read 3 = (s, 5) ∧ D0.read (-1) = (s, 5) ∧ (D0.there.length : Int) = 3 ∧ D0.write 3 [120] = (5, D0) ∧ D0.write 0 [120] = (1, D0) ∧ D0.fuse (-1) = (1, D0) ∧ D0.crash [] 0 65 = (1, D0) ∧ D0.crash [] 0 (-1) = (1, D0) ∧
    D0.fuse 0 = (0, D1) ∧ D0 ≠ D1 ∧ D1.dead = true ∧ D1.fuse 3 = (42, D1) ∧ D1.fuse (-1) = (1, D1) ∧ D1.write 0 [120] = (1, D1) ∧ D1.write 0 (ofB 1) = (42, D1) ∧ D1.crash [] 5 64 = (0, D0) ∧
    D0.write 2 (ofB 9) = (0, D3) ∧ D3.write 0 (ofB 8) = (0, D4) ∧ D0.write 0 (ofB 8) = (0, C1) ∧ C1.write 2 (ofB 9) = (0, D4) ∧ D4.crash [false, true] 7 9 = (0, D5) ∧ D4 ≠ D5 ∧ D5.read 0 = (ofB 0, 0) ∧ D5.read 2 = (ofB 9, 0) :=
  ⟨Dk.zero 3, nnD1, nnD3, nnD4, nnC1, nnD5, [], by kernel_rfl, by kernel_rfl, by kernel_rfl, by kernel_rfl, by kernel_rfl, by kernel_rfl, by kernel_rfl, by kernel_rfl, by kernel_rfl, by kernel_rfl, fun h => absurd (congrArg Dk.left h) (by decide), by kernel_rfl, by kernel_rfl, by kernel_rfl, by kernel_rfl, by kernel_rfl, by kernel_rfl, by kernel_rfl, by kernel_rfl, by kernel_rfl, by kernel_rfl, by kernel_rfl, fun h => absurd (congrArg (fun d => d.aside.length) h) (by decide), by kernel_rfl, by kernel_rfl⟩
theorem nn_big : ∃ B, Dk.make 4096 = some B ∧ (B.there.length : Int) = 4096 := ⟨Dk.zero 4096, make_some (n := 4096) (by omega) (by omega), by show ((List.replicate 4096 _).length : Int) = 4096; rw [List.length_replicate]; rfl⟩
set_option maxRecDepth 20000 in
set_option maxHeartbeats 20000000 in
theorem diskNames_walk (w : World) : Calls Try.prog 10 #[] w fun e w' => e = .returned (.bool true) ∧ Keeps noB w w' := by
  obtain ⟨D0, D1, D3, D4, C1, D5, s, e0, e1, e2, e3, e4, e5, e6, e7, e8, e9, ne1, e10, e11, e12, e13, e14, e15, e16, e17, e18, e19, e20, ne2, e21, e22⟩ := nn_all
  obtain ⟨B, g0, g1⟩ := nn_big
  have n1 := fun W => new_bad 0 W (make_none (by omega))
  have n2 := fun W => new_bad (-1) W (make_none (by omega))
  have n3 := fun W => new_bad 4097 W (by kernel_rfl)
  have hw := fun W => works_calls W
  go_enter Try.func10, Try.ntmps10
  go_wp2_with (first | (go_at_call 24; refine (read_nil _ _).mono ?_; rintro e Wx ⟨rfl, rfl⟩) | (go_at_call 22; refine (hw _).mono ?_; rintro e W1 ⟨rfl, q1⟩) | (go_at_call 32; refine (write_nil _ _ _).mono ?_; rintro e Wx ⟨rfl, rfl⟩) | (go_at_call 31; refine (flush_nil _).mono ?_; rintro e Wx ⟨rfl, rfl⟩) | (go_at_call 35; refine (fuse_nil _ _).mono ?_; rintro e Wx ⟨rfl, rfl⟩) | (go_at_call 29; refine (crash_nil _ _ _ _).mono ?_; rintro e Wx ⟨rfl, rfl⟩) | (go_at_call 39; refine (sectors_nil _).mono ?_; rintro e Wx ⟨rfl, rfl⟩) | (go_at_call 30; refine (dead_nil _).mono ?_; rintro e Wx ⟨rfl, rfl⟩) | (go_at_call 27; refine (aside_nil _).mono ?_; rintro e Wx ⟨rfl, rfl⟩) | (go_at_call 28; refine (copy_nil _).mono ?_; rintro e Wx ⟨rfl, rfl⟩) | (go_at_call 38; refine (same_nil _).mono ?_; rintro e Wx ⟨rfl, rfl⟩))
  have hk := q1.alloc (.cells #[.int .i64 0, .int .i64 (-1), .int .i64 4097] 3)
  have f1 := heap_alloc_eq W1 (.cells #[.int .i64 0, .int .i64 (-1), .int .i64 4097] 3) _ rfl
  generalize hb1 : W1.heap.size = b1 at *
  go_loopw [81] (fun i wr => ∃ k : Nat, k ≤ 3 ∧ i = .int .i64 k ∧ wr.heap[b1]? = some (.cells #[.int .i64 0, .int .i64 (-1), .int .i64 4097] 3 (0, 0)) ∧ Keeps noB w wr) (fun i _ => 3 - (intOf i).toNat)
  case atStart => exact ⟨0, by omega, rfl, f1, hk⟩
  case round =>
    clear f1 hk
    obtain ⟨k, hk1, rfl, f1, hk⟩ := hrel
    have c0 := cell_blk f1 0 _ rfl
    have c1 := cell_blk f1 1 _ rfl
    have c2 := cell_blk f1 2 _ rfl
    obtain rfl | rfl | rfl | rfl : k = 0 ∨ k = 1 ∨ k = 2 ∨ k = 3 := by omega
    · go_wp2_with (go_at_call 16; refine (n1 _).mono ?_; rintro e Wx ⟨rfl, rfl⟩)
      exact ⟨⟨1, by omega, rfl, f1, hk⟩, by simp [intOf]⟩
    · go_wp2_with (go_at_call 16; refine (n2 _).mono ?_; rintro e Wx ⟨rfl, rfl⟩)
      exact ⟨⟨2, by omega, rfl, f1, hk⟩, by simp [intOf]⟩
    · go_wp2_with (go_at_call 16; refine (n3 _).mono ?_; rintro e Wx ⟨rfl, rfl⟩)
      exact ⟨⟨3, by omega, rfl, f1, hk⟩, by simp [intOf]⟩
    · clear n1 n2 n3 c0 c1 c2
      obtain ⟨B0, hB0⟩ : ∃ B0, B0 = w.heap.size := ⟨_, rfl⟩
      have hzz := hk.size
      go_wp2_with (first | (go_at_call 16; first | ((with_reducible refine (dNew e0).mono ?_); rintro e W2 ⟨p, q, j, rfl, hA, kx, lp, lq, lm⟩; have hz : B0 ≤ W2.heap.size := (by have := kx.size; omega); replace lp : B0 ≤ p := (by omega); replace lq : B0 ≤ q := (by omega); replace lm : B0 ≤ j := (by omega); replace hk := hk.trans kx; clear kx) | ((with_reducible refine (dNew g0).mono ?_); rintro e Wx ⟨p3, q3, j3, rfl, hC, kx, lp3, lq3, lm3⟩; have u1 := hA.lt_p; have u2 := hA.lt_q; have u3 := hA.lt_m; replace hA := hA.held kx; replace hB := hB.held kx; have zx := kx.size; (try simp only [World.size_alloc, World.size_drew] at zx); skip; replace hk := Keeps.trans_new (by first | exact hk | exact hk.alloc _ | exact (hk.alloc _).alloc _ | exact hk.drew | exact hk.drew.alloc _ | exact (hk.alloc _).drew | exact ((hk.alloc _).alloc _).drew) kx (fun k hk q => by first | exact q.elim | (simp only [dset] at q; omega) | omega | (dsimp only at q; omega)); replace hz := Nat.le_trans hz (Nat.le_trans (by omega) zx); clear kx zx)) | (go_at_call 33; (first | refine (of_at 0 _ (by decide)).mono ?_ | refine (of_at 1 _ (by decide)).mono ?_ | refine (of_at 8 _ (by decide)).mono ?_ | refine (of_at 9 _ (by decide)).mono ?_); rintro e Wx ⟨rfl, kx⟩; replace hA := ((by first | exact hA | exact hA.alloc _ | exact (hA.alloc _).alloc _ | exact hA.drew | exact hA.drew.alloc _ | exact (hA.alloc _).drew | exact ((hA.alloc _).alloc _).drew) : DiskAt _ _ _ _ _).held kx; (try (first | replace hB := hB.keep kx (by first | exact (fun q => q) | (simp only [dset]; omega) | omega | (dsimp only; omega)) (by first | exact (fun q => q) | (simp only [dset]; omega) | omega | (dsimp only; omega)) (by first | exact (fun q => q) | (simp only [dset]; omega) | omega | (dsimp only; omega)) | replace hB := (hB.alloc _).keep kx (by first | exact (fun q => q) | (simp only [dset]; omega) | omega | (dsimp only; omega)) (by first | exact (fun q => q) | (simp only [dset]; omega) | omega | (dsimp only; omega)) (by first | exact (fun q => q) | (simp only [dset]; omega) | omega | (dsimp only; omega)) | replace hB := hB.drew.keep kx (by first | exact (fun q => q) | (simp only [dset]; omega) | omega | (dsimp only; omega)) (by first | exact (fun q => q) | (simp only [dset]; omega) | omega | (dsimp only; omega)) (by first | exact (fun q => q) | (simp only [dset]; omega) | omega | (dsimp only; omega)))); (try (first | replace hC := hC.keep kx (by first | exact (fun q => q) | (simp only [dset]; omega) | omega | (dsimp only; omega)) (by first | exact (fun q => q) | (simp only [dset]; omega) | omega | (dsimp only; omega)) (by first | exact (fun q => q) | (simp only [dset]; omega) | omega | (dsimp only; omega)) | replace hC := (hC.alloc _).keep kx (by first | exact (fun q => q) | (simp only [dset]; omega) | omega | (dsimp only; omega)) (by first | exact (fun q => q) | (simp only [dset]; omega) | omega | (dsimp only; omega)) (by first | exact (fun q => q) | (simp only [dset]; omega) | omega | (dsimp only; omega)) | replace hC := hC.drew.keep kx (by first | exact (fun q => q) | (simp only [dset]; omega) | omega | (dsimp only; omega)) (by first | exact (fun q => q) | (simp only [dset]; omega) | omega | (dsimp only; omega)) (by first | exact (fun q => q) | (simp only [dset]; omega) | omega | (dsimp only; omega)))); have zx := kx.size; (try simp only [World.size_alloc, World.size_drew] at zx); skip; replace hk := Keeps.trans_new (by first | exact hk | exact hk.alloc _ | exact (hk.alloc _).alloc _ | exact hk.drew | exact hk.drew.alloc _ | exact (hk.alloc _).drew | exact ((hk.alloc _).alloc _).drew) kx (fun k hk q => by first | exact q.elim | (simp only [dset] at q; omega) | omega | (dsimp only at q; omega)); replace hz := Nat.le_trans hz (Nat.le_trans (by omega) zx); clear kx zx) | (go_at_call 40; (with_reducible refine (reads_calls _ (by first | exact hA | exact hA.alloc _ | exact (hA.alloc _).alloc _ | exact hA.drew | exact hA.drew.alloc _ | exact (hA.alloc _).drew | exact ((hA.alloc _).alloc _).drew) (by assumption)).mono ?_); rintro e Wx ⟨rfl, hx, kx⟩; (try (first | replace hB := hB.keep kx (by first | exact (fun q => q) | (simp only [dset]; omega) | omega | (dsimp only; omega)) (by first | exact (fun q => q) | (simp only [dset]; omega) | omega | (dsimp only; omega)) (by first | exact (fun q => q) | (simp only [dset]; omega) | omega | (dsimp only; omega)) | replace hB := (hB.alloc _).keep kx (by first | exact (fun q => q) | (simp only [dset]; omega) | omega | (dsimp only; omega)) (by first | exact (fun q => q) | (simp only [dset]; omega) | omega | (dsimp only; omega)) (by first | exact (fun q => q) | (simp only [dset]; omega) | omega | (dsimp only; omega)) | replace hB := hB.drew.keep kx (by first | exact (fun q => q) | (simp only [dset]; omega) | omega | (dsimp only; omega)) (by first | exact (fun q => q) | (simp only [dset]; omega) | omega | (dsimp only; omega)) (by first | exact (fun q => q) | (simp only [dset]; omega) | omega | (dsimp only; omega)))); (try (first | replace hC := hC.keep kx (by first | exact (fun q => q) | (simp only [dset]; omega) | omega | (dsimp only; omega)) (by first | exact (fun q => q) | (simp only [dset]; omega) | omega | (dsimp only; omega)) (by first | exact (fun q => q) | (simp only [dset]; omega) | omega | (dsimp only; omega)) | replace hC := (hC.alloc _).keep kx (by first | exact (fun q => q) | (simp only [dset]; omega) | omega | (dsimp only; omega)) (by first | exact (fun q => q) | (simp only [dset]; omega) | omega | (dsimp only; omega)) (by first | exact (fun q => q) | (simp only [dset]; omega) | omega | (dsimp only; omega)) | replace hC := hC.drew.keep kx (by first | exact (fun q => q) | (simp only [dset]; omega) | omega | (dsimp only; omega)) (by first | exact (fun q => q) | (simp only [dset]; omega) | omega | (dsimp only; omega)) (by first | exact (fun q => q) | (simp only [dset]; omega) | omega | (dsimp only; omega)))); have zx := kx.size; (try simp only [World.size_alloc, World.size_drew] at zx); skip; replace hk := Keeps.trans_new (by first | exact hk | exact hk.alloc _ | exact (hk.alloc _).alloc _ | exact hk.drew | exact hk.drew.alloc _ | exact (hk.alloc _).drew | exact ((hk.alloc _).alloc _).drew) kx (fun k hk q => by first | exact q.elim | (simp only [dset] at q; omega) | omega | (dsimp only at q; omega)); replace hz := Nat.le_trans hz (Nat.le_trans (by omega) zx); replace hA := hx; clear hx kx zx) | (go_at_call 24; (with_reducible refine (dRead (by first | exact hA | exact hA.alloc _ | exact (hA.alloc _).alloc _ | exact hA.drew | exact hA.drew.alloc _ | exact (hA.alloc _).drew | exact ((hA.alloc _).alloc _).drew) (by assumption)).mono ?_); rintro e Wx ⟨rfl, hx, kx⟩; (try (first | replace hB := hB.keep kx (by first | exact (fun q => q) | (simp only [dset]; omega) | omega | (dsimp only; omega)) (by first | exact (fun q => q) | (simp only [dset]; omega) | omega | (dsimp only; omega)) (by first | exact (fun q => q) | (simp only [dset]; omega) | omega | (dsimp only; omega)) | replace hB := (hB.alloc _).keep kx (by first | exact (fun q => q) | (simp only [dset]; omega) | omega | (dsimp only; omega)) (by first | exact (fun q => q) | (simp only [dset]; omega) | omega | (dsimp only; omega)) (by first | exact (fun q => q) | (simp only [dset]; omega) | omega | (dsimp only; omega)) | replace hB := hB.drew.keep kx (by first | exact (fun q => q) | (simp only [dset]; omega) | omega | (dsimp only; omega)) (by first | exact (fun q => q) | (simp only [dset]; omega) | omega | (dsimp only; omega)) (by first | exact (fun q => q) | (simp only [dset]; omega) | omega | (dsimp only; omega)))); (try (first | replace hC := hC.keep kx (by first | exact (fun q => q) | (simp only [dset]; omega) | omega | (dsimp only; omega)) (by first | exact (fun q => q) | (simp only [dset]; omega) | omega | (dsimp only; omega)) (by first | exact (fun q => q) | (simp only [dset]; omega) | omega | (dsimp only; omega)) | replace hC := (hC.alloc _).keep kx (by first | exact (fun q => q) | (simp only [dset]; omega) | omega | (dsimp only; omega)) (by first | exact (fun q => q) | (simp only [dset]; omega) | omega | (dsimp only; omega)) (by first | exact (fun q => q) | (simp only [dset]; omega) | omega | (dsimp only; omega)) | replace hC := hC.drew.keep kx (by first | exact (fun q => q) | (simp only [dset]; omega) | omega | (dsimp only; omega)) (by first | exact (fun q => q) | (simp only [dset]; omega) | omega | (dsimp only; omega)) (by first | exact (fun q => q) | (simp only [dset]; omega) | omega | (dsimp only; omega)))); have zx := kx.size; (try simp only [World.size_alloc, World.size_drew] at zx); skip; replace hk := Keeps.trans_new (by first | exact hk | exact hk.alloc _ | exact (hk.alloc _).alloc _ | exact hk.drew | exact hk.drew.alloc _ | exact (hk.alloc _).drew | exact ((hk.alloc _).alloc _).drew) kx (fun k hk q => by first | exact q.elim | (simp only [dset] at q; omega) | omega | (dsimp only at q; omega)); replace hz := Nat.le_trans hz (Nat.le_trans (by omega) zx); replace hA := hx; clear hx kx zx) | (go_at_call 32; (with_reducible refine (dWriteX (by first | exact hA | exact hA.alloc _ | exact (hA.alloc _).alloc _ | exact hA.drew | exact hA.drew.alloc _ | exact (hA.alloc _).drew | exact ((hA.alloc _).alloc _).drew) (by assumption)).mono ?_); rintro e Wx ⟨rfl, hx, kx⟩; (try (first | replace hB := hB.keep kx (by first | exact (fun q => q) | (simp only [dset]; omega) | omega | (dsimp only; omega)) (by first | exact (fun q => q) | (simp only [dset]; omega) | omega | (dsimp only; omega)) (by first | exact (fun q => q) | (simp only [dset]; omega) | omega | (dsimp only; omega)) | replace hB := (hB.alloc _).keep kx (by first | exact (fun q => q) | (simp only [dset]; omega) | omega | (dsimp only; omega)) (by first | exact (fun q => q) | (simp only [dset]; omega) | omega | (dsimp only; omega)) (by first | exact (fun q => q) | (simp only [dset]; omega) | omega | (dsimp only; omega)) | replace hB := hB.drew.keep kx (by first | exact (fun q => q) | (simp only [dset]; omega) | omega | (dsimp only; omega)) (by first | exact (fun q => q) | (simp only [dset]; omega) | omega | (dsimp only; omega)) (by first | exact (fun q => q) | (simp only [dset]; omega) | omega | (dsimp only; omega)))); (try (first | replace hC := hC.keep kx (by first | exact (fun q => q) | (simp only [dset]; omega) | omega | (dsimp only; omega)) (by first | exact (fun q => q) | (simp only [dset]; omega) | omega | (dsimp only; omega)) (by first | exact (fun q => q) | (simp only [dset]; omega) | omega | (dsimp only; omega)) | replace hC := (hC.alloc _).keep kx (by first | exact (fun q => q) | (simp only [dset]; omega) | omega | (dsimp only; omega)) (by first | exact (fun q => q) | (simp only [dset]; omega) | omega | (dsimp only; omega)) (by first | exact (fun q => q) | (simp only [dset]; omega) | omega | (dsimp only; omega)) | replace hC := hC.drew.keep kx (by first | exact (fun q => q) | (simp only [dset]; omega) | omega | (dsimp only; omega)) (by first | exact (fun q => q) | (simp only [dset]; omega) | omega | (dsimp only; omega)) (by first | exact (fun q => q) | (simp only [dset]; omega) | omega | (dsimp only; omega)))); have zx := kx.size; (try simp only [World.size_alloc, World.size_drew] at zx); skip; replace hk := Keeps.trans_new (by first | exact hk | exact hk.alloc _ | exact (hk.alloc _).alloc _ | exact hk.drew | exact hk.drew.alloc _ | exact (hk.alloc _).drew | exact ((hk.alloc _).alloc _).drew) kx (fun k hk q => by first | exact q.elim | (simp only [dset] at q; omega) | omega | (dsimp only at q; omega)); replace hz := Nat.le_trans hz (Nat.le_trans (by omega) zx); replace hA := hx; clear hx kx zx) | (go_at_call 32; (with_reducible refine (dWrite (by first | exact hA | exact hA.alloc _ | exact (hA.alloc _).alloc _ | exact hA.drew | exact hA.drew.alloc _ | exact (hA.alloc _).drew | exact ((hA.alloc _).alloc _).drew) (by assumption)).mono ?_); rintro e Wx ⟨rfl, hx, kx⟩; (try (first | replace hB := hB.keep kx (by first | exact (fun q => q) | (simp only [dset]; omega) | omega | (dsimp only; omega)) (by first | exact (fun q => q) | (simp only [dset]; omega) | omega | (dsimp only; omega)) (by first | exact (fun q => q) | (simp only [dset]; omega) | omega | (dsimp only; omega)) | replace hB := (hB.alloc _).keep kx (by first | exact (fun q => q) | (simp only [dset]; omega) | omega | (dsimp only; omega)) (by first | exact (fun q => q) | (simp only [dset]; omega) | omega | (dsimp only; omega)) (by first | exact (fun q => q) | (simp only [dset]; omega) | omega | (dsimp only; omega)) | replace hB := hB.drew.keep kx (by first | exact (fun q => q) | (simp only [dset]; omega) | omega | (dsimp only; omega)) (by first | exact (fun q => q) | (simp only [dset]; omega) | omega | (dsimp only; omega)) (by first | exact (fun q => q) | (simp only [dset]; omega) | omega | (dsimp only; omega)))); (try (first | replace hC := hC.keep kx (by first | exact (fun q => q) | (simp only [dset]; omega) | omega | (dsimp only; omega)) (by first | exact (fun q => q) | (simp only [dset]; omega) | omega | (dsimp only; omega)) (by first | exact (fun q => q) | (simp only [dset]; omega) | omega | (dsimp only; omega)) | replace hC := (hC.alloc _).keep kx (by first | exact (fun q => q) | (simp only [dset]; omega) | omega | (dsimp only; omega)) (by first | exact (fun q => q) | (simp only [dset]; omega) | omega | (dsimp only; omega)) (by first | exact (fun q => q) | (simp only [dset]; omega) | omega | (dsimp only; omega)) | replace hC := hC.drew.keep kx (by first | exact (fun q => q) | (simp only [dset]; omega) | omega | (dsimp only; omega)) (by first | exact (fun q => q) | (simp only [dset]; omega) | omega | (dsimp only; omega)) (by first | exact (fun q => q) | (simp only [dset]; omega) | omega | (dsimp only; omega)))); have zx := kx.size; (try simp only [World.size_alloc, World.size_drew] at zx); skip; replace hk := Keeps.trans_new (by first | exact hk | exact hk.alloc _ | exact (hk.alloc _).alloc _ | exact hk.drew | exact hk.drew.alloc _ | exact (hk.alloc _).drew | exact ((hk.alloc _).alloc _).drew) kx (fun k hk q => by first | exact q.elim | (simp only [dset] at q; omega) | omega | (dsimp only at q; omega)); replace hz := Nat.le_trans hz (Nat.le_trans (by omega) zx); replace hA := hx; clear hx kx zx) | (go_at_call 35; (with_reducible refine (dFuse (by first | exact hA | exact hA.alloc _ | exact (hA.alloc _).alloc _ | exact hA.drew | exact hA.drew.alloc _ | exact (hA.alloc _).drew | exact ((hA.alloc _).alloc _).drew) (by decide) (by assumption)).mono ?_); rintro e Wx ⟨rfl, hx, kx⟩; (try (first | replace hB := hB.keep kx (by first | exact (fun q => q) | (simp only [dset]; omega) | omega | (dsimp only; omega)) (by first | exact (fun q => q) | (simp only [dset]; omega) | omega | (dsimp only; omega)) (by first | exact (fun q => q) | (simp only [dset]; omega) | omega | (dsimp only; omega)) | replace hB := (hB.alloc _).keep kx (by first | exact (fun q => q) | (simp only [dset]; omega) | omega | (dsimp only; omega)) (by first | exact (fun q => q) | (simp only [dset]; omega) | omega | (dsimp only; omega)) (by first | exact (fun q => q) | (simp only [dset]; omega) | omega | (dsimp only; omega)) | replace hB := hB.drew.keep kx (by first | exact (fun q => q) | (simp only [dset]; omega) | omega | (dsimp only; omega)) (by first | exact (fun q => q) | (simp only [dset]; omega) | omega | (dsimp only; omega)) (by first | exact (fun q => q) | (simp only [dset]; omega) | omega | (dsimp only; omega)))); (try (first | replace hC := hC.keep kx (by first | exact (fun q => q) | (simp only [dset]; omega) | omega | (dsimp only; omega)) (by first | exact (fun q => q) | (simp only [dset]; omega) | omega | (dsimp only; omega)) (by first | exact (fun q => q) | (simp only [dset]; omega) | omega | (dsimp only; omega)) | replace hC := (hC.alloc _).keep kx (by first | exact (fun q => q) | (simp only [dset]; omega) | omega | (dsimp only; omega)) (by first | exact (fun q => q) | (simp only [dset]; omega) | omega | (dsimp only; omega)) (by first | exact (fun q => q) | (simp only [dset]; omega) | omega | (dsimp only; omega)) | replace hC := hC.drew.keep kx (by first | exact (fun q => q) | (simp only [dset]; omega) | omega | (dsimp only; omega)) (by first | exact (fun q => q) | (simp only [dset]; omega) | omega | (dsimp only; omega)) (by first | exact (fun q => q) | (simp only [dset]; omega) | omega | (dsimp only; omega)))); have zx := kx.size; (try simp only [World.size_alloc, World.size_drew] at zx); skip; replace hk := Keeps.trans_new (by first | exact hk | exact hk.alloc _ | exact (hk.alloc _).alloc _ | exact hk.drew | exact hk.drew.alloc _ | exact (hk.alloc _).drew | exact ((hk.alloc _).alloc _).drew) kx (fun k hk q => by first | exact q.elim | (simp only [dset] at q; omega) | omega | (dsimp only at q; omega)); replace hz := Nat.le_trans hz (Nat.le_trans (by omega) zx); replace hA := hx; clear hx kx zx) | (go_at_call 39; (with_reducible refine (dSectors hA (by assumption)).mono ?_); rintro e Wx ⟨rfl, rfl⟩) | (go_at_call 39; (with_reducible refine (dSectors hC (by assumption)).mono ?_); rintro e Wx ⟨rfl, rfl⟩) | (go_at_call 30; (refine (dDead (by first | exact hA | exact hA.alloc _ | exact (hA.alloc _).alloc _ | exact hA.drew | exact hA.drew.alloc _ | exact (hA.alloc _).drew | exact ((hA.alloc _).alloc _).drew) (by assumption)).mono ?_); rintro e Wx ⟨rfl, rfl⟩) | (go_at_call 32; (with_reducible refine (dWrite (hB : DiskAt _ _ _ _ _) (by assumption)).mono ?_); rintro e Wx ⟨rfl, hx, kx⟩; replace hA := hA.keep kx (by first | exact (fun q => q) | (simp only [dset]; omega) | omega | (dsimp only; omega)) (by first | exact (fun q => q) | (simp only [dset]; omega) | omega | (dsimp only; omega)) (by first | exact (fun q => q) | (simp only [dset]; omega) | omega | (dsimp only; omega)); have zx := kx.size; (try simp only [World.size_alloc, World.size_drew] at zx); skip; replace hk := Keeps.trans_new (by first | exact hk | exact hk.alloc _ | exact (hk.alloc _).alloc _ | exact hk.drew | exact hk.drew.alloc _ | exact (hk.alloc _).drew | exact ((hk.alloc _).alloc _).drew) kx (fun k hk q => by first | exact q.elim | (simp only [dset] at q; omega) | omega | (dsimp only at q; omega)); replace hz := Nat.le_trans hz (Nat.le_trans (by omega) zx); replace hB := hx; clear hx kx zx) | (go_at_call 29; (with_reducible refine (dCrash (by first | exact hA | exact hA.alloc _ | exact (hA.alloc _).alloc _ | exact hA.drew | exact hA.drew.alloc _ | exact (hA.alloc _).drew | exact ((hA.alloc _).alloc _).drew) (boolsAt_nil _) (fun h => absurd h (by decide)) (by assumption)).mono ?_); rintro e Wx ⟨rfl, hx, kx⟩; (try (first | replace hB := hB.keep kx (by first | exact (fun q => q) | (simp only [dset]; omega) | omega | (dsimp only; omega)) (by first | exact (fun q => q) | (simp only [dset]; omega) | omega | (dsimp only; omega)) (by first | exact (fun q => q) | (simp only [dset]; omega) | omega | (dsimp only; omega)) | replace hB := (hB.alloc _).keep kx (by first | exact (fun q => q) | (simp only [dset]; omega) | omega | (dsimp only; omega)) (by first | exact (fun q => q) | (simp only [dset]; omega) | omega | (dsimp only; omega)) (by first | exact (fun q => q) | (simp only [dset]; omega) | omega | (dsimp only; omega)) | replace hB := hB.drew.keep kx (by first | exact (fun q => q) | (simp only [dset]; omega) | omega | (dsimp only; omega)) (by first | exact (fun q => q) | (simp only [dset]; omega) | omega | (dsimp only; omega)) (by first | exact (fun q => q) | (simp only [dset]; omega) | omega | (dsimp only; omega)))); (try (first | replace hC := hC.keep kx (by first | exact (fun q => q) | (simp only [dset]; omega) | omega | (dsimp only; omega)) (by first | exact (fun q => q) | (simp only [dset]; omega) | omega | (dsimp only; omega)) (by first | exact (fun q => q) | (simp only [dset]; omega) | omega | (dsimp only; omega)) | replace hC := (hC.alloc _).keep kx (by first | exact (fun q => q) | (simp only [dset]; omega) | omega | (dsimp only; omega)) (by first | exact (fun q => q) | (simp only [dset]; omega) | omega | (dsimp only; omega)) (by first | exact (fun q => q) | (simp only [dset]; omega) | omega | (dsimp only; omega)) | replace hC := hC.drew.keep kx (by first | exact (fun q => q) | (simp only [dset]; omega) | omega | (dsimp only; omega)) (by first | exact (fun q => q) | (simp only [dset]; omega) | omega | (dsimp only; omega)) (by first | exact (fun q => q) | (simp only [dset]; omega) | omega | (dsimp only; omega)))); have zx := kx.size; (try simp only [World.size_alloc, World.size_drew] at zx); skip; replace hk := Keeps.trans_new (by first | exact hk | exact hk.alloc _ | exact (hk.alloc _).alloc _ | exact hk.drew | exact hk.drew.alloc _ | exact (hk.alloc _).drew | exact ((hk.alloc _).alloc _).drew) kx (fun k hk q => by first | exact q.elim | (simp only [dset] at q; omega) | omega | (dsimp only at q; omega)); replace hz := Nat.le_trans hz (Nat.le_trans (by omega) zx); replace hA := hx; clear hx kx zx) | (go_at_call 29; (with_reducible refine (dCrash (by first | exact hA | exact hA.alloc _ | exact (hA.alloc _).alloc _ | exact hA.drew | exact hA.drew.alloc _ | exact (hA.alloc _).drew | exact ((hA.alloc _).alloc _).drew) (boolsAt_new2 _ false true _) (fun _ a n c e => by cases e; have y1 := hA.lt_p; have y2 := hA.lt_q; have y3 := hA.lt_m; simp only [dset]; omega) (by assumption)).mono ?_); rintro e Wx ⟨rfl, hx, kx⟩; (try (first | replace hB := hB.keep kx (by first | exact (fun q => q) | (simp only [dset]; omega) | omega | (dsimp only; omega)) (by first | exact (fun q => q) | (simp only [dset]; omega) | omega | (dsimp only; omega)) (by first | exact (fun q => q) | (simp only [dset]; omega) | omega | (dsimp only; omega)) | replace hB := (hB.alloc _).keep kx (by first | exact (fun q => q) | (simp only [dset]; omega) | omega | (dsimp only; omega)) (by first | exact (fun q => q) | (simp only [dset]; omega) | omega | (dsimp only; omega)) (by first | exact (fun q => q) | (simp only [dset]; omega) | omega | (dsimp only; omega)) | replace hB := hB.drew.keep kx (by first | exact (fun q => q) | (simp only [dset]; omega) | omega | (dsimp only; omega)) (by first | exact (fun q => q) | (simp only [dset]; omega) | omega | (dsimp only; omega)) (by first | exact (fun q => q) | (simp only [dset]; omega) | omega | (dsimp only; omega)))); (try (first | replace hC := hC.keep kx (by first | exact (fun q => q) | (simp only [dset]; omega) | omega | (dsimp only; omega)) (by first | exact (fun q => q) | (simp only [dset]; omega) | omega | (dsimp only; omega)) (by first | exact (fun q => q) | (simp only [dset]; omega) | omega | (dsimp only; omega)) | replace hC := (hC.alloc _).keep kx (by first | exact (fun q => q) | (simp only [dset]; omega) | omega | (dsimp only; omega)) (by first | exact (fun q => q) | (simp only [dset]; omega) | omega | (dsimp only; omega)) (by first | exact (fun q => q) | (simp only [dset]; omega) | omega | (dsimp only; omega)) | replace hC := hC.drew.keep kx (by first | exact (fun q => q) | (simp only [dset]; omega) | omega | (dsimp only; omega)) (by first | exact (fun q => q) | (simp only [dset]; omega) | omega | (dsimp only; omega)) (by first | exact (fun q => q) | (simp only [dset]; omega) | omega | (dsimp only; omega)))); have zx := kx.size; (try simp only [World.size_alloc, World.size_drew] at zx); skip; replace hk := Keeps.trans_new (by first | exact hk | exact hk.alloc _ | exact (hk.alloc _).alloc _ | exact hk.drew | exact hk.drew.alloc _ | exact (hk.alloc _).drew | exact ((hk.alloc _).alloc _).drew) kx (fun k hk q => by first | exact q.elim | (simp only [dset] at q; omega) | omega | (dsimp only at q; omega)); replace hz := Nat.le_trans hz (Nat.le_trans (by omega) zx); replace hA := hx; clear hx kx zx) | (go_at_call 28; (refine (copy_calls _ (by first | exact hA | exact hA.alloc _ | exact (hA.alloc _).alloc _ | exact hA.drew | exact hA.drew.alloc _ | exact (hA.alloc _).drew | exact ((hA.alloc _).alloc _).drew)).mono ?_); rintro e Wx ⟨p2, q2, m2, rfl, hB, kx, x1, x2, x3⟩; have y1 := hA.lt_p; have y2 := hA.lt_q; have y3 := hA.lt_m; have w1 : B0 ≤ p2 := (by omega); have w2 : B0 ≤ q2 := (by omega); have w3 : B0 ≤ m2 := (by omega); have zx := kx.size; (try simp only [World.size_alloc, World.size_drew] at zx); skip; replace hk := Keeps.trans_new (by first | exact hk | exact hk.alloc _ | exact (hk.alloc _).alloc _ | exact hk.drew | exact hk.drew.alloc _ | exact (hk.alloc _).drew | exact ((hk.alloc _).alloc _).drew) kx (fun k hk q => by first | exact q.elim | (simp only [dset] at q; omega) | omega | (dsimp only at q; omega)); replace hz := Nat.le_trans hz (Nat.le_trans (by omega) zx); replace hA := ((by first | exact hA | exact hA.alloc _ | exact (hA.alloc _).alloc _ | exact hA.drew | exact hA.drew.alloc _ | exact (hA.alloc _).drew | exact ((hA.alloc _).alloc _).drew) : DiskAt _ _ _ _ _).held kx; clear kx zx; skip) | (go_at_call 38; (with_reducible refine (same_one _ _).mono ?_); rintro e Wx ⟨rfl, rfl⟩) | (go_at_call 38; (first | with_reducible refine (dSameT _ hA hB rfl).mono ?_ | with_reducible refine (dSameT _ hB hA rfl).mono ?_ | with_reducible refine (dSameF _ hB hA (by assumption)).mono ?_); rintro e Wx ⟨rfl, kx⟩; replace hA := ((by first | exact hA | exact hA.alloc _ | exact (hA.alloc _).alloc _ | exact hA.drew | exact hA.drew.alloc _ | exact (hA.alloc _).drew | exact ((hA.alloc _).alloc _).drew) : DiskAt _ _ _ _ _).held kx; (try (first | replace hB := hB.keep kx (by first | exact (fun q => q) | (simp only [dset]; omega) | omega | (dsimp only; omega)) (by first | exact (fun q => q) | (simp only [dset]; omega) | omega | (dsimp only; omega)) (by first | exact (fun q => q) | (simp only [dset]; omega) | omega | (dsimp only; omega)) | replace hB := (hB.alloc _).keep kx (by first | exact (fun q => q) | (simp only [dset]; omega) | omega | (dsimp only; omega)) (by first | exact (fun q => q) | (simp only [dset]; omega) | omega | (dsimp only; omega)) (by first | exact (fun q => q) | (simp only [dset]; omega) | omega | (dsimp only; omega)) | replace hB := hB.drew.keep kx (by first | exact (fun q => q) | (simp only [dset]; omega) | omega | (dsimp only; omega)) (by first | exact (fun q => q) | (simp only [dset]; omega) | omega | (dsimp only; omega)) (by first | exact (fun q => q) | (simp only [dset]; omega) | omega | (dsimp only; omega)))); (try (first | replace hC := hC.keep kx (by first | exact (fun q => q) | (simp only [dset]; omega) | omega | (dsimp only; omega)) (by first | exact (fun q => q) | (simp only [dset]; omega) | omega | (dsimp only; omega)) (by first | exact (fun q => q) | (simp only [dset]; omega) | omega | (dsimp only; omega)) | replace hC := (hC.alloc _).keep kx (by first | exact (fun q => q) | (simp only [dset]; omega) | omega | (dsimp only; omega)) (by first | exact (fun q => q) | (simp only [dset]; omega) | omega | (dsimp only; omega)) (by first | exact (fun q => q) | (simp only [dset]; omega) | omega | (dsimp only; omega)) | replace hC := hC.drew.keep kx (by first | exact (fun q => q) | (simp only [dset]; omega) | omega | (dsimp only; omega)) (by first | exact (fun q => q) | (simp only [dset]; omega) | omega | (dsimp only; omega)) (by first | exact (fun q => q) | (simp only [dset]; omega) | omega | (dsimp only; omega)))); have zx := kx.size; (try simp only [World.size_alloc, World.size_drew] at zx); skip; replace hk := Keeps.trans_new (by first | exact hk | exact hk.alloc _ | exact (hk.alloc _).alloc _ | exact hk.drew | exact hk.drew.alloc _ | exact (hk.alloc _).drew | exact ((hk.alloc _).alloc _).drew) kx (fun k hk q => by first | exact q.elim | (simp only [dset] at q; omega) | omega | (dsimp only at q; omega)); replace hz := Nat.le_trans hz (Nat.le_trans (by omega) zx); clear kx zx))
      go_ret
      exact ⟨rfl, (by first | exact hk | exact hk.alloc _ | exact (hk.alloc _).alloc _ | exact hk.drew | exact hk.drew.alloc _ | exact (hk.alloc _).drew | exact ((hk.alloc _).alloc _).drew)⟩
end Go.Proofs.Ytckopikeegegkaa
/- REF3: the reference disk in memory; its small contracts. -/
namespace Go.Proofs.Ytckopikeegegkaa
open Go.RowKit Go.MapKept Go.Shelf
set_option linter.unusedSimpArgs false
set_option linter.unusedVariables false
abbrev strC (s : Str) : Value := .string (bs s)
def encK (p : Nat × Str) : List Value := [.int .i64 p.1, .string (bs p.2)]
/-- What lies aside, as a row of pairs. -/
def KeptAt (W : World) (va : Value) (lo hi : Nat) (A : List (Nat × Str)) : Prop :=
  (va = .slice none 0 0 ∧ A = []) ∨ ∃ g c rest, va = .slice (some ⟨g, 0, none⟩) A.length c ∧ lo ≤ g ∧ g < hi ∧ W.heap[g]? = some (.cells (A.flatMap encK ++ rest).toArray 108 (0, 0))
def ThereAt (W : World) (vt : Value) (lo hi : Nat) (T : List Str) : Prop :=
  ∃ g c rest, vt = .slice (some ⟨g, 0, none⟩) T.length c ∧ lo ≤ g ∧ g < hi ∧ W.heap[g]? = some (.cells (T.map strC ++ rest).toArray 9 (0, 0))
structure RefV (W : World) (r lo hi : Nat) (D : Dk) (vt va : Value) : Prop where
  box : W.heap[r]? = some (.cells #[vt, va, .int .i64 D.left] 106 (0, 0))
  there : ThereAt W vt lo hi D.there
  aside : KeptAt W va lo hi D.aside
  lo_r : lo ≤ r
  r_hi : r < hi
  hi_w : hi ≤ W.heap.size
def RefAt (W : World) (r lo hi : Nat) (D : Dk) : Prop := ∃ vt va, RefV W r lo hi D vt va
theorem KeptAt.keep {S : Nat → Prop} {W W' : World} {va : Value} {lo hi : Nat} {A : List (Nat × Str)} (h : KeptAt W va lo hi A) (k : Keeps S W W') (hS : ∀ b, lo ≤ b → b < hi → ¬ S b) : KeptAt W' va lo hi A := by
  rcases h with h | ⟨g, c, rest, h1, h2, h3, h4⟩
  · exact .inl h
  · exact .inr ⟨g, c, rest, h1, h2, h3, carry k h4 (hS g h2 h3)⟩
theorem KeptAt.raise {W : World} {va : Value} {lo hi hi' : Nat} {A : List (Nat × Str)} (h : KeptAt W va lo hi A) (hh : hi ≤ hi') : KeptAt W va lo hi' A := by
  rcases h with h | ⟨g, c, rest, h1, h2, h3, h4⟩
  · exact .inl h
  · exact .inr ⟨g, c, rest, h1, h2, by omega, h4⟩
theorem ThereAt.keep {S : Nat → Prop} {W W' : World} {va : Value} {lo hi : Nat} {A : List Str} (h : ThereAt W va lo hi A) (k : Keeps S W W') (hS : ∀ b, lo ≤ b → b < hi → ¬ S b) : ThereAt W' va lo hi A := by
  obtain ⟨g, c, rest, h1, h2, h3, h4⟩ := h
  exact ⟨g, c, rest, h1, h2, h3, carry k h4 (hS g h2 h3)⟩
theorem ThereAt.raise {W : World} {va : Value} {lo hi hi' : Nat} {A : List Str} (h : ThereAt W va lo hi A) (hh : hi ≤ hi') : ThereAt W va lo hi' A := by
  obtain ⟨g, c, rest, h1, h2, h3, h4⟩ := h
  exact ⟨g, c, rest, h1, h2, by omega, h4⟩
theorem RefAt.keep {S : Nat → Prop} {W W' : World} {r lo hi : Nat} {D : Dk} (h : RefAt W r lo hi D) (k : Keeps S W W') (hS : ∀ b, lo ≤ b → b < hi → ¬ S b) : RefAt W' r lo hi D := by
  obtain ⟨vt, va, h1, h2, h3, h4, h5, h6⟩ := h
  exact ⟨vt, va, carry k h1 (hS r h4 h5), h2.keep k hS, h3.keep k hS, h4, h5, Nat.le_trans h6 k.size⟩
theorem RefAt.raise {W : World} {r lo hi hi' : Nat} {D : Dk} (h : RefAt W r lo hi D) (hh : hi ≤ hi') (hw : hi' ≤ W.heap.size) : RefAt W r lo hi' D := by
  obtain ⟨vt, va, h1, h2, h3, h4, h5, h6⟩ := h
  exact ⟨vt, va, h1, h2.raise hh, h3.raise hh, h4, by omega, hw⟩
/-- The box is stored to: what the two slices hold stands. -/
theorem KeptAt.set {W : World} {va : Value} {lo hi r : Nat} {A : List (Nat × Str)} {cs : Array Value} (h : KeptAt W va lo hi A) (hb : W.heap[r]? = some (.cells cs 106 (0, 0))) (i : Nat) (v : Value) : KeptAt (W.setCell ⟨r, i, none⟩ v) va lo hi A := by
  rcases h with h | ⟨g, c, rest, h1, h2, h3, h4⟩
  · exact .inl h
  · refine .inr ⟨g, c, rest, h1, h2, h3, ?_⟩
    have hne : g ≠ r := by
      intro e; subst e; rw [hb] at h4; simp at h4
    rw [heap_setCell_ne _ _ _ _ _ hne]; exact h4
theorem ThereAt.set {W : World} {va : Value} {lo hi r : Nat} {A : List Str} {cs : Array Value} (h : ThereAt W va lo hi A) (hb : W.heap[r]? = some (.cells cs 106 (0, 0))) (i : Nat) (v : Value) : ThereAt (W.setCell ⟨r, i, none⟩ v) va lo hi A := by
  obtain ⟨g, c, rest, h1, h2, h3, h4⟩ := h
  refine ⟨g, c, rest, h1, h2, h3, ?_⟩
  have hne : g ≠ r := by
    intro e; subst e; rw [hb] at h4; simp at h4
  rw [heap_setCell_ne _ _ _ _ _ hne]; exact h4
section
variable {r lo hi : Nat} {D : Dk}
set_option maxHeartbeats 1000000 in
theorem rdead_calls (w : World) (h : RefAt w r lo hi D) : Calls Try.prog 63 #[.pointer (some ⟨r, 0, none⟩)] w fun e w' => e = .returned (.bool D.dead) ∧ w = w' := by
  obtain ⟨vt, va, h1, h2, h3, h4, h5, h6⟩ := h
  have c2 := cell_blk h1 2 _ rfl
  have e : D.dead = (D.left == 0) := by unfold Dk.dead; rfl
  rw [e]
  go_enter Try.func63, Try.ntmps63
  go_wp2
  go_ret
  exact ⟨rfl, rfl⟩
theorem RefAt.setLeft {W : World} (h : RefAt W r lo hi D) (x : Int) : RefAt (W.setCell ⟨r, 2, none⟩ (.int .i64 x)) r lo hi { D with left := x } := by
  obtain ⟨vt, va, h1, h2, h3, h4, h5, h6⟩ := h
  exact ⟨vt, va, by rw [heap_setCell_same W r 2 _ _ _ h1]; rfl, h2.set h1 _ _, h3.set h1 _ _, h4, h5, by rw [World.size_setCell]; exact h6⟩
theorem setr (W : World) (i : Nat) (v : Value) : Keeps (fun k => k = r) W (W.setCell ⟨r, i, none⟩ v) := (Keeps.refl (fun k => k = r) W).setCell (fun _ => rfl) _
set_option maxHeartbeats 1000000 in
theorem rburn_dead (w : World) (h : RefAt w r lo hi D) (h0 : D.left = 0) : Calls Try.prog 67 #[.pointer (some ⟨r, 0, none⟩)] w fun e w' => e = .returned (.int .i64 42) ∧ w = w' := by
  obtain ⟨vt, va, h1, h2, h3, h4, h5, h6⟩ := h
  have c2 := cell_blk h1 2 _ rfl
  rw [h0] at c2
  go_enter Try.func67, Try.ntmps67
  go_wp2
  go_ret
  exact ⟨rfl, rfl⟩
set_option maxHeartbeats 1000000 in
theorem rburn_good (w : World) (h : RefAt w r lo hi D) (h0 : D.left ≠ 0) (hl : -1 ≤ D.left) (hm : D.left ≤ 9223372036854775807) : Calls Try.prog 67 #[.pointer (some ⟨r, 0, none⟩)] w fun e w' => e = .returned (.int .i64 0) ∧ RefAt w' r lo hi { D with left := Dk.burnt D.left } ∧ Keeps (fun k => k = r) w w' := by
  have h' := h
  obtain ⟨vt, va, h1, h2, h3, h4, h5, h6⟩ := h'
  have c2 := cell_blk h1 2 _ rfl
  have hf := frozen_blk h1 2
  have k0 : (D.left == 0) = false := by simpa using h0
  by_cases hp : 0 < D.left
  · have k1 : decide (0 < D.left) = true := by simpa using hp
    have eb : Dk.burnt D.left = D.left - 1 := by unfold Dk.burnt; rw [if_pos hp]
    have ew : wrap64 (D.left - 1) = D.left - 1 := IntWalk.wrap64_in _ (by omega)
    rw [eb]
    go_enter Try.func67, Try.ntmps67
    go_wp2
    go_ret
    exact ⟨rfl, h.setLeft _, setr _ _ _⟩
  · have k1 : decide (0 < D.left) = false := by simpa using hp
    have eb : Dk.burnt D.left = D.left := by unfold Dk.burnt; rw [if_neg hp]
    rw [eb]
    go_enter Try.func67, Try.ntmps67
    go_wp2
    go_ret
    exact ⟨rfl, h, Keeps.refl _ _⟩
set_option maxHeartbeats 1000000 in
theorem rfuse_calls (n : Int) (w : World) (h : RefAt w r lo hi D) : Calls Try.prog 49 #[.pointer (some ⟨r, 0, none⟩), .int .i64 n] w fun e w' => e = .returned (.int .i64 (D.fuse n).1) ∧ RefAt w' r lo w'.heap.size (D.fuse n).2 ∧ Keeps (fun k => k = r) w w' := by
  have h' := h
  obtain ⟨vt, va, g1, h2, h3, h4, h5, h6⟩ := h'
  have c2 := cell_blk g1 2 _ rfl
  have hf := frozen_blk g1 2
  by_cases h0 : n < 0
  · have e : D.fuse n = (1, D) := by simp [Dk.fuse, h0]
    rw [e]
    have k0 : decide (n < 0) = true := by simpa using h0
    go_enter Try.func49, Try.ntmps49
    go_wp2
    go_ret
    exact ⟨rfl, h.raise h6 (Nat.le_refl _), Keeps.refl _ _⟩
  · have k0 : decide (n < 0) = false := by simpa using h0
    by_cases h1 : D.left = 0
    · have e : D.fuse n = (42, D) := by simp [Dk.fuse, h0, h1]
      rw [e]
      rw [h1] at c2
      go_enter Try.func49, Try.ntmps49
      go_wp2
      go_ret
      exact ⟨rfl, h.raise h6 (Nat.le_refl _), Keeps.refl _ _⟩
    · have e : D.fuse n = (0, { D with left := n }) := by simp [Dk.fuse, h0, h1]
      rw [e]
      have k1 : (D.left == 0) = false := by simpa using h1
      go_enter Try.func49, Try.ntmps49
      go_wp2
      go_ret
      exact ⟨rfl, (h.setLeft n).raise (by rw [World.size_setCell]; exact h6) (Nat.le_refl _), setr _ _ _⟩
end
end Go.Proofs.Ytckopikeegegkaa
/- REF3B: the reference disk: read. -/
namespace Go.Proofs.Ytckopikeegegkaa
open Go.RowKit Go.MapKept Go.Shelf
set_option linter.unusedSimpArgs false
set_option linter.unusedVariables false
theorem encK_at (A : List (Nat × Str)) (rest : List Value) (k : Nat) (hk : k < A.length) : (A.flatMap encK ++ rest)[k * 2]? = some (.int .i64 (A[k].1 : Nat)) ∧ (A.flatMap encK ++ rest)[k * 2 + 1]? = some (.string (bs A[k].2)) := by
  induction A generalizing k with
  | nil => simp at hk
  | cons p A ih =>
    cases k with
    | zero => exact ⟨rfl, rfl⟩
    | succ k =>
      have h := ih k (by simpa using hk)
      have e1 : (k + 1) * 2 = k * 2 + 1 + 1 := by omega
      rw [List.flatMap_cons, e1]
      exact h
theorem encK_len (A : List (Nat × Str)) : (A.flatMap encK).length = A.length * 2 := by
  induction A with
  | nil => rfl
  | cons p A ih => rw [List.flatMap_cons, List.length_append, ih]; simp [encK]; omega
/-- The pair at k. -/
theorem KeptAt.at_ {W : World} {ad : Option Addr} {n c lo hi : Nat} {A : List (Nat × Str)} (h : KeptAt W (.slice ad n c) lo hi A) (k : Nat) (hk : k < A.length) : ∃ g, ad = some ⟨g, 0, none⟩ ∧ lo ≤ g ∧ g < hi ∧ W.cell? ⟨g, k * 2, none⟩ = some (.int .i64 (A[k].1 : Nat)) ∧ W.cell? ⟨g, k * 2 + 1, none⟩ = some (.string (bs A[k].2)) := by
  rcases h with ⟨_, rfl⟩ | ⟨g, c', rest, e, h2, h3, h4⟩
  · simp at hk
  · cases e
    have := encK_at A rest k hk
    exact ⟨g, rfl, h2, h3, cell_blk h4 _ _ (by simpa using this.1), cell_blk h4 _ _ (by simpa using this.2)⟩
theorem KeptAt.form {W : World} {v : Value} {lo hi : Nat} {A : List (Nat × Str)} (h : KeptAt W v lo hi A) : ∃ ad c, v = .slice ad A.length c := by
  rcases h with ⟨rfl, rfl⟩ | ⟨g, c', rest, e, h2, h3, h4⟩
  · exact ⟨none, 0, rfl⟩
  · exact ⟨_, _, e⟩
theorem look_none_of {n : Nat} {A : List (Nat × Str)} (h : ∀ i (hi : i < A.length), A[i].1 ≠ n) : Dk.look n A = none := by
  induction A with
  | nil => rfl
  | cons p A ih =>
    unfold Dk.look
    rw [if_neg (show p.1 ≠ n from h 0 (by simp)), ih (fun i hi => h (i + 1) (by simpa using hi))]
theorem look_at {n : Nat} {A : List (Nat × Str)} (k : Nat) (hk : k < A.length) (he : A[k].1 = n) (h : ∀ i (hi : i < A.length), i < k → A[i].1 ≠ n) : Dk.look n A = some A[k].2 := by
  induction A generalizing k with
  | nil => simp at hk
  | cons p A ih =>
    unfold Dk.look
    cases k with
    | zero => rw [if_pos (by exact he)]; rfl
    | succ k =>
      rw [if_neg (show p.1 ≠ n from h 0 (by simp) (by omega))]
      exact ih k (by simpa using hk) (by exact he) (fun i hi hik => h (i + 1) (by simpa using hi) (by omega))
section
variable {r lo hi : Nat} {D : Dk}
set_option maxRecDepth 20000 in
set_option maxHeartbeats 2000000 in
theorem rread_calls (n : Int) (w : World) (h : RefAt w r lo hi D) (hw : D.Wf) : Calls Try.prog 52 #[.pointer (some ⟨r, 0, none⟩), .int .i64 n] w fun e w' => e = .returned (.tuple #[.string (bs (D.read n).1), .int .i64 (D.read n).2]) ∧ w = w' := by
  obtain ⟨vt, va, g1, ⟨gt, ct, rt, rfl, _, _, h2⟩, h3, h4, h5, h6⟩ := h
  obtain ⟨ad, ca, rfl⟩ := h3.form
  have hal := aside_len hw
  have hsm := hw.small
  have c0 := cell_blk g1 0 (.slice (some ⟨gt, 0, none⟩) D.there.length ct) rfl
  have c1 := cell_blk g1 1 (.slice ad D.aside.length ca) rfl
  by_cases hh : D.has n = true
  · have hn : 0 ≤ n ∧ n < D.there.length := by unfold Dk.has at hh; simpa using hh
    obtain ⟨m, rfl⟩ : ∃ m : Nat, n = m := ⟨n.toNat, by omega⟩
    have er : D.read m = (D.now m, 0) := by unfold Dk.read; rw [if_pos hh]; rfl
    rw [er]
    have k0 : decide ((m : Int) < 0) = false := by simp
    have k1 : decide ((m : Int) ≥ (D.there.length : Int)) = false := by simp; omega
    have k1' : decide ((D.there.length : Int) ≤ (m : Int)) = false := by simp; omega
    go_enter Try.func52, Try.ntmps52
    go_wp2_with fail
    go_loopw [6] (fun i wr => ∃ k : Nat, k ≤ D.aside.length ∧ i = .int .i64 k ∧ (∀ j (hj : j < D.aside.length), j < k → D.aside[j].1 ≠ m) ∧ w = wr) (fun i _ => D.aside.length - (intOf i).toNat)
    case atStart => exact ⟨0, by omega, rfl, fun j _ hj => by omega, rfl⟩
    case round =>
      obtain ⟨k, hk1, rfl, hno, rfl⟩ := hrel
      by_cases c : k < D.aside.length
      · have d1 : decide ((k : Int) < (D.aside.length : Int)) = true := by rw [decide_eq_true_eq]; omega
        obtain ⟨g, rfl, _, _, e0, e1⟩ := h3.at_ k c
        by_cases hm : D.aside[k].1 = m
        · have d2 : (((D.aside[k].1 : Nat) : Int) == (m : Int)) = true := by rw [beq_iff_eq, hm]
          have ew : D.now m = D.aside[k].2 := by unfold Dk.now; rw [look_at k c hm (fun i hi hik => hno i hi hik)]; rfl
          clear hno
          generalize D.aside[k] = q at *
          go_wp2
          go_ret2
          exact ⟨by rw [ew]; rfl, rfl⟩
        · have d2 : (((D.aside[k].1 : Nat) : Int) == (m : Int)) = false := by rw [beq_eq_false_iff_ne]; omega
          have hno' : ∀ j (hj : j < D.aside.length), j < k + 1 → D.aside[j].1 ≠ m := fun j hj hjk => by
            by_cases e : j = k
            · subst e; exact hm
            · exact hno j hj (by omega)
          clear hm
          generalize D.aside[k] = q at *
          go_wp2
          exact ⟨⟨k + 1, by omega, by simp, hno', by trivial⟩, by simp [intOf]; omega⟩
      · have d1 : decide ((k : Int) < (D.aside.length : Int)) = false := by rw [decide_eq_false_iff_not]; omega
        have ew : D.now m = D.there.getD m [] := by unfold Dk.now; rw [look_none_of (fun i hi => hno i hi (by omega))]; rfl
        have e0 : w.cell? ⟨gt, m, none⟩ = some (.string (bs (D.there.getD m []))) := cell_blk h2 m _ (by
          have : m < D.there.length := by omega
          rw [List.getElem?_toArray, List.getElem?_append_left (by simpa using this)]; simp [this, List.getD_eq_getElem?_getD])
        go_wp2
        go_ret2
        exact ⟨by rw [ew]; rfl, rfl⟩
  · have er : D.read n = ([], 5) := by unfold Dk.read; rw [if_neg hh]
    rw [er]
    by_cases k0 : n < 0
    · have k0 : decide (n < 0) = true := by simpa using k0
      go_enter Try.func52, Try.ntmps52
      go_wp2
      go_ret2
      exact ⟨rfl, rfl⟩
    · have hn : (D.there.length : Int) ≤ n := by unfold Dk.has at hh; simp at hh; omega
      have k0 : decide (n < 0) = false := by simpa using k0
      have k1' : decide ((D.there.length : Int) ≤ n) = true := by simpa using hn
      go_enter Try.func52, Try.ntmps52
      go_wp2
      go_ret2
      exact ⟨rfl, rfl⟩
end
end Go.Proofs.Ytckopikeegegkaa
/- REF3C: the reference disk: with, flush, crash. -/
namespace Go.Proofs.Ytckopikeegegkaa
open Go.RowKit Go.MapKept Go.Shelf
set_option linter.unusedSimpArgs false
set_option linter.unusedVariables false
theorem info_str : (Try.prog.info? 9).map (fun i => (i.zero, i.size, i.bytes)) = some (some (.string ⟨#[]⟩), 1, 16) := by kernel_rfl
theorem info_kept : (Try.prog.info? 108).map (fun i => (i.zero, i.size, i.bytes)) = some (some (.agg #[.int .i64 0, .string ⟨#[]⟩]), 2, 24) := by kernel_rfl
theorem rs_none {fn : Func} (h : fn.results = #[]) (tmps : Array Value) (P : Program) (w : World) : (results fn tmps).run P w = .ok (.tuple #[]) w := by simp [results, h]
/-- An own row that is not empty. -/
theorem own_some {W : World} {b n : Nat} {e : TypeId} {v : Value} {xs : List Value} (h : W.ownsRow b e 1 v (0 + n) ([] ++ xs)) (hn : 1 ≤ n) : ∃ g cap rest, v = .slice (some ⟨g, 0, none⟩) n cap ∧ b ≤ g ∧ W.heap[g]? = some (.cells (xs ++ rest).toArray e (0, 0)) := by
  obtain ⟨h1, ⟨rfl, h0⟩ | ⟨g', cap', cur, rfl, hb, hh, hc, hm, hcs, htk⟩⟩ := h
  · omega
  · refine ⟨g', cap', cur.toList.drop n, by simp, hb, ?_⟩
    rw [hh]
    congr 2
    apply Array.ext'
    simp only [List.nil_append, Nat.zero_add, Nat.mul_one] at htk
    rw [← htk]
    simp
theorem Keeps.weak {S : Nat → Prop} {W W' : World} (h : Keeps noB W W') : Keeps S W W' := ⟨h.os, h.tape, h.output, h.size, fun k hk _ => h.block k hk (fun q => q)⟩
section
variable {r lo hi : Nat} {D : Dk}
set_option maxRecDepth 20000 in
set_option maxHeartbeats 2000000 in
theorem rwith_calls {vt va : Value} (n : Nat) (s : Str) (w : World) (h : RefV w r lo hi D vt va) (hw : D.Wf) (hn : n < D.there.length) : Calls Try.prog 68 #[.pointer (some ⟨r, 0, none⟩), .int .i64 n, .string (bs s)] w fun e w' =>
    (∃ v, e = .returned v) ∧ (∃ vt', RefV w' r lo w'.heap.size { D with there := D.there.set n s } vt' va) ∧ Keeps (fun k => k = r) w w' := by
  obtain ⟨i, hi', hz0, hz1, hz2⟩ := info_parts info_str
  obtain ⟨g1, ⟨gt, ct, rt, rfl, l1, l2, h2⟩, h3, h4, h5, h6⟩ := h
  have hsm := hw.small
  have hpos := hw.pos
  have c0 := cell_blk (blk_alloc g1 (.cells #[] 9)) 0 (.slice (some ⟨gt, 0, none⟩) D.there.length ct) rfl
  go_enter Try.func68, Try.ntmps68
  have hw1 := heap_alloc_eq w (.cells #[] 9) _ rfl
  have k1 : Keeps noB w (w.alloc (.cells #[] 9)) := (Keeps.refl _ _).alloc _
  have own : (w.alloc (.cells #[] 9)).ownsRow w.heap.size 9 1 (.slice (some ⟨w.heap.size, 0, none⟩) 0 0) 0 [] :=
    ⟨by simp, .inr ⟨w.heap.size, 0, #[], rfl, Nat.le_refl _, hw1, Nat.le_refl _, by unfold maxLen; omega, by simp, by simp⟩⟩
  have hsz : w.heap.size ≤ (w.alloc (.cells #[] 9)).heap.size := k1.size
  have hcell : ∀ (j : Nat) (u : Value), (D.there.map strC)[j]? = some u → (w.alloc (.cells #[] 9)).cell? ((⟨gt, 0, none⟩ : Addr).add j) = some u := fun j u hu =>
    row_cell (blk_alloc h2 _) j u (by rw [List.getElem?_append_left (List.getElem?_eq_some_iff.1 hu).1]; exact hu)
  have HC := Lib.hid hcell; clear hcell
  have hone : ∀ u ∈ D.there.map strC, u.oneCell' = true := fun u hu => by
    obtain ⟨x, _, rfl⟩ := List.mem_map.1 hu; rfl
  go_wp2_with (at_builtin; go_loud (refine wpList_append_own _ rfl _ _ 67 rfl w.heap.size 9 i (.string ⟨#[]⟩) 1 16 Try.underlying67 hi' hz0 hz1 hz2 rfl (by decide) _ 0 [] rfl own _ D.there.length ct (D.there.map strC) rfl (by simp) HC.out hone (by unfold maxLen; omega) (by omega) hsz ?_; intro v' w' ho hg hiff; have hx := own_some ho hpos; clear ho; obtain ⟨g', cap', rest', rfl, hb, hh⟩ := hx; have k2 : Keeps noB w w' := k1.trans_new (keeps_of_grown hg (fun k => k = w.heap.size) (fun k hk => by cases hk; rfl)) (fun k hk e => by omega); clear hg hiff; have f0 := cell_blk hh n (strC D.there[n]) (by rw [List.getElem?_toArray, List.getElem?_append_left (by rw [List.length_map]; exact hn), List.getElem?_map, List.getElem?_eq_getElem hn]; rfl); have f1 := frozen_blk hh n; have hne : r ≠ g' := (by omega); have g2 : (w'.setCell ⟨g', n, none⟩ (.string (bs s))).heap[r]? = some (.cells #[.slice (some ⟨gt, 0, none⟩) D.there.length ct, va, .int .i64 D.left] 106 (0, 0)) := (heap_setCell_ne _ _ _ _ _ hne).trans (carry k2 g1 (fun q => q)); have c1 := cell_blk g2 0 (.slice (some ⟨gt, 0, none⟩) D.there.length ct) rfl; have f2 := frozen_blk g2 0))
  refine bodyPost_end (rs_none rfl _ _ _) rfl ⟨⟨_, rfl⟩, ?_, ?_⟩
  · have k3 : Keeps noB w (w'.setCell ⟨g', n, none⟩ (.string (bs s))) := k2.setCell (fun q => by dsimp only at q; omega) _
    have h3' := (h3.keep k3 (fun _ _ _ q => q)).set g2 0 (.slice (some ⟨g', 0, none⟩) D.there.length cap')
    have hsz2 := k3.size
    have hgl := (Array.getElem?_eq_some_iff.1 hh).1
    refine ⟨_, by rw [heap_setCell_same _ r 0 _ _ _ g2]; rfl, ⟨g', cap', rest', by simp, by omega, by rw [World.size_setCell, World.size_setCell]; exact hgl, ?_⟩, h3'.raise (by rw [World.size_setCell]; omega), h4, by rw [World.size_setCell]; omega, Nat.le_refl _⟩
    rw [heap_setCell_ne _ _ _ _ _ (Ne.symm hne), heap_setCell_same _ g' n _ _ _ hh]
    congr 2
    apply Array.ext'
    simp [List.set_append_left, hn, List.map_set]
  · exact (((k2.setCell (a := ⟨g', n, none⟩) (fun q => by dsimp only at q; omega) (.string (bs s))).weak (S := fun k => k = r)).setCell (a := ⟨r, 0, none⟩) (fun _ => rfl) _)
theorem Dk.Wf.withThere {D : Dk} (hw : D.Wf) (T : List Str) (hl : T.length = D.there.length) (ht : ∀ s ∈ T, s.length = 64) : Dk.Wf { D with there := T } :=
  ⟨ht, fun p hp => ⟨by rw [hl]; exact (hw.aside p hp).1, (hw.aside p hp).2⟩, hw.rises, hw.left, by rw [hl]; exact hw.pos, by rw [hl]; exact hw.small⟩
theorem RefV.drew {W : World} {vt va : Value} (h : RefV W r lo hi D vt va) : RefV W.drew r lo hi D vt va := ⟨h.box, h.there, h.aside, h.lo_r, h.r_hi, h.hi_w⟩
theorem RefV.alloc {W : World} {vt va : Value} (h : RefV W r lo hi D vt va) (o : Obj) : RefV (W.alloc o) r lo hi D vt va :=
  ⟨blk_alloc h.box o, h.there.keep ((Keeps.refl noB W).alloc o) (fun _ _ _ q => q), h.aside.keep ((Keeps.refl noB W).alloc o) (fun _ _ _ q => q), h.lo_r, h.r_hi, Nat.le_trans h.hi_w ((Keeps.refl noB W).alloc o).size⟩
theorem RefV.clear {W : World} {vt va : Value} (h : RefV W r lo hi D vt va) : RefAt (W.setCell ⟨r, 1, none⟩ (.slice none 0 0)) r lo (W.setCell ⟨r, 1, none⟩ (.slice none 0 0)).heap.size { D with aside := [] } := by
  refine ⟨vt, .slice none 0 0, by rw [heap_setCell_same W r 1 _ _ _ h.box]; rfl, (h.there.set h.box _ _).raise (by rw [World.size_setCell]; exact h.hi_w), .inl ⟨rfl, rfl⟩, h.lo_r, Nat.lt_of_lt_of_le h.r_hi (by rw [World.size_setCell]; exact h.hi_w), Nat.le_refl _⟩
theorem RefV.ne {W : World} {vt : Value} {g n c : Nat} (h : RefV W r lo hi D vt (.slice (some ⟨g, 0, none⟩) n c)) : g ≠ r := by
  rcases h.aside with ⟨e, _⟩ | ⟨g', c', rest, e, h2, h3, h4⟩
  · cases e
  · cases e
    intro e; subst e
    rw [h.box] at h4; simp at h4
theorem settle_snoc (A : List (Nat × Str)) (p : Nat × Str) : ∀ T, Dk.settle (A ++ [p]) T = (Dk.settle A T).set p.1 p.2 := by
  induction A with
  | nil => intro T; rfl
  | cons q A ih => intro T; exact ih _
theorem set_64 {T : List Str} (h : ∀ s ∈ T, s.length = 64) (n : Nat) {s : Str} (hs : s.length = 64) : ∀ x ∈ T.set n s, x.length = 64 := fun x hx => by
  rcases List.mem_or_eq_of_mem_set hx with h1 | h1
  · exact h x h1
  · rw [h1]; exact hs
set_option maxRecDepth 20000 in
set_option maxHeartbeats 2000000 in
theorem rflush_calls (w : World) (h : RefAt w r lo hi D) (hw : D.Wf) : Calls Try.prog 48 #[.pointer (some ⟨r, 0, none⟩)] w fun e w' => e = .returned (.int .i64 D.flush.1) ∧ RefAt w' r lo w'.heap.size D.flush.2 ∧ Keeps (fun k => k = r) w w' := by
  have h6 := h.choose_spec.choose_spec.hi_w
  by_cases h0 : D.left = 0
  · have e : D.flush = (42, D) := by unfold Dk.flush; rw [if_pos h0]
    rw [e]
    go_enter Try.func48, Try.ntmps48
    go_wp2_with (go_at_call 67; (with_reducible refine (rburn_dead _ h h0).mono ?_); rintro e Wx ⟨rfl, rfl⟩)
    go_ret
    exact ⟨rfl, h.raise h6 (Nat.le_refl _), Keeps.refl _ _⟩
  · have e : D.flush = (0, ⟨Dk.settle D.aside D.there, [], Dk.burnt D.left⟩) := by unfold Dk.flush; rw [if_neg h0]
    rw [e]
    have hal := aside_len hw
    go_enter Try.func48, Try.ntmps48
    go_wp2_with (go_at_call 67; (with_reducible refine (rburn_good _ h h0 hw.left.1 hw.left.2).mono ?_); rintro e Wx ⟨rfl, hx, kx⟩)
    obtain ⟨vt, va, hv⟩ := hx
    obtain ⟨ad, ca, rfl⟩ := hv.aside.form
    have wl : Dk.Wf { D with left := Dk.burnt D.left } := ⟨hw.there, hw.aside, hw.rises, burnt_bounds hw.left.1 hw.left.2, hw.pos, hw.small⟩
    go_loopw [4] (fun i wr => ∃ (k : Nat) (vt : Value) (hi : Nat), k ≤ D.aside.length ∧ i = .int .i64 k ∧ RefV wr r lo hi { D with left := Dk.burnt D.left, there := Dk.settle (D.aside.take k) D.there } vt (.slice ad D.aside.length ca) ∧ Keeps (fun k => k = r) w wr) (fun i _ => D.aside.length - (intOf i).toNat)
    case atStart => exact ⟨0, vt, hi, by omega, rfl, hv, kx⟩
    case round =>
      clear hv kx
      obtain ⟨k, vt, hi, hk1, rfl, hv, hk⟩ := hrel
      have f1 := hv.box
      have c1 := cell_blk f1 1 (.slice ad D.aside.length ca) rfl
      by_cases c : k < D.aside.length
      · have d1 : decide ((k : Int) < (D.aside.length : Int)) = true := by rw [decide_eq_true_eq]; omega
        obtain ⟨g, rfl, hg0, hg1, e0, e1⟩ := hv.aside.at_ k c
        have ha := hw.aside _ (List.getElem_mem c)
        have hts : Dk.settle (D.aside.take (k + 1)) D.there = (Dk.settle (D.aside.take k) D.there).set D.aside[k].1 D.aside[k].2 := by
          rw [List.take_succ_eq_append_getElem c, settle_snoc]
        have hT : (Dk.settle (D.aside.take k) D.there).length = D.there.length := settle_length _ _
        have h64 := settle_64 (A := D.aside.take k) (t := D.there) (fun p hp => (hw.aside p (List.mem_of_mem_take hp)).2) hw.there
        dsimp only at e0 e1
        generalize D.aside[k] = q at *
        generalize Dk.settle (D.aside.take k) D.there = T at *
        have Hts := Lib.hid hts; clear hts
        go_wp2_with fail
        refine wp_region_text [(0, true), (1, true), (2, true), (3, true), (4, true), (5, true), (6, true), (7, true), (8, true), (9, true), (10, true), (11, true), (12, true), (13, true), (14, true), (15, true), (16, true), (17, false)] (fun W' => W'.cell? ⟨r, 1, none⟩ = some (.slice (some ⟨g, 0, none⟩) D.aside.length ca) ∧ W'.cell? ⟨g, k * 2, none⟩ = some (.int .i64 (q.1 : Nat)) ∧ W'.cell? ⟨g, k * 2 + 1, none⟩ = some (.string (bs q.2))) (by kernel_rfl) (by kernel_rfl) (fun d _ _ _ _ h => by cases d <;> exact h) ⟨c1, e0, e1⟩ ?_
        iterate 17 (apply wpText_take; rfl; rfl; (intro W hS; obtain ⟨s1, s2, s3⟩ := hS; go_simp; exact rfl); try simp only [Act.put, List.setIfInBounds_toArray, List.set_cons_succ, List.set_cons_zero])
        apply wpText_goL; rfl; intro K hK
        go_wp2_with (go_at_call 68; (refine (rwith_calls q.1 q.2 _ hv.drew (Dk.Wf.withThere (D := { D with left := Dk.burnt D.left }) wl T hT h64) (by show q.1 < T.length; omega)).mono ?_); rintro e Wx ⟨⟨_, rfl⟩, ⟨vt', hx⟩, kx⟩)
        refine hK _ _ ⟨cell_blk hx.box 1 _ rfl, cell_keeps kx e0 hv.ne, cell_keeps kx e1 hv.ne⟩ ?_
        clear hK K
        apply wpText_done
        go_wp2
        exact ⟨⟨k + 1, vt', _, by omega, by simp, by rw [Hts.out]; exact hx, Keeps.trans hk.drew kx⟩, by simp [intOf]; omega⟩
      · have d1 : decide ((k : Int) < (D.aside.length : Int)) = false := by rw [decide_eq_false_iff_not]; omega
        have hf := frozen_blk f1 1
        have hkl : k = D.aside.length := by omega
        subst hkl
        rw [List.take_length] at *
        go_wp2
        go_ret
        exact ⟨rfl, hv.clear, hk.trans (setr _ _ _)⟩
end
end Go.Proofs.Ytckopikeegegkaa
/- REF3D: the reference disk: crash. -/
namespace Go.Proofs.Ytckopikeegegkaa
open Go.RowKit Go.MapKept Go.Shelf
set_option linter.unusedSimpArgs false
set_option linter.unusedVariables false
/-- A pair is loaded. -/
theorem wpl_loadPair {P : Program} {o : Oper} {ops : Array Oper} {rest : List Oper} {a : Act} {w : World} {Q : Exit → Act → World → Prop} (ty : TypeId) (x : Operand) (ho : o.op = .load ty x) (b i : Nat) (hx : a.eval x = .pointer (some ⟨b, i, none⟩))
    (hg : ∀ w, (isAgg ty).run P w = .ok true w) (hs : ∀ w, (sizeOf ty).run P w = .ok 2 w) (u v : Value) (h0 : w.cell? ⟨b, i, none⟩ = some u) (h1 : w.cell? ⟨b, i + 1, none⟩ = some v) (hgd : o.guard = none)
    (h : wpList P ops Q rest (a.put o.dst (.agg #[u, v])) w) : wpList P ops Q (o :: rest) a w := by
  refine wpl_run (s := Instr.loadAt ty (a.eval x)) (by simp only [execOp, ho]) ?_ hgd h
  rw [hx]
  have : (loadCells ⟨b, i, none⟩ 2).run P w = .ok #[u, v] w := by
    refine run_loadCells_list (w := w) ⟨b, i, none⟩ [u, v] (fun j c hc => ?_)
    rcases j with _ | _ | j
    · simp at hc; subst hc; rw [show (⟨b, i, none⟩ : Addr).add 0 = ⟨b, i, none⟩ from by simp [Addr.add]]; exact h0
    · simp at hc; subst hc; rw [add1_add]; exact h1
    · simp at hc
  simp [Instr.loadAt, Instr.sureAddr, loadVar, hg, hs, this, Result.andThen]
section
variable {r lo hi : Nat} {D : Dk}
set_option maxHeartbeats 1000000 in
theorem rcrash_bad (kv : Value) (torn cut : Int) (w : World) (v : Value) (h : cut < 0 ∨ 64 < cut) : Calls Try.prog 50 #[v, kv, .int .i64 torn, .int .i64 cut] w fun e w' => e = .returned (.int .i64 1) ∧ w = w' := by
  by_cases h0 : cut < 0
  · have k0 : decide (cut < 0) = true := by simpa using h0
    go_enter Try.func50, Try.ntmps50
    go_wp2
    go_ret
    exact ⟨rfl, rfl⟩
  · have k0 : decide (cut < 0) = false := by simpa using h0
    have k1 : decide (64 < cut) = true := by simp; omega
    go_enter Try.func50, Try.ntmps50
    go_wp2
    go_ret
    exact ⟨rfl, rfl⟩
set_option maxRecDepth 20000 in
set_option maxHeartbeats 4000000 in
theorem rcrash_good (kv : Value) (keep : List Bool) (torn : Int) (cut : Nat) (w : World) (h : RefAt w r lo hi D) (hw : D.Wf) (hc : cut ≤ 64) (hkv : BoolsAt w kv keep) (hap : 0 < keep.length → ∀ a n c, kv = .slice (some a) n c → a.block ≠ r) :
    Calls Try.prog 50 #[.pointer (some ⟨r, 0, none⟩), kv, .int .i64 torn, .int .i64 cut] w fun e w' => e = .returned (.int .i64 0) ∧ RefAt w' r lo w'.heap.size ⟨Dk.fall keep torn cut 0 D.aside D.there, [], -1⟩ ∧ Keeps (fun k => k = r) w w' := by
  have hal := aside_len hw
  have k0 : decide ((cut : Int) < 0) = false := by simp
  have k1 : decide (64 < (cut : Int)) = false := by simp; omega
  obtain ⟨vt, va, hv⟩ := h
  obtain ⟨ad, ca, rfl⟩ := hv.aside.form
  obtain ⟨kad, kcap, rfl⟩ := hkv.form
  go_enter Try.func50, Try.ntmps50
  go_wp2_with fail
  go_loopw [9] (fun i wr => ∃ (k : Nat) (vt : Value) (hi : Nat), k ≤ D.aside.length ∧ i = .int .i64 k ∧ RefV wr r lo hi { D with there := Dk.fall keep torn cut 0 (D.aside.take k) D.there } vt (.slice ad D.aside.length ca) ∧ Keeps (fun k => k = r) w wr) (fun i _ => D.aside.length - (intOf i).toNat)
  case atStart => exact ⟨0, vt, hi, by omega, rfl, hv, Keeps.refl _ _⟩
  case round =>
    clear hv
    obtain ⟨k, vt, hi, hk1, rfl, hv, hk⟩ := hrel
    have f1 := hv.box
    have c1 := cell_blk f1 1 (.slice ad D.aside.length ca) rfl
    by_cases c : k < D.aside.length
    · have d1 : decide ((k : Int) < (D.aside.length : Int)) = true := by rw [decide_eq_true_eq]; omega
      obtain ⟨g, rfl, hg0, hg1, e0, e1⟩ := hv.aside.at_ k c
      have ha := hw.aside _ (List.getElem_mem c)
      have hts := fall_snoc keep torn cut D.aside[k] (D.aside.take k) 0 D.there
      rw [← List.take_succ_eq_append_getElem c, List.length_take, Nat.min_eq_left (by omega), Nat.zero_add] at hts
      have hT : (Dk.fall keep torn cut 0 (D.aside.take k) D.there).length = D.there.length := fall_length _ _ _ _ _ _
      have h64 := fall_64 keep torn hc (A := D.aside.take k) (j := 0) (t := D.there) (fun p hp => hw.aside p (List.mem_of_mem_take hp)) hw.there
      dsimp only at e0 e1
      generalize D.aside[k] = q at *
      obtain ⟨n, s⟩ := q
      generalize Dk.fall keep torn cut 0 (D.aside.take k) D.there = T at *
      unfold fallStep at hts
      dsimp only at *
      have wl := Dk.Wf.withThere hw T hT h64
      have fin : ∀ W vt' hi' T', RefV W r lo hi' { D with there := T' } vt' (.slice (some ⟨g, 0, none⟩) D.aside.length ca) → Keeps (fun k => k = r) w W → T' = Dk.fall keep torn cut 0 (D.aside.take (k + 1)) D.there →
          ∃ (k_1 : Nat) (vt : Value) (hi : Nat), k_1 ≤ D.aside.length ∧ Value.int .i64 ((k : Int) + 1) = .int .i64 k_1 ∧ RefV W r lo hi { D with there := Dk.fall keep torn cut 0 (D.aside.take k_1) D.there } vt (.slice (some ⟨g, 0, none⟩) D.aside.length ca) ∧ Keeps (fun k => k = r) w W :=
        fun W vt' hi' T' h1 h2 h3 => ⟨k + 1, vt', hi', by omega, by simp, by rw [← h3]; exact h1, h2⟩
      have hva : RefV (wr.alloc (.cells #[.int .i64 (n : Nat), .string (bs s)] 108)) r lo hi { D with there := T } vt (.slice (some ⟨g, 0, none⟩) D.aside.length ca) := hv.alloc _
      have fb := heap_alloc_eq wr (.cells #[.int .i64 (n : Nat), .string (bs s)] 108) _ rfl
      have hka := hk.alloc (.cells #[.int .i64 (n : Nat), .string (bs s)] 108)
      have Hts := Lib.hid hts; clear hts
      by_cases ht : (k : Int) = torn
      · have bt : ((k : Int) == torn) = true := by simpa using ht
        have Ht := Lib.hid ht; clear ht
        go_wp2_with (first | ((with_reducible refine wpl_loadPair 108 _ rfl g (k * 2) rfl Try.isAgg108 Try.sizeOf108 _ _ e0 e1 rfl ?_)) | ((with_reducible apply wpl_store_all 108 (n := 2) (vs := [.int .i64 (n : Nat), .string (bs s)]) (hs := Try.sizeOf108) (L := [.int .i64 0, .string ⟨#[]⟩]) (t := 108)); rfl; rfl; rfl; simp (disch := (first | (simp only [World.size_alloc, World.size_setCell, World.size_drew, size_setRow, heap_drew, heap_drewN]; done) | ((try simp only [World.size_alloc, World.size_setCell, World.size_drew, size_setRow, heap_drew, heap_drewN]); omega))) only [heap_drew, heap_drewN, heap_alloc_ne, heap_alloc_eq, heap_setCell_ne, heap_setRow_ne]; rfl; (intro v hv; simp at hv; rcases hv with rfl | rfl <;> rfl); rfl; rfl; simp (disch := (first | (simp only [World.size_alloc, World.size_setCell, World.size_drew, size_setRow, heap_drew, heap_drewN]; done) | ((try simp only [World.size_alloc, World.size_setCell, World.size_drew, size_setRow, heap_drew, heap_drewN]); omega))) only [setRow_alloc_top, setRow_alloc_under]))
        obtain ⟨gt, ct, rt, rfl, l1, l2, hgt⟩ := hv.there
        have ls : s.length = 64 := ha.2
        have hnT : n < T.length := by omega
        have l0 : (T.getD n []).length = 64 := by
          rw [show T.getD n [] = T[n] by simp [hnT]]; exact h64 _ (List.getElem_mem _)
        have y1 := cell_blk hva.box 0 (.slice (some ⟨gt, 0, none⟩) T.length ct) rfl
        have y2 : (wr.alloc (.cells #[.int .i64 (n : Nat), .string (bs s)] 108)).cell? ⟨gt, n, none⟩ = some (.string (bs (T.getD n []))) := cell_blk (blk_alloc hgt _) n _ (by rw [List.getElem?_toArray, List.getElem?_append_left (by simpa using hnT)]; simp [hnT, List.getD_eq_getElem?_getD])
        have y0 := cell_blk fb 0 (.int .i64 (n : Nat)) rfl
        have y3 := cell_blk fb 1 (.string (bs s)) rfl
        have hnT' : (n : Int) < T.length := by omega
        generalize hs0 : T.getD n [] = s0 at *
        refine wp_region_late [18] [(0, true), (1, true), (2, true), (3, true), (4, true), (5, true), (6, true), (7, true), (8, true), (9, true), (10, true), (11, true), (12, true), (13, true), (14, true), (15, true), (16, true), (17, true), (18, false)] (fun W' => W'.cell? ⟨wr.heap.size, 0, none⟩ = some (.int .i64 (n : Nat)) ∧ W'.cell? ⟨wr.heap.size, 1, none⟩ = some (.string (bs s)) ∧ W'.cell? ⟨r, 0, none⟩ = some (.slice (some ⟨gt, 0, none⟩) T.length ct) ∧ W'.cell? ⟨gt, n, none⟩ = some (.string (bs s0))) (by kernel_rfl) (by kernel_rfl) (fun d _ _ _ _ h => by cases d <;> exact h) ⟨y0, y3, y1, y2⟩ ?_
        iterate 6 (apply wpLate_take; rfl; rfl; (intro W hS; obtain ⟨s1, s2, s3, s4⟩ := hS; go_simp; exact rfl); try simp only [Act.put, List.setIfInBounds_toArray, List.set_cons_succ, List.set_cons_zero])
        apply wpLate_take (v := .string (bs (s.take cut))); rfl; rfl; (intro W hS; go_simp; rw [if_pos (by omega), ext_take]); try simp only [Act.put, List.setIfInBounds_toArray, List.set_cons_succ, List.set_cons_zero]
        iterate 9 (apply wpLate_take; rfl; rfl; (intro W hS; obtain ⟨s1, s2, s3, s4⟩ := hS; go_simp; exact rfl); try simp only [Act.put, List.setIfInBounds_toArray, List.set_cons_succ, List.set_cons_zero])
        apply wpLate_take (v := .string (bs (s0.drop cut))); rfl; rfl; (intro W hS; go_simp; rw [if_pos (by omega), ext_drop s0 cut l0]); try simp only [Act.put, List.setIfInBounds_toArray, List.set_cons_succ, List.set_cons_zero]
        apply wpLate_take (v := .string (bs (s.take cut ++ s0.drop cut))); rfl; rfl; (intro W hS; go_simp; rw [bs_app]); try simp only [Act.put, List.setIfInBounds_toArray, List.set_cons_succ, List.set_cons_zero]
        apply wpLate_goL; rfl; intro K hK
        go_wp2_with (go_at_call 68; (refine (rwith_calls n (s.take cut ++ s0.drop cut) _ hva.drew wl (by show n < T.length; omega)).mono ?_); rintro e Wx ⟨⟨_, rfl⟩, ⟨vt', hx⟩, kx⟩)
        refine hK _ _ (fun h => absurd h (by decide)) ?_
        clear hK K
        apply wpLate_done
        go_wp2
        exact ⟨fin _ _ _ _ hx (Keeps.trans hka.drew kx) (by rw [Hts.out, if_pos Ht.out]), by simp [intOf]; omega⟩
      · have bt : ((k : Int) == torn) = false := by simpa using ht
        by_cases hkp : k < keep.length
        · have d7 : decide ((k : Int) < (keep.length : Int)) = true := by rw [decide_eq_true_eq]; omega
          obtain ⟨a, rfl, hkc⟩ := hkv.at_ k hkp
          have hb : (a.add k).block = a.block := by unfold Addr.add; split <;> rfl
          have hkc1 := cell_keeps hka hkc (by rw [hb]; exact hap (by omega) a _ _ rfl)
          have hgd : keep.getD k false = keep[k] := by simp [List.getD_eq_getElem?_getD, hkp]
          cases hkm : keep[k] with
          | true =>
            rw [hkm] at hkc1 hgd
            have Hg := Lib.hid hgd; clear hgd hkm hkc
            have Ht := Lib.hid ht; clear ht
            go_wp2_with (first | ((with_reducible refine wpl_loadPair 108 _ rfl g (k * 2) rfl Try.isAgg108 Try.sizeOf108 _ _ e0 e1 rfl ?_)) | ((with_reducible apply wpl_store_all 108 (n := 2) (vs := [.int .i64 (n : Nat), .string (bs s)]) (hs := Try.sizeOf108) (L := [.int .i64 0, .string ⟨#[]⟩]) (t := 108)); rfl; rfl; rfl; simp (disch := (first | (simp only [World.size_alloc, World.size_setCell, World.size_drew, size_setRow, heap_drew, heap_drewN]; done) | ((try simp only [World.size_alloc, World.size_setCell, World.size_drew, size_setRow, heap_drew, heap_drewN]); omega))) only [heap_drew, heap_drewN, heap_alloc_ne, heap_alloc_eq, heap_setCell_ne, heap_setRow_ne]; rfl; (intro v hv; simp at hv; rcases hv with rfl | rfl <;> rfl); rfl; rfl; simp (disch := (first | (simp only [World.size_alloc, World.size_setCell, World.size_drew, size_setRow, heap_drew, heap_drewN]; done) | ((try simp only [World.size_alloc, World.size_setCell, World.size_drew, size_setRow, heap_drew, heap_drewN]); omega))) only [setRow_alloc_top, setRow_alloc_under]) | (go_at_call 68; (refine (rwith_calls n s _ hva wl (by show n < T.length; omega)).mono ?_); rintro e Wx ⟨⟨_, rfl⟩, ⟨vt', hx⟩, kx⟩))
            exact ⟨fin _ _ _ _ hx (Keeps.trans hka kx) (by rw [Hts.out, if_neg Ht.out, if_pos Hg.out]), by simp [intOf]; omega⟩
          | false =>
            rw [hkm] at hkc1 hgd
            have Hg := Lib.hid hgd; clear hgd hkm hkc
            have Ht := Lib.hid ht; clear ht
            go_wp2_with (first | ((with_reducible refine wpl_loadPair 108 _ rfl g (k * 2) rfl Try.isAgg108 Try.sizeOf108 _ _ e0 e1 rfl ?_)) | ((with_reducible apply wpl_store_all 108 (n := 2) (vs := [.int .i64 (n : Nat), .string (bs s)]) (hs := Try.sizeOf108) (L := [.int .i64 0, .string ⟨#[]⟩]) (t := 108)); rfl; rfl; rfl; simp (disch := (first | (simp only [World.size_alloc, World.size_setCell, World.size_drew, size_setRow, heap_drew, heap_drewN]; done) | ((try simp only [World.size_alloc, World.size_setCell, World.size_drew, size_setRow, heap_drew, heap_drewN]); omega))) only [heap_drew, heap_drewN, heap_alloc_ne, heap_alloc_eq, heap_setCell_ne, heap_setRow_ne]; rfl; (intro v hv; simp at hv; rcases hv with rfl | rfl <;> rfl); rfl; rfl; simp (disch := (first | (simp only [World.size_alloc, World.size_setCell, World.size_drew, size_setRow, heap_drew, heap_drewN]; done) | ((try simp only [World.size_alloc, World.size_setCell, World.size_drew, size_setRow, heap_drew, heap_drewN]); omega))) only [setRow_alloc_top, setRow_alloc_under]))
            exact ⟨fin _ _ _ _ hva hka (by rw [Hts.out, if_neg Ht.out, if_neg (by rw [Hg.out]; simp)]), by simp [intOf]; omega⟩
        · have d7 : decide ((k : Int) < (keep.length : Int)) = false := by rw [decide_eq_false_iff_not]; omega
          have hgd : keep.getD k false = false := by simp [List.getD_eq_getElem?_getD, hkp]
          have Hg := Lib.hid hgd; clear hgd
          have Ht := Lib.hid ht; clear ht
          go_wp2_with (first | ((with_reducible refine wpl_loadPair 108 _ rfl g (k * 2) rfl Try.isAgg108 Try.sizeOf108 _ _ e0 e1 rfl ?_)) | ((with_reducible apply wpl_store_all 108 (n := 2) (vs := [.int .i64 (n : Nat), .string (bs s)]) (hs := Try.sizeOf108) (L := [.int .i64 0, .string ⟨#[]⟩]) (t := 108)); rfl; rfl; rfl; simp (disch := (first | (simp only [World.size_alloc, World.size_setCell, World.size_drew, size_setRow, heap_drew, heap_drewN]; done) | ((try simp only [World.size_alloc, World.size_setCell, World.size_drew, size_setRow, heap_drew, heap_drewN]); omega))) only [heap_drew, heap_drewN, heap_alloc_ne, heap_alloc_eq, heap_setCell_ne, heap_setRow_ne]; rfl; (intro v hv; simp at hv; rcases hv with rfl | rfl <;> rfl); rfl; rfl; simp (disch := (first | (simp only [World.size_alloc, World.size_setCell, World.size_drew, size_setRow, heap_drew, heap_drewN]; done) | ((try simp only [World.size_alloc, World.size_setCell, World.size_drew, size_setRow, heap_drew, heap_drewN]); omega))) only [setRow_alloc_top, setRow_alloc_under]))
          exact ⟨fin _ _ _ _ hva hka (by rw [Hts.out, if_neg Ht.out, if_neg (by rw [Hg.out]; simp)]), by simp [intOf]; omega⟩
    · have d1 : decide ((k : Int) < (D.aside.length : Int)) = false := by rw [decide_eq_false_iff_not]; omega
      have hkl : k = D.aside.length := by omega
      subst hkl
      rw [List.take_length] at *
      have hf := frozen_blk f1 1
      have r2 := heap_setCell_same wr r 1 _ _ (.slice none 0 0) f1
      have c2 := cell_blk r2 2 (.int .i64 D.left) rfl
      have hf2 := frozen_blk r2 2
      go_wp2
      go_ret
      exact ⟨rfl, (hv.clear.setLeft (-1)).raise (by simp only [World.size_setCell]; exact Nat.le_refl _) (Nat.le_refl _), (hk.trans (setr _ _ _)).trans (setr _ _ _)⟩
theorem rcrash_calls (kv : Value) (keep : List Bool) (torn cut : Int) (w : World) (h : RefAt w r lo hi D) (hw : D.Wf) (hkv : BoolsAt w kv keep) (hap : 0 < keep.length → ∀ a n c, kv = .slice (some a) n c → a.block ≠ r) :
    Calls Try.prog 50 #[.pointer (some ⟨r, 0, none⟩), kv, .int .i64 torn, .int .i64 cut] w fun e w' => e = .returned (.int .i64 (D.crash keep torn cut).1) ∧ RefAt w' r lo w'.heap.size (D.crash keep torn cut).2 ∧ Keeps (fun k => k = r) w w' := by
  by_cases hc : cut < 0 ∨ 64 < cut
  · have e : D.crash keep torn cut = (1, D) := by simp [Dk.crash, hc]
    rw [e]
    refine (rcrash_bad kv torn cut w _ hc).mono ?_
    rintro e w' ⟨rfl, rfl⟩
    exact ⟨rfl, h.raise h.choose_spec.choose_spec.hi_w (Nat.le_refl _), Keeps.refl _ _⟩
  · have e : D.crash keep torn cut = (0, ⟨Dk.fall keep torn cut.toNat 0 D.aside D.there, [], -1⟩) := by simp [Dk.crash, hc]
    obtain ⟨c, rfl⟩ : ∃ c : Nat, cut = c := ⟨cut.toNat, by omega⟩
    rw [e]
    exact rcrash_good kv keep torn c w h hw (by omega) hkv hap
end
end Go.Proofs.Ytckopikeegegkaa
/- REF3E: the reference disk: write. -/
namespace Go.Proofs.Ytckopikeegegkaa
open Go.RowKit Go.MapKept Go.Shelf
set_option linter.unusedSimpArgs false
set_option linter.unusedVariables false
def insStep (n : Nat) (s : Str) (a : List (Nat × Str) × Bool) (x : Nat × Str) : List (Nat × Str) × Bool :=
  let a1 := if n ≤ x.1 ∧ a.2 = false then a.1 ++ [(n, s)] else a.1
  (if x.1 ≠ n then a1 ++ [x] else a1, a.2 || decide (n ≤ x.1))
def insEnd (n : Nat) (s : Str) (a : List (Nat × Str) × Bool) : List (Nat × Str) := if a.2 then a.1 else a.1 ++ [(n, s)]
theorem ins_true (n : Nat) (s : Str) : ∀ (A acc : List (Nat × Str)), (∀ x ∈ A, x.1 ≠ n) → A.foldl (insStep n s) (acc, true) = (acc ++ A, true)
  | [], acc, _ => by simp
  | x :: A, acc, h => by
    have hx := h x (List.mem_cons_self ..)
    rw [List.foldl_cons]
    have : insStep n s (acc, true) x = (acc ++ [x], true) := by simp [insStep, hx]
    rw [this, ins_true n s A _ (fun y hy => h y (List.mem_cons_of_mem _ hy))]
    simp
theorem ins_false (n : Nat) (s : Str) : ∀ (A acc : List (Nat × Str)), A.Pairwise (fun p q => p.1 < q.1) → insEnd n s (A.foldl (insStep n s) (acc, false)) = acc ++ Dk.put n s A
  | [], acc, _ => by simp [insEnd, Dk.put]
  | x :: A, acc, h => by
    obtain ⟨h1, h2⟩ := List.pairwise_cons.1 h
    rw [List.foldl_cons]
    unfold Dk.put
    by_cases c1 : n < x.1
    · have : insStep n s (acc, false) x = (acc ++ [(n, s)] ++ [x], true) := by
        have q1 : n ≤ x.1 := by omega
        have q2 : x.1 ≠ n := by omega
        simp [insStep, q1, q2]
      rw [this, ins_true n s A _ (fun y hy e => by have := h1 y hy; omega), if_pos c1]
      simp [insEnd]
    · rw [if_neg c1]
      by_cases c2 : x.1 = n
      · have : insStep n s (acc, false) x = (acc ++ [(n, s)], true) := by
          have q1 : n ≤ x.1 := by omega
          simp [insStep, c2]
        rw [this, ins_true n s A _ (fun y hy e => by have := h1 y hy; omega), if_pos c2]
        simp [insEnd]
      · have : insStep n s (acc, false) x = (acc ++ [x], false) := by
          have q1 : ¬ n ≤ x.1 := by omega
          simp [insStep, c2, q1]
        rw [this, if_neg c2, ins_false n s A _ h2]
        simp
theorem insStep_len (n : Nat) (s : Str) (A : List (Nat × Str)) : ∀ a, (A.foldl (insStep n s) a).1.length ≤ a.1.length + 2 * A.length := by
  induction A with
  | nil => intro a; simp
  | cons x A ih =>
    intro a
    rw [List.foldl_cons]
    have := ih (insStep n s a x)
    have h2 : (insStep n s a x).1.length ≤ a.1.length + 2 := by
      unfold insStep; dsimp only; split <;> split <;> simp
    simp only [List.length_cons]
    omega
theorem own_keep {S : Nat → Prop} {W W' : World} {b size n : Nat} {e : TypeId} {v : Value} {xs : List Value} (h : W.ownsRow b e size v n xs) (k : Keeps S W W') (hS : ∀ g, b ≤ g → ¬ S g) : W'.ownsRow b e size v n xs := by
  obtain ⟨h1, h2 | ⟨g, cap, cur, e1, hb, hh, hc, hm, hcs, htk⟩⟩ := h
  · exact ⟨h1, .inl h2⟩
  · exact ⟨h1, .inr ⟨g, cap, cur, e1, hb, carry k hh (hS g hb), hc, hm, hcs, htk⟩⟩
/-- A row of pairs that is one's own is what lies aside. -/
theorem own_kept {W : World} {b : Nat} {v : Value} {A : List (Nat × Str)} (h : W.ownsRow b 108 2 v A.length (A.flatMap encK)) : KeptAt W v b W.heap.size A := by
  obtain ⟨h1, ⟨rfl, h0⟩ | ⟨g, cap, cur, e1, hb, hh, hc, hm, hcs, htk⟩⟩ := h
  · exact .inl ⟨rfl, List.length_eq_zero_iff.1 h0⟩
  · refine .inr ⟨g, cap, cur.toList.drop (A.length * 2), e1, hb, (Array.getElem?_eq_some_iff.1 hh).1, ?_⟩
    rw [hh]
    congr 2
    apply Array.ext'
    rw [← htk]
    simp
theorem own_not {W W' : World} {b n size : Nat} {e : TypeId} {v : Value} {xs : List Value} (h : W.ownsRow b e size v n xs) (hg : W.grownBy W' v.ownBlock) : Keeps (fun k => b ≤ k) W W' := by
  refine keeps_of_grown hg _ (fun k hk => ?_)
  obtain ⟨h1, ⟨rfl, h0⟩ | ⟨g, cap, cur, rfl, hb, hh, hc, hm, hcs, htk⟩⟩ := h
  · cases hk
  · cases hk; exact hb
end Go.Proofs.Ytckopikeegegkaa
/- REF3F: the reference disk: write, the walk. -/
namespace Go.Proofs.Ytckopikeegegkaa
open Go.RowKit Go.MapKept Go.Shelf
set_option linter.unusedSimpArgs false
set_option linter.unusedVariables false
theorem RefV.keep {S : Nat → Prop} {W W' : World} {r lo hi : Nat} {D : Dk} {vt va : Value} (h : RefV W r lo hi D vt va) (k : Keeps S W W') (hS : ∀ b, lo ≤ b → b < hi → ¬ S b) : RefV W' r lo hi D vt va := by
  obtain ⟨h1, h2, h3, h4, h5, h6⟩ := h
  exact ⟨carry k h1 (hS r h4 h5), h2.keep k hS, h3.keep k hS, h4, h5, Nat.le_trans h6 k.size⟩
theorem encK_one (A : List (Nat × Str)) : ∀ u ∈ A.flatMap encK, u.oneCell' = true := fun u hu => by
  obtain ⟨p, _, hp⟩ := List.mem_flatMap.1 hu
  simp [encK] at hp
  rcases hp with rfl | rfl <;> rfl
/-- A pair is appended to a row that is one's own. -/
theorem wpl_app1 {ops : Array Oper} {rest : List Oper} {o : Oper} {a : Act} {w : World} {Q : Exit → Act → World → Prop} (hgd : o.guard = none) (s x : Operand)
    (ho : o.op = .call { callee := .builtin .append, args := #[s, x], argTypes := #[104, 104] })
    (B : Nat) (v : Value) (acc : List (Nat × Str)) (p : Nat × Str) (b c : Nat) (hs : a.eval s = v) (own : w.ownsRow B 108 2 v acc.length (acc.flatMap encK)) (hx : a.eval x = .slice (some ⟨b, 0, none⟩) 1 c)
    (hb : w.heap[b]? = some (.cells #[.int .i64 (p.1 : Nat), .string (bs p.2)] 108 (0, 0))) (hl : acc.length ≤ 10000) (hB : B ≤ w.heap.size)
    (h : ∀ v' w', w'.ownsRow B 108 2 v' (acc ++ [p]).length ((acc ++ [p]).flatMap encK) → Keeps (fun k => B ≤ k) w w' → wpList Try.prog ops Q rest (a.put o.dst v') w') :
    wpList Try.prog ops Q (o :: rest) a w := by
  obtain ⟨i, hi, hz0, hz1, hz2⟩ := info_parts info_kept
  have hcell : ∀ (j : Nat) (u : Value), (encK p)[j]? = some u → w.cell? ((⟨b, 0, none⟩ : Addr).add j) = some u := fun j u hu => row_cell (L := encK p) hb j u hu
  refine wpList_append_own _ hgd s x 104 ho B 108 i (.agg #[.int .i64 0, .string ⟨#[]⟩]) 2 24 Try.underlying104 hi hz0 hz1 hz2 rfl (by decide) v acc.length (acc.flatMap encK) hs own ⟨b, 0, none⟩ 1 c (encK p) hx rfl hcell (fun u hu => by simp [encK] at hu; rcases hu with rfl | rfl <;> rfl) (by unfold maxLen; omega) (by omega) hB ?_
  intro v' w' ho' hg hiff
  refine h v' w' ?_ (own_not own hg)
  have e1 : (acc ++ [p]).length = acc.length + 1 := by simp
  have e2 : (acc ++ [p]).flatMap encK = acc.flatMap encK ++ encK p := by simp
  rw [e1, e2]; exact ho'
theorem own_form {W : World} {b n size : Nat} {e : TypeId} {v : Value} {xs : List Value} (h : W.ownsRow b e size v n xs) : ∃ a m c, v = .slice a m c := by
  obtain ⟨h1, ⟨rfl, h0⟩ | ⟨g, cap, cur, rfl, hb, hh, hc, hm, hcs, htk⟩⟩ := h
  · exact ⟨_, _, _, rfl⟩
  · exact ⟨_, _, _, rfl⟩
theorem KeptAt.low {W : World} {va : Value} {lo lo' hi : Nat} {A : List (Nat × Str)} (h : KeptAt W va lo' hi A) (hh : lo ≤ lo') : KeptAt W va lo hi A := by
  rcases h with h | ⟨g, c, rest, h1, h2, h3, h4⟩
  · exact .inl h
  · exact .inr ⟨g, c, rest, h1, by omega, h3, h4⟩
theorem RefV.putAside {W : World} {r lo hi B : Nat} {D : Dk} {vt va v' : Value} {A' : List (Nat × Str)} (h : RefV W r lo hi D vt va) (ow : W.ownsRow B 108 2 v' A'.length (A'.flatMap encK)) (hB : lo ≤ B) :
    RefAt (W.setCell ⟨r, 1, none⟩ v') r lo (W.setCell ⟨r, 1, none⟩ v').heap.size { D with aside := A' } :=
  ⟨vt, v', by rw [heap_setCell_same W r 1 _ _ _ h.box]; rfl, (h.there.set h.box _ _).raise (by rw [World.size_setCell]; exact h.hi_w), (((own_kept ow).low hB).set h.box _ _).raise (by rw [World.size_setCell]; exact Nat.le_refl _), h.lo_r, Nat.lt_of_lt_of_le h.r_hi (by rw [World.size_setCell]; exact h.hi_w), Nat.le_refl _⟩
section
variable {r lo hi : Nat} {D : Dk}
set_option maxRecDepth 20000 in
set_option maxHeartbeats 4000000 in
theorem rwrite_good (n : Nat) (s : Str) (w : World) (h : RefAt w r lo hi D) (hw : D.Wf) (hn : n < D.there.length) (hs : s.length = 64) (h0 : D.left ≠ 0) :
    Calls Try.prog 47 #[.pointer (some ⟨r, 0, none⟩), .int .i64 n, .string (bs s)] w fun e w' => e = .returned (.int .i64 0) ∧ RefAt w' r lo w'.heap.size { D with left := Dk.burnt D.left, aside := Dk.put n s D.aside } ∧ Keeps (fun k => k = r) w w' := by
  have hal := aside_len hw
  have hsm := hw.small
  have h' := h
  obtain ⟨vt0, va0, hv0⟩ := h'
  obtain ⟨gt, ct, rt, rfl, l1, l2, hgt⟩ := hv0.there
  have y0 := cell_blk hv0.box 0 (.slice (some ⟨gt, 0, none⟩) D.there.length ct) rfl
  have k0 : decide ((n : Int) < 0) = false := by simp
  have k1 : decide ((D.there.length : Int) ≤ (n : Int)) = false := by simp; omega
  have k2 : ((s.length : Int) != 64) = false := by rw [hs]; rfl
  go_enter Try.func47, Try.ntmps47
  go_wp2_with (go_at_call 67; (with_reducible refine (rburn_good _ h h0 hw.left.1 hw.left.2).mono ?_); rintro e Wx ⟨rfl, hx, kx⟩)
  clear hv0 hgt y0 h
  obtain ⟨vt, va, hv⟩ := hx
  obtain ⟨ad, ca, rfl⟩ := hv.aside.form
  obtain ⟨B, hB⟩ : ∃ B, B = Wx.heap.size := ⟨_, rfl⟩
  have hhi := hv.hi_w
  have hwB : w.heap.size ≤ B := by rw [hB]; exact kx.size
  have hr := hv.r_hi
  rw [← hB] at hhi
  have ins := ins_false n s D.aside [] hw.rises
  rw [List.nil_append] at ins
  have hil := fun k => insStep_len n s (D.aside.take k) ([], false)
  have Hins := Lib.hid ins; clear ins
  have Hil := Lib.hid hil; clear hil
  go_loopw [8, 9, 10] (fun v b i wr => ∃ (k : Nat) (acc : List (Nat × Str)) (pt : Bool), k ≤ D.aside.length ∧ b = .bool pt ∧ i = .int .i64 k ∧ (D.aside.take k).foldl (insStep n s) ([], false) = (acc, pt) ∧ wr.ownsRow B 108 2 v acc.length (acc.flatMap encK) ∧ B ≤ wr.heap.size ∧
    RefV wr r lo hi { D with left := Dk.burnt D.left } vt (.slice ad D.aside.length ca) ∧ Keeps (fun k => k = r) w wr) (fun _ _ i _ => D.aside.length - (intOf i).toNat)
  case atStart => exact ⟨0, [], false, by omega, rfl, rfl, rfl, World.ownsRow_nil _ _ _ _, by omega, hv, kx⟩
  case round =>
    clear hv kx
    obtain ⟨k, acc, pt, hk1, rfl, rfl, hf, own, hBw, hv, hk⟩ := hrel
    have f1 := hv.box
    have c1 := cell_blk f1 1 (.slice ad D.aside.length ca) rfl
    have hacc : acc.length ≤ 8192 := by
      have := Hil.out k
      rw [hf] at this
      simp only [List.length_nil, List.length_take] at this
      omega
    by_cases c : k < D.aside.length
    · have d1 : decide ((k : Int) < (D.aside.length : Int)) = true := by rw [decide_eq_true_eq]; omega
      obtain ⟨g, rfl, hg0, hg1, e0, e1⟩ := hv.aside.at_ k c
      have hf2 : (D.aside.take (k + 1)).foldl (insStep n s) ([], false) = insStep n s (acc, pt) D.aside[k] := by
        rw [List.take_succ_eq_append_getElem c, List.foldl_append, hf]; rfl
      dsimp only at e0 e1
      generalize D.aside[k] = q at *
      obtain ⟨m, t⟩ := q
      dsimp only at *
      have Hf := Lib.hid hf; clear hf
      by_cases ca1 : n ≤ m
      · have d2 : decide ((n : Int) ≤ (m : Int)) = true := by rw [decide_eq_true_eq]; omega
        by_cases ca2 : m = n
        · subst ca2
          have d3 : ((m : Int) != (m : Int)) = false := by simp
          cases pt with
          | true =>
            rw [show insStep m s (acc, true) (m, t) = (acc, true) by simp [insStep]] at hf2
            have Hf2 := Lib.hid hf2; clear hf2
            go_wp2_with (first | ((with_reducible refine wpl_loadPair 108 _ rfl g (k * 2) rfl Try.isAgg108 Try.sizeOf108 _ _ e0 e1 rfl ?_)) | (at_builtin; (refine wpl_app1 rfl _ _ rfl B _ _ (m, t) _ 1 rfl (own.alloc _) rfl (heap_alloc_eq _ _ _ rfl) (by (try simp only [List.length_append, List.length_cons, List.length_nil]); omega) (by simp only [World.size_alloc]; omega) ?_; intro v' w' ow kw; have ka : Keeps (fun k => B ≤ k) _ w' := ((Keeps.refl (fun k => B ≤ k) _).alloc _).trans kw; replace e0 := cell_keeps ka e0 (by dsimp only; omega); replace e1 := cell_keeps ka e1 (by dsimp only; omega); replace c1 := cell_keeps ka c1 (by dsimp only; omega); replace own := ow; replace hv := hv.keep ka (fun b h1 h2 q => by omega); replace hk := hk.trans_new ka (fun k hk q => by omega); replace hBw := Nat.le_trans hBw ka.size; clear ow kw ka)) | (at_builtin; (refine wpl_app1 rfl _ _ rfl B _ _ (m, s) _ 1 rfl (own.alloc _) rfl (heap_alloc_eq _ _ _ rfl) (by (try simp only [List.length_append, List.length_cons, List.length_nil]); omega) (by simp only [World.size_alloc]; omega) ?_; intro v' w' ow kw; have ka : Keeps (fun k => B ≤ k) _ w' := ((Keeps.refl (fun k => B ≤ k) _).alloc _).trans kw; replace e0 := cell_keeps ka e0 (by dsimp only; omega); replace e1 := cell_keeps ka e1 (by dsimp only; omega); replace c1 := cell_keeps ka c1 (by dsimp only; omega); replace own := ow; replace hv := hv.keep ka (fun b h1 h2 q => by omega); replace hk := hk.trans_new ka (fun k hk q => by omega); replace hBw := Nat.le_trans hBw ka.size; clear ow kw ka)))
            exact ⟨⟨k + 1, _, _, by omega, rfl, by simp, Hf2.out, own, hBw, hv, hk⟩, by simp [intOf]; omega⟩
          | false =>
            rw [show insStep m s (acc, false) (m, t) = (acc ++ [(m, s)], true) by simp [insStep]] at hf2
            have Hf2 := Lib.hid hf2; clear hf2
            go_wp2_with (first | ((with_reducible refine wpl_loadPair 108 _ rfl g (k * 2) rfl Try.isAgg108 Try.sizeOf108 _ _ e0 e1 rfl ?_)) | (at_builtin; (refine wpl_app1 rfl _ _ rfl B _ _ (m, t) _ 1 rfl (own.alloc _) rfl (heap_alloc_eq _ _ _ rfl) (by (try simp only [List.length_append, List.length_cons, List.length_nil]); omega) (by simp only [World.size_alloc]; omega) ?_; intro v' w' ow kw; have ka : Keeps (fun k => B ≤ k) _ w' := ((Keeps.refl (fun k => B ≤ k) _).alloc _).trans kw; replace e0 := cell_keeps ka e0 (by dsimp only; omega); replace e1 := cell_keeps ka e1 (by dsimp only; omega); replace c1 := cell_keeps ka c1 (by dsimp only; omega); replace own := ow; replace hv := hv.keep ka (fun b h1 h2 q => by omega); replace hk := hk.trans_new ka (fun k hk q => by omega); replace hBw := Nat.le_trans hBw ka.size; clear ow kw ka)) | (at_builtin; (refine wpl_app1 rfl _ _ rfl B _ _ (m, s) _ 1 rfl (own.alloc _) rfl (heap_alloc_eq _ _ _ rfl) (by (try simp only [List.length_append, List.length_cons, List.length_nil]); omega) (by simp only [World.size_alloc]; omega) ?_; intro v' w' ow kw; have ka : Keeps (fun k => B ≤ k) _ w' := ((Keeps.refl (fun k => B ≤ k) _).alloc _).trans kw; replace e0 := cell_keeps ka e0 (by dsimp only; omega); replace e1 := cell_keeps ka e1 (by dsimp only; omega); replace c1 := cell_keeps ka c1 (by dsimp only; omega); replace own := ow; replace hv := hv.keep ka (fun b h1 h2 q => by omega); replace hk := hk.trans_new ka (fun k hk q => by omega); replace hBw := Nat.le_trans hBw ka.size; clear ow kw ka)))
            exact ⟨⟨k + 1, _, _, by omega, rfl, by simp, Hf2.out, own, hBw, hv, hk⟩, by simp [intOf]; omega⟩
        · have d3 : ((m : Int) != (n : Int)) = true := by simp; omega
          cases pt with
          | true =>
            rw [show insStep n s (acc, true) (m, t) = (acc ++ [(m, t)], true) by simp [insStep, ca2]] at hf2
            have Hf2 := Lib.hid hf2; clear hf2
            go_wp2_with (first | ((with_reducible refine wpl_loadPair 108 _ rfl g (k * 2) rfl Try.isAgg108 Try.sizeOf108 _ _ e0 e1 rfl ?_)) | (at_builtin; (refine wpl_app1 rfl _ _ rfl B _ _ (m, t) _ 1 rfl (own.alloc _) rfl (heap_alloc_eq _ _ _ rfl) (by (try simp only [List.length_append, List.length_cons, List.length_nil]); omega) (by simp only [World.size_alloc]; omega) ?_; intro v' w' ow kw; have ka : Keeps (fun k => B ≤ k) _ w' := ((Keeps.refl (fun k => B ≤ k) _).alloc _).trans kw; replace e0 := cell_keeps ka e0 (by dsimp only; omega); replace e1 := cell_keeps ka e1 (by dsimp only; omega); replace c1 := cell_keeps ka c1 (by dsimp only; omega); replace own := ow; replace hv := hv.keep ka (fun b h1 h2 q => by omega); replace hk := hk.trans_new ka (fun k hk q => by omega); replace hBw := Nat.le_trans hBw ka.size; clear ow kw ka)) | (at_builtin; (refine wpl_app1 rfl _ _ rfl B _ _ (n, s) _ 1 rfl (own.alloc _) rfl (heap_alloc_eq _ _ _ rfl) (by (try simp only [List.length_append, List.length_cons, List.length_nil]); omega) (by simp only [World.size_alloc]; omega) ?_; intro v' w' ow kw; have ka : Keeps (fun k => B ≤ k) _ w' := ((Keeps.refl (fun k => B ≤ k) _).alloc _).trans kw; replace e0 := cell_keeps ka e0 (by dsimp only; omega); replace e1 := cell_keeps ka e1 (by dsimp only; omega); replace c1 := cell_keeps ka c1 (by dsimp only; omega); replace own := ow; replace hv := hv.keep ka (fun b h1 h2 q => by omega); replace hk := hk.trans_new ka (fun k hk q => by omega); replace hBw := Nat.le_trans hBw ka.size; clear ow kw ka)))
            exact ⟨⟨k + 1, _, _, by omega, rfl, by simp, Hf2.out, own, hBw, hv, hk⟩, by simp [intOf]; omega⟩
          | false =>
            rw [show insStep n s (acc, false) (m, t) = (acc ++ [(n, s)] ++ [(m, t)], true) by simp [insStep, ca1, ca2]] at hf2
            have Hf2 := Lib.hid hf2; clear hf2
            go_wp2_with (first | ((with_reducible refine wpl_loadPair 108 _ rfl g (k * 2) rfl Try.isAgg108 Try.sizeOf108 _ _ e0 e1 rfl ?_)) | (at_builtin; (refine wpl_app1 rfl _ _ rfl B _ _ (m, t) _ 1 rfl (own.alloc _) rfl (heap_alloc_eq _ _ _ rfl) (by (try simp only [List.length_append, List.length_cons, List.length_nil]); omega) (by simp only [World.size_alloc]; omega) ?_; intro v' w' ow kw; have ka : Keeps (fun k => B ≤ k) _ w' := ((Keeps.refl (fun k => B ≤ k) _).alloc _).trans kw; replace e0 := cell_keeps ka e0 (by dsimp only; omega); replace e1 := cell_keeps ka e1 (by dsimp only; omega); replace c1 := cell_keeps ka c1 (by dsimp only; omega); replace own := ow; replace hv := hv.keep ka (fun b h1 h2 q => by omega); replace hk := hk.trans_new ka (fun k hk q => by omega); replace hBw := Nat.le_trans hBw ka.size; clear ow kw ka)) | (at_builtin; (refine wpl_app1 rfl _ _ rfl B _ _ (n, s) _ 1 rfl (own.alloc _) rfl (heap_alloc_eq _ _ _ rfl) (by (try simp only [List.length_append, List.length_cons, List.length_nil]); omega) (by simp only [World.size_alloc]; omega) ?_; intro v' w' ow kw; have ka : Keeps (fun k => B ≤ k) _ w' := ((Keeps.refl (fun k => B ≤ k) _).alloc _).trans kw; replace e0 := cell_keeps ka e0 (by dsimp only; omega); replace e1 := cell_keeps ka e1 (by dsimp only; omega); replace c1 := cell_keeps ka c1 (by dsimp only; omega); replace own := ow; replace hv := hv.keep ka (fun b h1 h2 q => by omega); replace hk := hk.trans_new ka (fun k hk q => by omega); replace hBw := Nat.le_trans hBw ka.size; clear ow kw ka)))
            exact ⟨⟨k + 1, _, _, by omega, rfl, by simp, Hf2.out, own, hBw, hv, hk⟩, by simp [intOf]; omega⟩
      · have d2 : decide ((n : Int) ≤ (m : Int)) = false := by rw [decide_eq_false_iff_not]; omega
        have d3 : ((m : Int) != (n : Int)) = true := by simp; omega
        rw [show insStep n s (acc, pt) (m, t) = (acc ++ [(m, t)], pt) by simp [insStep, ca1]; omega] at hf2
        have Hf2 := Lib.hid hf2; clear hf2
        go_wp2_with (first | ((with_reducible refine wpl_loadPair 108 _ rfl g (k * 2) rfl Try.isAgg108 Try.sizeOf108 _ _ e0 e1 rfl ?_)) | (at_builtin; (refine wpl_app1 rfl _ _ rfl B _ _ (m, t) _ 1 rfl (own.alloc _) rfl (heap_alloc_eq _ _ _ rfl) (by (try simp only [List.length_append, List.length_cons, List.length_nil]); omega) (by simp only [World.size_alloc]; omega) ?_; intro v' w' ow kw; have ka : Keeps (fun k => B ≤ k) _ w' := ((Keeps.refl (fun k => B ≤ k) _).alloc _).trans kw; replace e0 := cell_keeps ka e0 (by dsimp only; omega); replace e1 := cell_keeps ka e1 (by dsimp only; omega); replace c1 := cell_keeps ka c1 (by dsimp only; omega); replace own := ow; replace hv := hv.keep ka (fun b h1 h2 q => by omega); replace hk := hk.trans_new ka (fun k hk q => by omega); replace hBw := Nat.le_trans hBw ka.size; clear ow kw ka)) | (at_builtin; (refine wpl_app1 rfl _ _ rfl B _ _ (n, s) _ 1 rfl (own.alloc _) rfl (heap_alloc_eq _ _ _ rfl) (by (try simp only [List.length_append, List.length_cons, List.length_nil]); omega) (by simp only [World.size_alloc]; omega) ?_; intro v' w' ow kw; have ka : Keeps (fun k => B ≤ k) _ w' := ((Keeps.refl (fun k => B ≤ k) _).alloc _).trans kw; replace e0 := cell_keeps ka e0 (by dsimp only; omega); replace e1 := cell_keeps ka e1 (by dsimp only; omega); replace c1 := cell_keeps ka c1 (by dsimp only; omega); replace own := ow; replace hv := hv.keep ka (fun b h1 h2 q => by omega); replace hk := hk.trans_new ka (fun k hk q => by omega); replace hBw := Nat.le_trans hBw ka.size; clear ow kw ka)))
        exact ⟨⟨k + 1, _, _, by omega, rfl, by simp, Hf2.out, own, hBw, hv, hk⟩, by simp [intOf]; omega⟩
    · have d1 : decide ((k : Int) < (D.aside.length : Int)) = false := by rw [decide_eq_false_iff_not]; omega
      have hkl : k = D.aside.length := by omega
      subst hkl
      rw [List.take_length] at hf
      have hp := Hins.out
      rw [hf] at hp
      have Hf := Lib.hid hf; clear hf
      cases pt with
      | true =>
        have hp' : acc = Dk.put n s D.aside := hp
        have Hp := Lib.hid hp'; clear hp hp'
        have fz := frozen_blk f1 1
        obtain ⟨av, nv, cv, rfl⟩ := own_form own
        go_wp2
        go_ret
        exact ⟨rfl, by rw [← Hp.out]; exact hv.putAside own (by omega), hk.trans (setr _ _ _)⟩
      | false =>
        have hp' : acc ++ [(n, s)] = Dk.put n s D.aside := hp
        have Hp := Lib.hid hp'; clear hp hp'
        go_wp2_with (at_builtin; refine wpl_app1 rfl _ _ rfl B _ _ (n, s) _ 1 rfl (own.alloc _) rfl (heap_alloc_eq _ _ _ rfl) (by omega) (by simp only [World.size_alloc]; omega) ?_; intro v' w' ow kw; obtain ⟨av, nv, cv, rfl⟩ := own_form ow; have ka : Keeps (fun k => B ≤ k) _ w' := ((Keeps.refl (fun k => B ≤ k) _).alloc _).trans kw; replace c1 := cell_keeps ka c1 (by dsimp only; omega); replace own := ow; replace hv := hv.keep ka (fun b h1 h2 q => by omega); replace hk := hk.trans_new ka (fun k hk q => by omega); replace hBw := Nat.le_trans hBw ka.size; have fz := frozen_blk hv.box 1; clear ow kw ka)
        go_ret
        exact ⟨rfl, by rw [← Hp.out]; exact hv.putAside own (by omega), hk.trans (setr _ _ _)⟩
theorem rwrite_calls (n : Int) (s : Str) (w : World) (h : RefAt w r lo hi D) (hw : D.Wf) :
    Calls Try.prog 47 #[.pointer (some ⟨r, 0, none⟩), .int .i64 n, .string (bs s)] w fun e w' => e = .returned (.int .i64 (D.write n s).1) ∧ RefAt w' r lo w'.heap.size (D.write n s).2 ∧ Keeps (fun k => k = r) w w' := by
  have h' := h
  obtain ⟨vt, va, hv⟩ := h'
  obtain ⟨gt, ct, rt, rfl, l1, l2, hgt⟩ := hv.there
  have y0 := cell_blk hv.box 0 (.slice (some ⟨gt, 0, none⟩) D.there.length ct) rfl
  have hhi := hv.hi_w
  by_cases hh : D.has n = true
  · have hn : 0 ≤ n ∧ n < D.there.length := by unfold Dk.has at hh; simpa using hh
    obtain ⟨m, rfl⟩ : ∃ m : Nat, n = m := ⟨n.toNat, by omega⟩
    have k0 : decide ((m : Int) < 0) = false := by simp
    have k1 : decide ((D.there.length : Int) ≤ (m : Int)) = false := by simp; omega
    by_cases hs : s.length = 64
    · by_cases h0 : D.left = 0
      · have e : D.write m s = (42, D) := by simp [Dk.write, hh, hs, h0]
        rw [e]
        have k2 : ((s.length : Int) != 64) = false := by rw [hs]; rfl
        go_enter Try.func47, Try.ntmps47
        go_wp2_with (go_at_call 67; (with_reducible refine (rburn_dead _ h h0).mono ?_); rintro e Wx ⟨rfl, rfl⟩)
        go_ret
        exact ⟨rfl, h.raise hhi (Nat.le_refl _), Keeps.refl _ _⟩
      · have e : D.write m s = (0, { D with left := Dk.burnt D.left, aside := Dk.put m s D.aside }) := by simp [Dk.write, hh, hs, h0]
        rw [e]
        exact rwrite_good m s w h hw (by omega) hs h0
    · have e : D.write m s = (1, D) := by simp [Dk.write, hh, hs]
      rw [e]
      have k2 : ((s.length : Int) != 64) = true := by simp; omega
      go_enter Try.func47, Try.ntmps47
      go_wp2
      go_ret
      exact ⟨rfl, h.raise hhi (Nat.le_refl _), Keeps.refl _ _⟩
  · have e : D.write n s = (5, D) := by simp [Dk.write, hh]
    rw [e]
    by_cases k0 : n < 0
    · have k0 : decide (n < 0) = true := by simpa using k0
      go_enter Try.func47, Try.ntmps47
      go_wp2
      go_ret
      exact ⟨rfl, h.raise hhi (Nat.le_refl _), Keeps.refl _ _⟩
    · have hn : (D.there.length : Int) ≤ n := by unfold Dk.has at hh; simp at hh; omega
      have k0 : decide (n < 0) = false := by simpa using k0
      have k1' : decide ((D.there.length : Int) ≤ n) = true := by simpa using hn
      go_enter Try.func47, Try.ntmps47
      go_wp2
      go_ret
      exact ⟨rfl, h.raise hhi (Nat.le_refl _), Keeps.refl _ _⟩
end
end Go.Proofs.Ytckopikeegegkaa
/- REF3G: the reference disk: new. -/
namespace Go.Proofs.Ytckopikeegegkaa
open Go.RowKit Go.MapKept Go.Shelf
set_option linter.unusedSimpArgs false
set_option linter.unusedVariables false
theorem rnew_bad (n : Int) (w : World) (hn : n < 1 ∨ 4096 < n) : Calls Try.prog 34 #[.int .i64 n] w fun e w' => e = .returned (.tuple #[.pointer none, .int .i64 1]) ∧ w = w' := by
  by_cases h0 : n < 1
  · have k0 : decide (n < 1) = true := by simpa using h0
    go_enter Try.func34, Try.ntmps34
    go_wp2
    go_ret2
    exact ⟨rfl, rfl⟩
  · have k0 : decide (n < 1) = false := by simpa using h0
    have k1 : decide (4096 < n) = true := by simp; omega
    go_enter Try.func34, Try.ntmps34
    go_wp2
    go_ret2
    exact ⟨rfl, rfl⟩
def zsS (z : Str) (S k : Nat) : List Str := List.replicate k z ++ List.replicate (S - k) []
theorem zsS_length {z : Str} {S k : Nat} (h : k ≤ S) : (zsS z S k).length = S := by unfold zsS; simp; omega
theorem zsS_succ {z : Str} {S k : Nat} (h : k < S) : (zsS z S k).set k z = zsS z S (k + 1) := by
  unfold zsS
  obtain ⟨m, hm⟩ : ∃ m, S - k = m + 1 := ⟨S - k - 1, by omega⟩
  rw [hm, show S - (k + 1) = m by omega, List.replicate_succ, List.set_append_right _ _ (by simp), List.replicate_succ']
  simp only [List.length_replicate, Nat.sub_self, List.set_cons_zero]
  simp
theorem zsS_zero (z : Str) (S : Nat) : (List.replicate S [Value.string ⟨#[]⟩]).flatten = (zsS z S 0).map strC := by
  unfold zsS
  simp only [List.replicate_zero, List.nil_append, Nat.sub_zero, List.map_replicate]
  induction S with
  | zero => rfl
  | succ n ih => rw [List.replicate_succ, List.flatten_cons, ih, List.replicate_succ]; rfl
theorem zsS_all (S : Nat) : zsS (ofTo 0 0) S S = (Dk.zero S).there := by
  unfold zsS Dk.zero; simp only [Nat.sub_self, List.replicate_zero, List.append_nil]; rfl
set_option maxRecDepth 20000 in
set_option maxHeartbeats 2000000 in
theorem rnew_good (S : Nat) (w : World) (h1 : 1 ≤ S) (h2 : S ≤ 4096) : Calls Try.prog 34 #[.int .i64 S] w fun e w' => ∃ r, e = .returned (.tuple #[.pointer (some ⟨r, 0, none⟩), .int .i64 0]) ∧ RefAt w' r w.heap.size w'.heap.size (Dk.zero S) ∧ Keeps noB w w' := by
  have k0 : decide ((S : Int) < 1) = false := by simp; omega
  have k1 : decide (4096 < (S : Int)) = false := by simp; omega
  have hz := Lib.hid (zeros64 0)
  have hzs := Lib.hid (zsS_zero (ofTo 0 0) S)
  go_enter Try.func34, Try.ntmps34
  go_wp2_with ((with_reducible apply wpl_make 67 9 (n := S) (k := 1) (by_ := 16) (Z := [.string ⟨#[]⟩]) (z := .string ⟨#[]⟩) (hu := Try.underlying67) (hi := info_str)); rfl; rfl; rfl; rfl; rfl; omega; omega; omega; rfl; rw [hzs.out])
  have f0 := heap_alloc_eq w (.cells ((zsS (ofTo 0 0) S 0).map strC).toArray 9) _ rfl
  have hk : Keeps noB w (w.alloc (.cells ((zsS (ofTo 0 0) S 0).map strC).toArray 9)) := (Keeps.refl _ _).alloc _
  have hlt : w.heap.size < (w.alloc (.cells ((zsS (ofTo 0 0) S 0).map strC).toArray 9)).heap.size := by simp
  generalize w.alloc (.cells ((zsS (ofTo 0 0) S 0).map strC).toArray 9) = W1 at *
  go_loopw [5] (fun i wr => ∃ k : Nat, k ≤ S ∧ i = .int .i64 k ∧ wr.heap[w.heap.size]? = some (.cells ((zsS (ofTo 0 0) S k).map strC).toArray 9 (0, 0)) ∧ Keeps noB w wr ∧ w.heap.size < wr.heap.size) (fun i _ => S - (intOf i).toNat)
  case atStart => exact ⟨0, by omega, rfl, f0, hk, hlt⟩
  case round =>
    clear f0 hk hlt
    obtain ⟨k, hk1, rfl, f, hk, hlt⟩ := hrel
    by_cases c : k < S
    · have d : decide ((k : Int) < (S : Int)) = true := by rw [decide_eq_true_eq]; omega
      have hlen := zsS_length (z := ofTo 0 0) (S := S) (k := k) (by omega)
      go_wp2_with (first | ((with_reducible apply wpl_make 35 5 (n := 64) (k := 1) (by_ := 1) (Z := [.int .u8 0]) (z := .int .u8 0) (hu := Try.underlying35) (hi := info_byte)); rfl; rfl; rfl; rfl; rfl; omega; omega; omega; rfl; rw [hz.out]) | ((with_reducible apply wpl_bytes_all 35 9 5 (t := 5) (fr := (0, 0)) (s := ofTo 0 0) (hs := Try.underlying35) (he := Try.underlying5) (hd := Try.underlying9)); rfl; rfl; exact heap_alloc_eq _ _ _ rfl; exact ofTo_length 0 (by omega); rfl) | ((with_reducible apply wpl_store1 9 (t := 9) (L := (zsS (ofTo 0 0) S k).map strC) (v := strC (ofTo 0 0))); rfl; rfl; rfl; exact Try.sizeOf9; exact (blk_alloc f _); rfl; rfl; (rw [List.length_map, hlen]; exact c); rfl; rw [show ((zsS (ofTo 0 0) S k).map strC).set k (strC (ofTo 0 0)) = (zsS (ofTo 0 0) S (k + 1)).map strC by rw [← zsS_succ c, List.map_set]]))
      have f2 := blk_alloc f (.cells (encB (ofTo 0 0)).toArray 5)
      refine ⟨⟨k + 1, by omega, by simp, setBox f2 _, (hk.alloc _).setRow (fun h => absurd h (by omega)) _, ?_⟩, by simp [intOf]; omega⟩
      rw [size_setRow, World.size_alloc]; omega
    · have d : decide ((k : Int) < (S : Int)) = false := by rw [decide_eq_false_iff_not]; omega
      obtain rfl : k = S := by omega
      have f2 := blk_alloc f (.cells #[.slice (some ⟨w.heap.size, 0, none⟩) k k, .slice none 0 0, .int .i64 (-1)] 106)
      have f3 := heap_alloc_eq wr (.cells #[.slice (some ⟨w.heap.size, 0, none⟩) k k, .slice none 0 0, .int .i64 (-1)] 106) _ rfl
      have zl : (Dk.zero k).there.length = k := by rw [← zsS_all]; exact zsS_length (by omega)
      go_wp2
      go_ret2
      refine ⟨wr.heap.size, rfl, ⟨_, _, f3, ⟨w.heap.size, k, [], by rw [zl], Nat.le_refl _, by simp; omega, by rw [← zsS_all, List.append_nil]; exact f2⟩, .inl ⟨rfl, rfl⟩, by have := hk.size; exact this, by simp, Nat.le_refl _⟩, hk.alloc _⟩
end Go.Proofs.Ytckopikeegegkaa
/- REF3H: a step done against the reference. -/
namespace Go.Proofs.Ytckopikeegegkaa
open Go.RowKit Go.MapKept Go.Shelf
set_option linter.unusedSimpArgs false
set_option linter.unusedVariables false
theorem RefAt.held {W W' : World} {r lo hi : Nat} {D : Dk} (h : RefAt W r lo hi D) (k : Keeps noB W W') : RefAt W' r lo hi D := h.keep k (fun _ _ _ q => q)
theorem RefAt.alloc {W : World} {r lo hi : Nat} {D : Dk} (h : RefAt W r lo hi D) (o : Obj) : RefAt (W.alloc o) r lo hi D := h.held ((Keeps.refl _ _).alloc o)
theorem RefAt.drew {W : World} {r lo hi : Nat} {D : Dk} (h : RefAt W r lo hi D) : RefAt W.drew r lo hi D := h.held (Keeps.refl _ _).drew
theorem RefAt.lt {W : World} {r lo hi : Nat} {D : Dk} (h : RefAt W r lo hi D) : r < W.heap.size ∧ lo ≤ r ∧ r < hi ∧ hi ≤ W.heap.size := by
  obtain ⟨vt, va, hv⟩ := h
  have := hv.lo_r; have := hv.r_hi; have := hv.hi_w
  omega
set_option maxRecDepth 20000 in
set_option maxHeartbeats 2000000 in
theorem rstep_calls {r lo hi : Nat} {D D' : Dk} {x : Stp} {kv : Value} {f : Int} (w : World) (h : RefAt w r lo hi D) (hw : D.Wf) (hkv : BoolsAt w kv x.keep) (hap : 0 < x.keep.length → ∀ a n c, kv = .slice (some a) n c → a.block ≠ r) (he : doStep x D = (f, D')) :
    Calls Try.prog 36 #[stpV x kv, .pointer (some ⟨r, 0, none⟩)] w fun e w' => e = .returned (.int .i64 f) ∧ RefAt w' r lo w'.heap.size D' ∧ Keeps (fun k => k = r) w w' := by
  obtain ⟨kind, n, s, keep, cut⟩ := x
  simp only [stpV] at *
  have x1 := h.lt
  obtain ⟨ak, ck, rfl⟩ := hkv.form
  unfold doStep at he
  dsimp only at he
  have fin : ∀ {W1 W2 : World} (o : Obj), W1 = w.alloc o → Keeps (fun k => k = r) W1 W2 → Keeps (fun k => k = r) w W2 := fun o e k => by
    subst e; exact Keeps.trans ((Keeps.refl _ _).alloc o) k
  by_cases h0 : kind = 0
  · subst h0
    rw [if_pos rfl] at he
    go_enter Try.func36, Try.ntmps36
    go_wp2_with fail
    have f2 := heap_alloc_eq w (.cells #[.int .u8 0, .int .i64 n, .string (bs s), .slice ak keep.length ck, .int .i64 cut] 42) _ rfl
    refine wp_region_text [(0, true), (1, true), (2, true), (3, true), (4, true), (5, true), (6, true), (7, false), (8, false), (9, true)] (Blk1 w.heap.size (.cells #[.int .u8 0, .int .i64 n, .string (bs s), .slice ak keep.length ck, .int .i64 cut] 42)) (by kernel_rfl) (by kernel_rfl) (fun d _ _ _ _ h => by cases d <;> exact h) f2 ?_
    iterate 7 (apply wpText_take; rfl; rfl; (intro W hS; have c1 := cell_blk hS 1 _ rfl; have c2 := cell_blk hS 2 _ rfl; have c4 := cell_blk hS 4 _ rfl; go_simp; exact rfl); try simp only [Act.put, List.setIfInBounds_toArray, List.set_cons_succ, List.set_cons_zero])
    apply wpText_goL; rfl; intro K hK
    go_wp2_with (go_at_call 26; (refine (whole_calls s cut _).mono ?_); rintro e W2 ⟨rfl, k2⟩)
    have f2' := carry k2 f2 (fun q => q)
    refine hK _ _ f2' ?_
    clear hK K
    apply wpText_goL; rfl; intro K hK
    have hr2 : RefAt W2 r lo hi D := ((h.alloc _).drew).held k2
    have hwr := rwrite_calls n (whole s cut) W2 hr2 hw
    rw [he] at hwr
    go_wp2_with (go_at_call 47; (refine hwr.mono ?_); rintro e Wx ⟨rfl, hx, kx⟩)
    refine hK _ _ (carry kx f2' (by omega)) ?_
    clear hK K
    iterate 1 (apply wpText_take; rfl; rfl; (intro W hS; (try dsimp only at hS); (try (have hS1 := hS.1; have hS2 := hS.2)); go_simp; exact rfl); try simp only [Act.put, List.setIfInBounds_toArray, List.set_cons_succ, List.set_cons_zero])
    apply wpText_done
    go_wp2
    go_ret
    exact ⟨rfl, hx, Keeps.trans ((((Keeps.refl _ _).alloc _).drew).trans (k2.mono (fun _ _ q => q.elim))) kx⟩
  · rw [if_neg h0] at he
    have b0 : (kind == 0) = false := by simpa using h0
    by_cases h1 : kind = 1
    · subst h1
      rw [if_pos rfl] at he
      have hc := fun (o : Obj) => rflush_calls (w.alloc o) (h.alloc o) hw
      rw [he] at hc
      go_enter Try.func36, Try.ntmps36
      go_wp2_with (go_at_call 48; (refine (hc _).mono ?_); rintro e Wx ⟨rfl, hx, kx⟩)
      go_ret
      exact ⟨rfl, hx, fin _ rfl kx⟩
    · rw [if_neg h1] at he
      have b1 : (kind == 1) = false := by simpa using h1
      by_cases h2 : kind = 2
      · subst h2
        rw [if_pos rfl] at he
        have hc := fun (o : Obj) => rfuse_calls n (w.alloc o) (h.alloc o)
        rw [he] at hc
        go_enter Try.func36, Try.ntmps36
        go_wp2_with (go_at_call 49; (refine (hc _).mono ?_); rintro e Wx ⟨rfl, hx, kx⟩)
        go_ret
        exact ⟨rfl, hx, fin _ rfl kx⟩
      · rw [if_neg h2] at he
        have b2 : (kind == 2) = false := by simpa using h2
        have hc := fun (o : Obj) => rcrash_calls (.slice ak keep.length ck) keep n cut (w.alloc o) (h.alloc o) hw (hkv.carry ((Keeps.refl _ _).alloc o)) hap
        rw [he] at hc
        go_enter Try.func36, Try.ntmps36
        go_wp2_with (go_at_call 50; (refine (hc _).mono ?_); rintro e Wx ⟨rfl, hx, kx⟩)
        go_ret
        exact ⟨rfl, hx, fin _ rfl kx⟩
end Go.Proofs.Ytckopikeegegkaa
/- REF4A: the reference's pages: is, Pages, Read. -/
namespace Go.Proofs.Ytckopikeegegkaa
open Go.RowKit Go.MapKept Go.Shelf
set_option linter.unusedSimpArgs false
set_option linter.unusedVariables false
section
variable {r lo hi : Nat} {D : Dk}
set_option maxHeartbeats 1000000 in
theorem rsectors_calls (w : World) (h : RefAt w r lo hi D) : Calls Try.prog 69 #[.pointer (some ⟨r, 0, none⟩)] w fun e w' => e = .returned (.int .i64 D.there.length) ∧ w = w' := by
  obtain ⟨vt, va, hv⟩ := h
  obtain ⟨gt, ct, rt, rfl, l1, l2, hgt⟩ := hv.there
  have c0 := cell_blk hv.box 0 (.slice (some ⟨gt, 0, none⟩) D.there.length ct) rfl
  go_enter Try.func69, Try.ntmps69
  go_wp2
  go_ret
  exact ⟨rfl, rfl⟩
set_option maxHeartbeats 1000000 in
theorem rpages_calls (w : World) (h : RefAt w r lo hi D) (hw : D.Wf) : Calls Try.prog 51 #[.pointer (some ⟨r, 0, none⟩)] w fun e w' => e = .returned (.int .i64 (pages D)) ∧ w = w' := by
  have hsm := hw.small
  have ep : pages D = (D.there.length : Int) / 4 := by unfold pages; omega
  rw [ep]
  clear ep
  go_enter Try.func51, Try.ntmps51
  go_wp2_with (go_at_call 69; refine (rsectors_calls _ h).mono ?_; rintro e w' ⟨rfl, rfl⟩)
  go_ret
  exact ⟨rfl, rfl⟩
set_option maxHeartbeats 1000000 in
theorem ris_calls (n : Int) (w : World) (h : RefAt w r lo hi D) (hw : D.Wf) : Calls Try.prog 66 #[.pointer (some ⟨r, 0, none⟩), .int .i64 n] w fun e w' => e = .returned (.bool (hasPage D n)) ∧ w = w' := by
  by_cases h0 : 0 ≤ n
  · have e : hasPage D n = decide (n < pages D) := by unfold hasPage; simp [h0]
    rw [e]
    have k0 : decide (0 ≤ n) = true := by simpa using h0
    go_enter Try.func66, Try.ntmps66
    go_wp2_with (go_at_call 51; refine (rpages_calls _ h hw).mono ?_; rintro e w' ⟨rfl, rfl⟩)
    go_ret
    exact ⟨rfl, rfl⟩
  · have e : hasPage D n = false := by unfold hasPage; simp; omega
    rw [e]
    have k0 : decide (0 ≤ n) = false := by simpa using h0
    go_enter Try.func66, Try.ntmps66
    go_wp2_with (go_at_call 51; refine (rpages_calls _ h hw).mono ?_; rintro e w' ⟨rfl, rfl⟩)
    go_ret
    exact ⟨rfl, rfl⟩
def catTo (D : Dk) (n : Nat) : Nat → Str
  | 0 => []
  | k + 1 => catTo D n k ++ D.now (4 * n + k)
theorem catTo_4 (D : Dk) (n : Nat) : catTo D n 4 = pageOf D n := by simp [catTo, pageOf]
theorem catTo_length {D : Dk} (hw : D.Wf) {n : Nat} (hn : 4 * n + 3 < D.there.length) : ∀ k, k ≤ 4 → (catTo D n k).length = 64 * k
  | 0, _ => rfl
  | k + 1, h => by
    rw [catTo, List.length_append, catTo_length hw hn k (by omega), now_length hw (by omega)]; omega
theorem two_val (all : Str) (h0 : 0 < all.length) (h1 : 1 < all.length) : IntKind.i64.wrap (IntKind.i64.wrap (IntKind.i64.wrap (all[0].toNat : Int) * 256) + IntKind.i64.wrap (all[1].toNat : Int)) = (((all.getD 0 0).toNat * 256 + (all.getD 1 0).toNat : Nat) : Int) := by
  have e0 : all.getD 0 0 = all[0] := by simp [List.getD_eq_getElem?_getD, h0]
  have e1 : all.getD 1 0 = all[1] := by simp [List.getD_eq_getElem?_getD, h1]
  rw [e0, e1]
  have u0 := all[0].toNat_lt
  have u1 := all[1].toNat_lt
  rw [IntWalk.i64_in (all[0].toNat : Int) (by omega), IntWalk.i64_in (all[1].toNat : Int) (by omega), IntWalk.i64_in ((all[0].toNat : Int) * 256) (by omega), IntWalk.i64_in _ (by omega)]
  omega
set_option maxRecDepth 20000 in
set_option maxHeartbeats 4000000 in
theorem rpread_good (n : Nat) (w : World) (h : RefAt w r lo hi D) (hw : D.Wf) (hn : 4 * n + 3 < D.there.length) : Calls Try.prog 44 #[.pointer (some ⟨r, 0, none⟩), .int .i64 n] w fun e w' =>
    e = .returned (.tuple #[.string (bs (pgRead D n).1), .int .i64 (pgRead D n).2]) ∧ Keeps noB w w' := by
  have hsm := hw.small
  have hp : hasPage D n = true := by unfold hasPage pages; simp; omega
  have hi1 := ris_calls n w h hw
  have hpr : pgRead D n = if 254 < ((pageOf D n).getD 0 0).toNat * 256 + ((pageOf D n).getD 1 0).toNat then ([], 4) else (((pageOf D n).drop 2).take (((pageOf D n).getD 0 0).toNat * 256 + ((pageOf D n).getD 1 0).toNat), 0) := by
    simp only [pgRead, hp, Int.toNat_natCast, Bool.not_true, Bool.false_eq_true, if_false]
  have Hpr := Lib.hid hpr
  clear hpr
  rw [hp] at hi1
  clear hp
  go_enter Try.func44, Try.ntmps44
  go_wp2_with (go_at_call 66; refine hi1.mono ?_; rintro e w' ⟨rfl, rfl⟩)
  go_loopw [6, 7] (fun s i wr => ∃ k : Nat, k ≤ 4 ∧ i = .int .i64 k ∧ s = .string (bs (catTo D n k)) ∧ w = wr) (fun _ i _ => 4 - (intOf i).toNat)
  case atStart => exact ⟨0, by omega, rfl, rfl, rfl⟩
  case round =>
    obtain ⟨k, hk, rfl, rfl, rfl⟩ := hrel
    have hlen := catTo_length hw hn k hk
    by_cases c : k < 4
    · have d1 : decide ((k : Int) < 4) = true := by rw [decide_eq_true_eq]; omega
      have hr := rread_calls (4 * (n : Int) + (k : Int)) w h hw
      have er : D.read (4 * (n : Int) + (k : Int)) = (D.now (4 * n + k), 0) := by
        have : D.has (4 * (n : Int) + (k : Int)) = true := by simp [Dk.has]; omega
        simp only [Dk.read, this, if_true]
        congr 2
      rw [er] at hr
      have hl2 := now_length hw (n := 4 * n + k) (by omega)
      have hcat := Lib.hid (show catTo D n (k + 1) = catTo D n k ++ D.now (4 * n + k) from rfl)
      generalize D.now (4 * n + k) = tt at *
      clear er
      go_wp2_with (go_at_call 52; refine hr.mono ?_; rintro e w' ⟨rfl, rfl⟩)
      refine ⟨⟨k + 1, by omega, by simp, ?_, trivial⟩, by simp [intOf]; omega⟩
      rw [hcat.out, bs_app]
    · obtain rfl : k = 4 := by omega
      rw [catTo_4] at hlen ⊢
      generalize pageOf D n = all at *
      have d1 : decide (((4 : Nat) : Int) < 4) = false := by decide
      go_wp2_with fail
      have b0 := bs_get all 0 (by simp; omega)
      have b1 := bs_get all 1 (by simp; omega)
      have u0 := (all.getD 0 0).toNat_lt
      have u1 := (all.getD 1 0).toNat_lt
      refine wp_region_text [(0, true), (1, true), (2, true), (3, true), (4, true), (5, true), (6, true), (7, true), (8, true)] (fun _ => True) (by kernel_rfl) (by kernel_rfl) (fun d _ _ _ _ h => by cases d <;> exact h) trivial ?_
      repeat (apply wpText_take; rfl; rfl; (intro W hS; (try dsimp only at hS); (try (have hS1 := hS.1; have hS2 := hS.2)); go_simp; exact rfl); try simp only [Act.put, List.setIfInBounds_toArray, List.set_cons_succ, List.set_cons_zero])
      apply wpText_done
      rw [two_val all (by omega) (by omega)]
      have hlt : (all.getD 0 0).toNat * 256 + (all.getD 1 0).toNat ≤ 65535 := by omega
      clear b0 b1 u0 u1
      have hpr := Hpr.out
      generalize (all.getD 0 0).toNat * 256 + (all.getD 1 0).toNat = long at *
      clear Hpr
      by_cases c2 : 254 < long
      · rw [if_pos c2] at hpr
        have Hpr := Lib.hid hpr
        clear hpr
        have d2 : decide (254 < (long : Int)) = true := by rw [decide_eq_true_eq]; omega
        go_wp2
        go_ret2
        exact ⟨by rw [Hpr.out]; rfl, (Keeps.refl _ _).drew⟩
      · rw [if_neg c2] at hpr
        have Hpr := Lib.hid hpr
        clear hpr
        have d2 : decide (254 < (long : Int)) = false := by rw [decide_eq_false_iff_not]; omega
        go_wp2
        go_ret2
        refine ⟨?_, (Keeps.refl _ _).drew⟩
        rw [Hpr.out, show (all.drop 2).take long = sub all 2 (2 + long) from by unfold sub; rw [Nat.add_sub_cancel_left], ← bs_extract]
        rfl
set_option maxHeartbeats 1000000 in
theorem rpread_calls (n : Int) (w : World) (h : RefAt w r lo hi D) (hw : D.Wf) : Calls Try.prog 44 #[.pointer (some ⟨r, 0, none⟩), .int .i64 n] w fun e w' =>
    e = .returned (.tuple #[.string (bs (pgRead D n).1), .int .i64 (pgRead D n).2]) ∧ Keeps noB w w' := by
  by_cases hp : hasPage D n = true
  · have h2 : 0 ≤ n ∧ n < ((D.there.length / 4 : Nat) : Int) := by unfold hasPage pages at hp; simpa using hp
    obtain ⟨m, rfl⟩ : ∃ m : Nat, n = m := ⟨n.toNat, by omega⟩
    exact rpread_good m w h hw (by omega)
  · have hp : hasPage D n = false := by simpa using hp
    have e : pgRead D n = ([], 5) := by simp [pgRead, hp]
    rw [e]
    have hi1 := ris_calls n w h hw
    rw [hp] at hi1
    clear e hp
    go_enter Try.func44, Try.ntmps44
    go_wp2_with (go_at_call 66; refine hi1.mono ?_; rintro e w' ⟨rfl, rfl⟩)
    go_ret2
    exact ⟨rfl, Keeps.refl _ _⟩
end
end Go.Proofs.Ytckopikeegegkaa
/- PURE 7: the plain law of PageMarked. -/
namespace Go.Proofs.Ytckopikeegegkaa
def tailR (e g : Int) : Str := (List.range 8).map (fun i => UInt8.ofNat (e.toNat / 256 ^ (7 - i) % 256)) ++ (UInt8.ofNat (g.toNat / 256) :: UInt8.ofNat (g.toNat % 256) :: List.replicate 53 0)
theorem rootText_tail (on : Bool) (e g : Int) : rootText ⟨on, e, g⟩ = (if on then 1 else 0) :: tailR e g := rfl
theorem torn_marked (keep : List Bool) (torn : Int) (cut : Nat) (e g : Int) :
    tornOne keep torn cut (rootText ⟨true, e, g⟩) (rootText ⟨false, e, g⟩) = rootText ⟨if torn = 0 then decide (0 < cut) else keep.getD 0 false, e, g⟩ := by
  unfold tornOne
  by_cases h : torn = 0
  · rw [if_pos h.symm, if_pos h]
    rw [rootText_tail, rootText_tail, rootText_tail]
    cases cut with
    | zero => rfl
    | succ c => simp
  · rw [if_neg (Ne.symm h), if_neg h]
    cases keep.getD 0 false <;> rfl
theorem marked_all (d : Dk) (a : Nat) (ha : hasRoot d a = true) (hl : d.left = -1) (hw : d.Wf) (e g : Int) (m1 : mayRoot ⟨false, e, g⟩ = true) (keep : List Bool) (torn : Int) (cut : Nat) (hc : cut ≤ 64) :
    ∃ D1 D2 D3 D4, pgSetRoot d a ⟨false, e, g⟩ = (0, D1) ∧ D1.flush = (0, D2) ∧ pgSetRoot D2 a ⟨true, e, g⟩ = (0, D3) ∧ D3.aside.length = 1 ∧ D3.crash keep torn cut = (0, D4) ∧
      pgRoot D4 a = (⟨if torn = 0 then decide (0 < cut) else keep.getD 0 false, e, g⟩, 0) := by
  have hna : 4 * a < d.there.length := by
    simp only [hasRoot, hasPage, Bool.and_eq_true, decide_eq_true_eq] at ha
    unfold pages at ha; omega
  have m2 : ∀ b, mayRoot ⟨b, e, g⟩ = true := fun b => m1
  have e1 : pgSetRoot d a ⟨false, e, g⟩ = (0, wrote d (4 * a) (rootText ⟨false, e, g⟩)) := by rw [set_on d ha (by omega), m1]; rfl
  have w1 : (wrote d (4 * a) (rootText ⟨false, e, g⟩)).Wf := wrote_wf hw hna (rootText_length _)
  have l1 : (wrote d (4 * a) (rootText ⟨false, e, g⟩)).left = -1 := by rw [wrote_left, hl]; rfl
  have v1 : (wrote d (4 * a) (rootText ⟨false, e, g⟩)).now (4 * a) = rootText ⟨false, e, g⟩ := by rw [now_wrote, if_pos rfl]
  have t1 : (wrote d (4 * a) (rootText ⟨false, e, g⟩)).there = d.there := rfl
  generalize wrote d (4 * a) (rootText ⟨false, e, g⟩) = D1 at *
  have e2 := flush_done l1
  have v2 : (Dk.settle D1.aside D1.there).getD (4 * a) [] = rootText ⟨false, e, g⟩ := by rw [flush_getD w1, v1]
  have t2 : (Dk.settle D1.aside D1.there).length = d.there.length := by rw [settle_length, t1]
  generalize Dk.settle D1.aside D1.there = T2 at *
  have e3 : pgSetRoot ⟨T2, [], -1⟩ a ⟨true, e, g⟩ = (0, wrote ⟨T2, [], -1⟩ (4 * a) (rootText ⟨true, e, g⟩)) := by
    rw [set_on _ (by unfold hasRoot hasPage pages at ha ⊢; rw [t2]; exact ha) (by simp), m2]; rfl
  obtain ⟨D4, e4, a4, l4, t4, v4⟩ := crash_one ⟨T2, [], -1⟩ (4 * a) (rootText ⟨true, e, g⟩) rfl (by rw [t2]; exact hna) keep torn cut hc
  refine ⟨D1, _, _, D4, e1, e2, e3, rfl, e4, ?_⟩
  dsimp only at v4 t4
  rw [root_on D4 (by unfold hasRoot hasPage pages at ha ⊢; rw [t4, t2]; exact ha), now_flat a4, v4, if_pos rfl, v2, torn_marked, rootOf_rootText (m2 _)]
end Go.Proofs.Ytckopikeegegkaa
/- PURE 8: what was written to a page is read there; other pages are what they were. -/
namespace Go.Proofs.Ytckopikeegegkaa
theorem hasPage_same {d d' : Dk} (h : d'.there.length = d.there.length) (n : Int) : hasPage d' n = hasPage d n := by unfold hasPage pages; rw [h]
theorem hasPage_nat {d : Dk} {n : Nat} : hasPage d n = true ↔ 4 * n + 3 < d.there.length := by
  unfold hasPage pages
  simp only [Bool.and_eq_true, decide_eq_true_eq]
  omega
theorem pgRead_same {d d' : Dk} (h : d'.there.length = d.there.length) (n : Nat) (hn : ∀ k, 4 * n ≤ k → k < 4 * n + 4 → d'.now k = d.now k) : pgRead d' n = pgRead d n := by
  unfold pgRead
  rw [hasPage_same h]
  have : pageOf d' ((n : Int)).toNat = pageOf d ((n : Int)).toNat := by
    simp only [Int.toNat_natCast]
    unfold pageOf
    rw [hn _ (by omega) (by omega), hn _ (by omega) (by omega), hn _ (by omega) (by omega), hn _ (by omega) (by omega)]
  rw [this]
theorem sub_length (l : Str) {a b : Nat} (h : b ≤ l.length) : (sub l a b).length = b - a := by unfold sub; rw [List.length_take, List.length_drop]; omega
/-- A page's four sectors, written. -/
def wrote4 (d : Dk) (n : Nat) (b : Str) : Dk := wrote (wrote (wrote (wrote d (4 * n) (sub b 0 64)) (4 * n + 1) (sub b 64 128)) (4 * n + 2) (sub b 128 192)) (4 * n + 3) (sub b 192 256)
theorem wrote4_there (d : Dk) (n : Nat) (b : Str) : (wrote4 d n b).there = d.there := rfl
theorem wrote4_now (d : Dk) (n : Nat) (b : Str) (k : Nat) : (wrote4 d n b).now k = if 4 * n ≤ k ∧ k < 4 * n + 4 then sub b (64 * (k - 4 * n)) (64 * (k - 4 * n) + 64) else d.now k := by
  unfold wrote4
  rw [now_wrote, now_wrote, now_wrote, now_wrote]
  by_cases h : 4 * n ≤ k ∧ k < 4 * n + 4
  · rw [if_pos h]
    obtain ⟨j, hj, rfl⟩ : ∃ j, j < 4 ∧ k = 4 * n + j := ⟨k - 4 * n, by omega, by omega⟩
    rw [show 4 * n + j - 4 * n = j by omega]
    rcases (by omega : j = 0 ∨ j = 1 ∨ j = 2 ∨ j = 3) with rfl | rfl | rfl | rfl
    · rw [if_neg (by omega), if_neg (by omega), if_neg (by omega), if_pos (by omega)]
    · rw [if_neg (by omega), if_neg (by omega), if_pos (by omega)]
    · rw [if_neg (by omega), if_pos (by omega)]
    · rw [if_pos (by omega)]
  · rw [if_neg h, if_neg (by omega), if_neg (by omega), if_neg (by omega), if_neg (by omega)]
theorem wrote4_left {d : Dk} (h : d.left = -1) (n : Nat) (b : Str) : (wrote4 d n b).left = -1 := by
  unfold wrote4
  simp only [wrote_left, h]; rfl
theorem wrote4_wf {d : Dk} (hw : d.Wf) {n : Nat} {b : Str} (hn : 4 * n + 3 < d.there.length) (hb : b.length = 256) : (wrote4 d n b).Wf := by
  unfold wrote4
  refine wrote_wf (wrote_wf (wrote_wf (wrote_wf hw (by omega) ?_) ?_ ?_) ?_ ?_) ?_ ?_
  all_goals first | (rw [sub_length _ (by omega)]) | (simp only [wrote_there]; omega)
theorem rng4 : rng 4 = [0, 1, 2, 3] := by decide
theorem pgWrite_done {d : Dk} {n : Nat} {b : Str} (hn : 4 * n + 3 < d.there.length) (hb : b.length ≤ 254) (hl : d.left = -1) : pgWrite d n b = (0, wrote4 d n (pgBody b)) := by
  have hB := pgBody_length hb
  unfold pgWrite
  rw [if_neg (by rw [hasPage_nat.2 hn]; simp), if_neg (by omega), rng4]
  generalize pgBody b = B at *
  have s : ∀ (d : Dk) (j : Nat) (a c : Nat), d.there.length > 4 * n + j → d.left = -1 → c ≤ 256 → c - a = 64 → d.write ((n : Int) * 4 + (j : Int)) (sub B a c) = (0, wrote d (4 * n + j) (sub B a c)) := fun d j a c h1 h2 h3 h4 => by
    have := write_done (d := d) (n := 4 * n + j) (s := sub B a c) (by omega) (by rw [sub_length _ (by omega)]; omega) (by omega)
    rw [← this]; congr 1; omega
  have l1 : ∀ (d : Dk) (k : Nat) (t : Str), d.left = -1 → (wrote d k t).left = -1 := fun d k t h => by rw [wrote_left, h]; rfl
  have e0 := s d 0 0 64 (by omega) hl (by omega) (by omega)
  have e1 := s (wrote d (4 * n) (sub B 0 64)) 1 64 128 (by rw [wrote_there]; omega) (l1 _ _ _ hl) (by omega) (by omega)
  have e2 := s (wrote (wrote d (4 * n) (sub B 0 64)) (4 * n + 1) (sub B 64 128)) 2 128 192 (by simp only [wrote_there]; omega) (l1 _ _ _ (l1 _ _ _ hl)) (by omega) (by omega)
  have e3 := s (wrote (wrote (wrote d (4 * n) (sub B 0 64)) (4 * n + 1) (sub B 64 128)) (4 * n + 2) (sub B 128 192)) 3 192 256 (by simp only [wrote_there]; omega) (l1 _ _ _ (l1 _ _ _ (l1 _ _ _ hl))) (by omega) (by omega)
  simp only [wrun]
  have v0 : ((0 : Fin 4).val : Int) = ((0 : Nat) : Int) := rfl
  have v1 : ((1 : Fin 4).val : Int) = ((1 : Nat) : Int) := rfl
  have v2 : ((2 : Fin 4).val : Int) = ((2 : Nat) : Int) := rfl
  have v3 : ((3 : Fin 4).val : Int) = ((3 : Nat) : Int) := rfl
  have w0 : (0 : Fin 4).val = 0 := rfl
  have w1 : (1 : Fin 4).val = 1 := rfl
  have w2 : (2 : Fin 4).val = 2 := rfl
  have w3 : (3 : Fin 4).val = 3 := rfl
  simp only [w0, w1, w2, w3, Nat.zero_mul, Nat.one_mul, Nat.reduceMul, Nat.reduceAdd, Nat.zero_add]
  rw [e0]
  simp only [if_true, Nat.add_zero]
  rw [e1]
  simp only [if_true]
  rw [e2]
  simp only [if_true]
  rw [e3]
  simp only [if_true]
  rfl
theorem subs_join (b : Str) (h : b.length = 256) : sub b 0 64 ++ (sub b 64 128 ++ (sub b 128 192 ++ sub b 192 256)) = b := by
  unfold sub
  rw [List.drop_zero]
  simp only [Nat.sub_zero, Nat.reduceSub]
  have e : (b.drop 192).take 64 = b.drop 192 := List.take_of_length_le (by rw [List.length_drop]; omega)
  have f : ∀ k, (b.drop k).take 64 ++ b.drop (k + 64) = b.drop k := fun k => by
    rw [← List.drop_drop]; exact List.take_append_drop 64 (b.drop k)
  rw [e, f 128, f 64]
  exact List.take_append_drop 64 b
theorem pageOf_wrote4 (d : Dk) (n : Nat) (b : Str) (h : b.length = 256) : pageOf (wrote4 d n b) n = b := by
  unfold pageOf
  rw [wrote4_now, wrote4_now, wrote4_now, wrote4_now, if_pos (by omega), if_pos (by omega), if_pos (by omega), if_pos (by omega)]
  rw [show 4 * n - 4 * n = 0 by omega, show 4 * n + 1 - 4 * n = 1 by omega, show 4 * n + 2 - 4 * n = 2 by omega, show 4 * n + 3 - 4 * n = 3 by omega]
  exact subs_join b h
theorem read_body (b : Str) (h : b.length ≤ 254) : ((pgBody b).getD 0 0).toNat * 256 + ((pgBody b).getD 1 0).toNat = b.length ∧ ((pgBody b).drop 2).take b.length = b := by
  constructor
  · show (UInt8.ofNat (b.length / 256)).toNat * 256 + (UInt8.ofNat (b.length % 256)).toNat = b.length
    simp; omega
  · show (b ++ List.replicate (254 - b.length) 0).take b.length = b
    simp
theorem pgRead_of {d : Dk} {n : Nat} {B b : Str} (hp : hasPage d n = true) (hB : pageOf d n = B) (h1 : (B.getD 0 0).toNat * 256 + (B.getD 1 0).toNat = b.length) (h2 : (B.drop 2).take b.length = b) (hb : b.length ≤ 254) : pgRead d n = (b, 0) := by
  unfold pgRead
  rw [if_neg (by rw [hp]; simp)]
  simp only [Int.toNat_natCast]
  rw [hB, h1]
  rw [h2]
  exact if_neg (by omega)
theorem pgRead_wrote4 {d : Dk} {n : Nat} {b : Str} (hn : 4 * n + 3 < d.there.length) (hb : b.length ≤ 254) : pgRead (wrote4 d n (pgBody b)) n = (b, 0) :=
  pgRead_of (hasPage_nat.2 (by rw [wrote4_there]; exact hn)) (pageOf_wrote4 d n _ (pgBody_length hb)) (read_body b hb).1 (read_body b hb).2 hb
theorem pgRead_other {d : Dk} {n k : Nat} {b : Str} (h : k ≠ n) : pgRead (wrote4 d n b) k = pgRead d k :=
  pgRead_same (by rw [wrote4_there]) k (fun j h1 h2 => by rw [wrote4_now, if_neg (by omega)])
theorem pgWrite_long {d : Dk} {n : Nat} {b : Str} (hn : 4 * n + 3 < d.there.length) (h : 254 < b.length) : pgWrite d n b = (40, d) := by
  unfold pgWrite
  rw [if_neg (by rw [hasPage_nat.2 hn]; simp)]
  exact if_pos h
/-- Behind a flush, and a crash, all is read as it was. -/
theorem pgRead_flushed {d : Dk} (hw : d.Wf) (hl : d.left = -1) (keep : List Bool) (torn cut : Int) (hc : 0 ≤ cut ∧ cut ≤ 64) : ∃ D1 D2, d.flush = (0, D1) ∧ D1.crash keep torn cut = (0, D2) ∧ D2.there.length = d.there.length ∧ ∀ k : Nat, pgRead D2 k = pgRead d k := by
  refine ⟨_, ⟨Dk.settle d.aside d.there, [], -1⟩, flush_done hl, ?_, settle_length _ _, fun k => ?_⟩
  · unfold Dk.crash
    rw [if_neg (by omega)]
    rfl
  · refine pgRead_same (settle_length _ _) k (fun j _ _ => ?_)
    rw [now_flat rfl]
    exact flush_getD hw j
end Go.Proofs.Ytckopikeegegkaa
/- REF4B: the reference's pages: Write. -/
namespace Go.Proofs.Ytckopikeegegkaa
open Go.RowKit Go.MapKept Go.Shelf
set_option linter.unusedSimpArgs false
set_option linter.unusedVariables false
section
variable {r lo hi : Nat} {D : Dk}
def strSize : Value → Nat
  | .string s => s.size
  | _ => 0
def hdrTo (body : Str) (j : Nat) : Str := UInt8.ofNat (body.length / 256) :: UInt8.ofNat (body.length % 256) :: (body ++ List.replicate j 0)
theorem hdrTo_length (body : Str) (j : Nat) : (hdrTo body j).length = 2 + body.length + j := by simp [hdrTo]; omega
theorem hdrTo_succ (body : Str) (j : Nat) : hdrTo body j ++ [0] = hdrTo body (j + 1) := by simp [hdrTo, List.replicate_succ']
set_option maxHeartbeats 1000000 in
theorem rpwrite_bad (n : Int) (b : Str) (w : World) (h : RefAt w r lo hi D) (hw : D.Wf) (hb : hasPage D n = false ∨ 254 < b.length) : Calls Try.prog 43 #[.pointer (some ⟨r, 0, none⟩), .int .i64 n, .string (bs b)] w fun e w' =>
    e = .returned (.int .i64 (if hasPage D n then 40 else 5)) ∧ w = w' := by
  have hi1 := ris_calls n w h hw
  cases hp : hasPage D n with
  | false =>
    rw [hp] at hi1
    clear hp hb
    go_enter Try.func43, Try.ntmps43
    go_wp2_with (go_at_call 66; refine hi1.mono ?_; rintro e w' ⟨rfl, rfl⟩)
    go_ret
    exact ⟨rfl, rfl⟩
  | true =>
    rw [hp] at hi1 hb
    have hl : 254 < b.length := by simpa using hb
    have d1 : decide (254 < (b.length : Int)) = true := by rw [decide_eq_true_eq]; omega
    clear hp hb
    go_enter Try.func43, Try.ntmps43
    go_wp2_with (go_at_call 66; refine hi1.mono ?_; rintro e w' ⟨rfl, rfl⟩)
    go_ret
    exact ⟨rfl, rfl⟩
theorem write_keeps {D : Dk} {n : Int} {s : Str} (hw : D.Wf) : (D.write n s).2.Wf ∧ (D.write n s).2.there.length = D.there.length := by
  rcases write_cases D n s with ⟨_, h⟩ | ⟨k, rfl, hk, hs, hl, h⟩
  · rw [h]; exact ⟨hw, rfl⟩
  · rw [h]; exact ⟨wrote_wf hw hk hs, rfl⟩
theorem rng_drop {k : Nat} (h : k < 4) : (rng 4).drop k = ⟨k, h⟩ :: (rng 4).drop (k + 1) := by
  rw [rng4]
  rcases k with _ | _ | _ | _ | k
  · rfl
  · rfl
  · rfl
  · rfl
  · omega
theorem wrun_drop (B : Str) (n : Nat) {D : Dk} (hw : D.Wf) (hn : 4 * n + 3 < D.there.length) (hl : B.length = 256) {k : Nat} (h : k < 4) :
    wrun B n ((rng 4).drop k) D = if (D.write (4 * (n : Int) + (k : Int)) (sub B (64 * k) (64 * k + 64))).1 = 0 then wrun B n ((rng 4).drop (k + 1)) (D.write (4 * (n : Int) + (k : Int)) (sub B (64 * k) (64 * k + 64))).2 else D.write (4 * (n : Int) + (k : Int)) (sub B (64 * k) (64 * k + 64)) := by
  rw [rng_drop h, wrun]
  rw [show (n : Int) * 4 + (k : Int) = 4 * (n : Int) + (k : Int) by omega, show k * 64 = 64 * k by omega]
set_option maxRecDepth 20000 in
set_option maxHeartbeats 4000000 in
theorem rpwrite_good (n : Nat) (b : Str) (w : World) (h : RefAt w r lo hi D) (hw : D.Wf) (hn : 4 * n + 3 < D.there.length) (hb : b.length ≤ 254) : Calls Try.prog 43 #[.pointer (some ⟨r, 0, none⟩), .int .i64 n, .string (bs b)] w fun e w' =>
    e = .returned (.int .i64 (wrun (pgBody b) n (rng 4) D).1) ∧ RefAt w' r lo w'.heap.size (wrun (pgBody b) n (rng 4) D).2 ∧ Keeps (fun k => k = r) w w' := by
  have hsm := hw.small
  have hp : hasPage D n = true := by unfold hasPage pages; simp; omega
  have hi1 := ris_calls n w h hw
  rw [hp] at hi1
  clear hp
  have d1 : decide (254 < (b.length : Int)) = false := by rw [decide_eq_false_iff_not]; omega
  have xr := h.lt
  have hrow : (w.alloc (.cells #[.int .u8 ((b.length : Int) / 256), .int .u8 ((b.length : Int) % 256)] 5)).heap[w.heap.size]? = some (.cells (encB [UInt8.ofNat (b.length / 256), UInt8.ofNat (b.length % 256)]).toArray 5 (0, 0)) := by
    rw [heap_alloc_eq _ _ _ rfl]
    have e1 : ((UInt8.ofNat (b.length / 256)).toNat : Int) = (b.length : Int) / 256 := by simp; omega
    have e2 : ((UInt8.ofNat (b.length % 256)).toNat : Int) = (b.length : Int) % 256 := by simp
    simp only [encB, List.map_cons, List.map_nil, e1, e2]
  have Hrow := Lib.hid hrow
  clear hrow
  go_enter Try.func43, Try.ntmps43
  go_wp2_with (first | (go_at_call 66; refine hi1.mono ?_; rintro e w' ⟨rfl, rfl⟩) | ((with_reducible apply wpl_bytes_all 35 9 5 (t := 5) (fr := (0, 0)) (s := [UInt8.ofNat (b.length / 256), UInt8.ofNat (b.length % 256)]) (hs := Try.underlying35) (he := Try.underlying5) (hd := Try.underlying9)); rfl; go_must (rfl; exact Hrow.out; rfl; rfl)))
  clear Hrow
  have hR := h.alloc (.cells #[.int .u8 ((b.length : Int) / 256), .int .u8 ((b.length : Int) % 256)] 5)
  have hk := (Keeps.refl (fun k => k = r) w).alloc (.cells #[.int .u8 ((b.length : Int) / 256), .int .u8 ((b.length : Int) % 256)] 5)
  generalize (w.alloc (.cells #[.int .u8 ((b.length : Int) / 256), .int .u8 ((b.length : Int) % 256)] 5)) = W1 at *
  have e0 : bs [UInt8.ofNat (b.length / 256), UInt8.ofNat (b.length % 256)] ++ bs b = bs (hdrTo b 0) := by rw [bs_app]; congr 1; simp [hdrTo]
  rw [e0]
  clear e0
  go_loopw [7] (fun s wr => ∃ j : Nat, 2 + b.length + j ≤ 256 ∧ s = .string (bs (hdrTo b j)) ∧ W1 = wr) (fun s _ => 256 - strSize s)
  case atStart => exact ⟨0, by omega, rfl, rfl⟩
  case round =>
    obtain ⟨j, hj, rfl, rfl⟩ := hrel
    have hl := hdrTo_length b j
    by_cases c : 2 + b.length + j < 256
    · have hs := Lib.hid (hdrTo_succ b j)
      generalize hdrTo b j = hh at *
      have d2 : decide ((hh.length : Int) < 256) = true := by rw [decide_eq_true_eq]; omega
      go_wp2
      refine ⟨⟨j + 1, by omega, ?_, trivial⟩, ?_⟩
      · rw [← hs.out, ← bs_app]; rfl
      · show 256 - (bs hh ++ bs [0]).size < 256 - (bs hh).size
        rw [bs_app, bs_size, bs_size, List.length_append]; simp; omega
    · have d2 : decide (((hdrTo b j).length : Int) < 256) = false := by rw [decide_eq_false_iff_not]; omega
      have eb : hdrTo b j = pgBody b := by unfold hdrTo pgBody; rw [show j = 254 - b.length by omega]
      rw [eb] at d2 hl ⊢
      clear eb hj
      have hl := pgBody_length hb
      generalize hB : pgBody b = B at *
      have HB := Lib.hid hB
      clear hB
      go_wp2_with fail
      clear d2 d1 hi1 c
      have hw1 : Keeps (fun k => k = r) w W1 := hk
      clear hk
      go_loopw [8] (fun i wr => ∃ (k hi : Nat) (D' : Dk), k ≤ 4 ∧ i = .int .i64 k ∧ RefAt wr r lo hi D' ∧ D'.Wf ∧ D'.there.length = D.there.length ∧ Keeps (fun k => k = r) w wr ∧ Hid (wrun B n ((rng 4).drop k) D' = wrun B n (rng 4) D)) (fun i _ => 4 - (intOf i).toNat)
      case atStart => exact ⟨0, hi, D, by omega, rfl, hR, hw, rfl, hw1, Lib.hid rfl⟩
      case round =>
        clear hR hw1 hw
        obtain ⟨k, hi, D', hk4, rfl, hR, hw, hlen, hk, hrun⟩ := hrel
        have xr := hR.lt
        by_cases c : k < 4
        · have d3 : decide ((k : Int) < 4) = true := by rw [decide_eq_true_eq]; omega
          have hwr := fun W (h : RefAt W r lo hi D') => rwrite_calls (4 * (n : Int) + (k : Int)) (sub B (64 * k) (64 * k + 64)) W h hw
          have hdr := wrun_drop B n hw (by rw [hlen]; exact hn) hl c
          rw [hrun.out] at hdr
          obtain ⟨f, D2, he⟩ : ∃ f D2, D'.write (4 * (n : Int) + (k : Int)) (sub B (64 * k) (64 * k + 64)) = (f, D2) := ⟨_, _, rfl⟩
          rw [he] at hwr hdr
          have hbe := bs_extract B (64 * k) (64 * k + 64)
          rw [← hbe] at hwr
          have hw2 := write_keeps (n := 4 * (n : Int) + (k : Int)) (s := sub B (64 * k) (64 * k + 64)) hw
          rw [he] at hw2
          obtain ⟨hw2, hlen2⟩ := hw2
          dsimp only at hw2 hlen2 hdr hwr
          rw [hlen] at hlen2
          by_cases hf : f = 0
          · rw [if_pos hf] at hdr
            subst hf
            have Hdr := Lib.hid hdr
            clear he hbe hrun hdr
            go_wp2_with (go_at_call 47; refine (hwr _ hR).mono ?_; rintro e W2 ⟨rfl, hx, kx⟩)
            exact ⟨⟨k + 1, _, D2, by omega, by simp, hx, hw2, hlen2, hk.trans kx, Lib.hid Hdr.out.symm⟩, by simp [intOf]; omega⟩
          · rw [if_neg hf] at hdr
            have d4 : (f != 0) = true := by simpa using hf
            have Hdr := Lib.hid hdr
            clear he hbe hrun hdr
            go_wp2_with (go_at_call 47; refine (hwr _ hR).mono ?_; rintro e W2 ⟨rfl, hx, kx⟩)
            go_ret
            rw [HB.out, Hdr.out]
            exact ⟨rfl, hx, hk.trans kx⟩
        · obtain rfl : k = 4 := by omega
          have d3 : decide (((4 : Nat) : Int) < 4) = false := by decide
          have hr2 := hrun.out
          have er : (rng 4).drop 4 = [] := by rw [rng4]; rfl
          rw [er] at hr2
          have Hr2 := Lib.hid hr2
          clear hr2 er hrun
          go_wp2
          go_ret
          rw [HB.out, ← Hr2.out]
          exact ⟨rfl, hR.raise xr.2.2.2 (Nat.le_refl _), hk⟩
theorem rpwrite_calls (n : Int) (b : Str) (w : World) (h : RefAt w r lo hi D) (hw : D.Wf) : Calls Try.prog 43 #[.pointer (some ⟨r, 0, none⟩), .int .i64 n, .string (bs b)] w fun e w' =>
    e = .returned (.int .i64 (pgWrite D n b).1) ∧ RefAt w' r lo w'.heap.size (pgWrite D n b).2 ∧ Keeps (fun k => k = r) w w' := by
  have xr := h.lt
  by_cases hp : hasPage D n = true
  · have h2 : 0 ≤ n ∧ n < ((D.there.length / 4 : Nat) : Int) := by unfold hasPage pages at hp; simpa using hp
    obtain ⟨m, rfl⟩ : ∃ m : Nat, n = m := ⟨n.toNat, by omega⟩
    by_cases hb : 254 < b.length
    · have e : pgWrite D m b = (40, D) := by unfold pgWrite; rw [hp, if_pos hb]; rfl
      rw [e]
      refine (rpwrite_bad m b w h hw (.inr hb)).mono ?_
      rintro e w' ⟨he, rfl⟩
      rw [hp] at he
      exact ⟨he, h.raise xr.2.2.2 (Nat.le_refl _), Keeps.refl _ _⟩
    · have e : pgWrite D m b = wrun (pgBody b) m (rng 4) D := by unfold pgWrite; rw [hp, if_neg hb]; rfl
      rw [e]
      exact rpwrite_good m b w h hw (by omega) (by omega)
  · have hp : hasPage D n = false := by simpa using hp
    have e : pgWrite D n b = (5, D) := by unfold pgWrite; rw [hp]; rfl
    rw [e]
    refine (rpwrite_bad n b w h hw (.inl hp)).mono ?_
    rintro e w' ⟨he, rfl⟩
    rw [hp] at he
    exact ⟨he, h.raise xr.2.2.2 (Nat.le_refl _), Keeps.refl _ _⟩
end
end Go.Proofs.Ytckopikeegegkaa
