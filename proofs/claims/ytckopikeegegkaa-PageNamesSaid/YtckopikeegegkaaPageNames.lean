/- PAGENAMES: the walk of the law. -/
import Derived.Test.YtckopikeegegkaaAt
import Derived.Test.YtckopikeegegkaaStrs
namespace Go.Proofs.Ytckopikeegegkaa
open Go.RowKit Go.MapKept Go.Shelf
set_option linter.unusedSimpArgs false
set_option linter.unusedVariables false

def pnFull : Str := List.replicate 254 0
def pnD1 : Dk := (pgWrite (Dk.zero 11) 1 pnFull).2
def pnD2 : Dk := (pgSetRoot pnD1 1 ⟨true, 1099511627776, 1023⟩).2
theorem pn_make : Dk.make 11 = some (Dk.zero 11) := by kernel_rfl
theorem pn_pages : pages (Dk.zero 11) = 2 := by kernel_rfl
theorem pn_r1 : pgRead (Dk.zero 11) 2 = ([], 5) := by kernel_rfl
theorem pn_r2 : pgRead (Dk.zero 11) (-1) = ([], 5) := by kernel_rfl
theorem pn_o1 : pgRoot (Dk.zero 11) 2 = (⟨false, 0, 0⟩, 5) := by kernel_rfl
theorem pn_o2 : pgRoot (Dk.zero 11) (-1) = (⟨false, 0, 0⟩, 5) := by kernel_rfl
theorem pn_w1 : pgWrite (Dk.zero 11) 1 pnFull = (0, pnD1) := by kernel_rfl
theorem pn_w2 : pgWrite pnD1 1 (pnFull ++ [120]) = (40, pnD1) := by kernel_rfl
theorem pn_w3 : pgWrite pnD1 2 [] = (5, pnD1) := by kernel_rfl
theorem pn_s1 : pgSetRoot pnD1 2 ⟨false, 0, 0⟩ = (5, pnD1) := by kernel_rfl
theorem pn_s2 : pgSetRoot pnD1 0 ⟨false, -1, 0⟩ = (1, pnD1) := by kernel_rfl
theorem pn_s3 : pgSetRoot pnD1 0 ⟨false, 1099511627777, 0⟩ = (1, pnD1) := by kernel_rfl
theorem pn_s4 : pgSetRoot pnD1 0 ⟨false, 0, 1024⟩ = (1, pnD1) := by kernel_rfl
theorem pn_s5 : pgSetRoot pnD1 0 ⟨false, 0, -1⟩ = (1, pnD1) := by kernel_rfl
theorem pn_s6 : pgSetRoot pnD1 1 ⟨true, 1099511627776, 1023⟩ = (0, pnD2) := by kernel_rfl
theorem pn_o3 : pgRoot pnD2 1 = (⟨true, 1099511627776, 1023⟩, 0) := by kernel_rfl
theorem pn_r3 : pgRead pnD2 1 = ([], 4) := by kernel_rfl
theorem pn_len : pnFull.length = 254 := by unfold pnFull; rw [List.length_replicate]
theorem pn_cells : (List.replicate 254 [Value.int .u8 0]).flatten = encB pnFull := by kernel_rfl
theorem pn_app : bs pnFull ++ { data := #[120] } = bs (pnFull ++ [120]) := bs_append pnFull [120]
theorem pn_wnil (w : World) : Calls Try.prog 21 #[.pointer none, .int .i64 0, .string ⟨#[]⟩] w fun e w' => e = .returned (.int .i64 2) ∧ Keeps noB w w' := pwrite_nil 0 [] w
theorem info_u8 : (Try.prog.info? 5).map (fun i => (i.zero, i.size, i.bytes)) = some (some (.int .u8 0), 1, 1) := by kernel_rfl

set_option maxRecDepth 20000 in
set_option maxHeartbeats 20000000 in
theorem pageNames_walk (w : World) : Calls Try.prog 4 #[] w fun e w' => e = .returned (.bool true) ∧ Keeps noB w w' := by
  have haw := fun W => awake4_calls W
  have hcells := Lib.hid pn_cells
  go_enter Try.func4, Try.ntmps4
  go_wp2_with (first | ((with_reducible apply wplg_load_all 23 (n := 3) (hg := Try.isAgg23) (hs := Try.sizeOf23) (L := [.bool true, .int .i64 1099511627776, .int .i64 1023]) (t := 23) (fr := (0, 0))); rfl; go_must (rfl; (have z1 := k3.size; have z2 := kx.size; simp only [World.size_alloc] at z1 z2; exact (k4.block _ (by omega) (fun q => q)).trans ((k3.block _ (by omega) (fun q => q)).trans ((kx.block _ (by simp) (fun q => q)).trans (by simp (disch := (first | (simp only [World.size_alloc, World.size_setCell, World.size_drew, size_setRow, heap_drew, heap_drewN]; done) | ((try simp only [World.size_alloc, World.size_setCell, World.size_drew, size_setRow, heap_drew, heap_drewN]); omega))) only [heap_drew, heap_drewN, heap_alloc_ne, heap_alloc_eq, heap_setCell_ne, heap_setRow_ne])))); rfl; rfl)) | (go_at_call 21; with_reducible refine (pn_wnil _).mono ?_; rintro e W3 ⟨rfl, k3⟩) | (go_at_call 17; with_reducible refine (setRoot_nil _ _ _ _ _).mono ?_; rintro e W4 ⟨rfl, k4⟩) | (go_at_call 20; with_reducible refine (pages_nil _).mono ?_; rintro e W5 ⟨rfl, rfl⟩) | (go_at_call 15; with_reducible refine (haw _).mono ?_; rintro e W6 ⟨rfl, k6⟩) | (go_at_call 21; rw [pn_app]; refine (pwrite_at (by first | assumption | exact At.alloc (by assumption) _ | exact At.alloc (At.alloc (by assumption) _) _ | exact At.drew (by assumption)) (by with_reducible exact pn_w2)).mono ?_; rintro e Wx ⟨rfl, hx, kx⟩) | (go_at_call 19; with_reducible refine (pread_nil _ _).mono ?_; rintro e W1 ⟨rfl, k1⟩) | (go_at_call 18; with_reducible refine (root_nil0 _ _).mono ?_; rintro e W2 ⟨rfl, k2⟩) | (go_at_call 16; refine (new_at _ (Keeps.refl _ _) pn_make).mono ?_; rintro e Wx ⟨p, q, j, rfl, hx, kx⟩) | (go_at_call 19; refine (pread_at (by first | assumption | exact At.alloc (by assumption) _ | exact At.alloc (At.alloc (by assumption) _) _ | exact At.drew (by assumption)) (by first | with_reducible exact pn_r1 | with_reducible exact pn_r2 | with_reducible exact pn_r3)).mono ?_; rintro e Wx ⟨rfl, hx, kx⟩) | (go_at_call 18; refine (root_at (by first | assumption | exact At.alloc (by assumption) _ | exact At.alloc (At.alloc (by assumption) _) _ | exact At.drew (by assumption)) (by first | with_reducible exact pn_o1 | with_reducible exact pn_o2 | with_reducible exact pn_o3)).mono ?_; rintro e Wx ⟨rfl, hx, kx⟩) | (go_at_call 20; refine (pages_at (by first | assumption | exact At.alloc (by assumption) _ | exact At.alloc (At.alloc (by assumption) _) _ | exact At.drew (by assumption)) (by with_reducible exact pn_pages)).mono ?_; rintro e Wx ⟨rfl, rfl⟩) | (go_at_call 21; refine (pwrite_at (by first | assumption | exact At.alloc (by assumption) _ | exact At.alloc (At.alloc (by assumption) _) _ | exact At.drew (by assumption)) (by first | with_reducible exact pn_w1 | with_reducible exact pn_w2 | with_reducible exact pn_w3)).mono ?_; rintro e Wx ⟨rfl, hx, kx⟩) | (go_at_call 17; refine (setRoot_at (by first | assumption | exact At.alloc (by assumption) _ | exact At.alloc (At.alloc (by assumption) _) _ | exact At.drew (by assumption)) (by first | with_reducible exact pn_s1 | with_reducible exact pn_s2 | with_reducible exact pn_s3 | with_reducible exact pn_s4 | with_reducible exact pn_s5 | with_reducible exact pn_s6)).mono ?_; rintro e Wx ⟨rfl, hx, kx⟩) | ((with_reducible apply wpl_make 35 5 (n := 254) (k := 1) (by_ := 1) (Z := [.int .u8 0]) (z := .int .u8 0) (hu := Try.underlying35) (hi := info_u8)); rfl; go_must (rfl; rfl; rfl; rfl; omega; omega; omega; rfl; rw [hcells.out])) | ((with_reducible apply wpl_bytes_all 35 9 5 (t := 5) (fr := (0, 0)) (s := pnFull) (hs := Try.underlying35) (he := Try.underlying5) (hd := Try.underlying9)); rfl; go_must (rfl; simp (disch := (first | (simp only [World.size_alloc, World.size_setCell, World.size_drew, size_setRow, heap_drew, heap_drewN]; done) | ((try simp only [World.size_alloc, World.size_setCell, World.size_drew, size_setRow, heap_drew, heap_drewN]); omega))) only [heap_drew, heap_drewN, heap_alloc_ne, heap_alloc_eq, heap_setCell_ne, heap_setRow_ne]; exact pn_len; rfl)) | ((with_reducible apply wpl_store_all 23 (n := 3) (vs := [.bool false, .int .i64 0, .int .i64 0]) (hs := Try.sizeOf23) (L := [.bool false, .int .i64 0, .int .i64 0]) (t := 23)); rfl; rfl; rfl; simp (disch := (first | (simp only [World.size_alloc, World.size_setCell, World.size_drew, size_setRow, heap_drew, heap_drewN]; done) | ((try simp only [World.size_alloc, World.size_setCell, World.size_drew, size_setRow, heap_drew, heap_drewN]); omega))) only [heap_drew, heap_drewN, heap_alloc_ne, heap_alloc_eq, heap_setCell_ne, heap_setRow_ne]; rfl; (intro v hv; simp at hv; rcases hv with rfl | rfl | rfl <;> rfl); rfl; rfl; simp (disch := (first | (simp only [World.size_alloc, World.size_setCell, World.size_drew, size_setRow, heap_drew, heap_drewN]; done) | ((try simp only [World.size_alloc, World.size_setCell, World.size_drew, size_setRow, heap_drew, heap_drewN]); omega))) only [setRow_alloc_top, setRow_alloc_under]) | ((with_reducible apply wpl_store_all 23 (n := 3) (vs := [.bool true, .int .i64 1099511627776, .int .i64 1023]) (hs := Try.sizeOf23) (L := [.bool false, .int .i64 0, .int .i64 0]) (t := 23)); rfl; rfl; rfl; simp (disch := (first | (simp only [World.size_alloc, World.size_setCell, World.size_drew, size_setRow, heap_drew, heap_drewN]; done) | ((try simp only [World.size_alloc, World.size_setCell, World.size_drew, size_setRow, heap_drew, heap_drewN]); omega))) only [heap_drew, heap_drewN, heap_alloc_ne, heap_alloc_eq, heap_setCell_ne, heap_setRow_ne]; rfl; (intro v hv; simp at hv; rcases hv with rfl | rfl | rfl <;> rfl); rfl; rfl; simp (disch := (first | (simp only [World.size_alloc, World.size_setCell, World.size_drew, size_setRow, heap_drew, heap_drewN]; done) | ((try simp only [World.size_alloc, World.size_setCell, World.size_drew, size_setRow, heap_drew, heap_drewN]); omega))) only [setRow_alloc_top, setRow_alloc_under]))
  go_ret
  exact ⟨rfl, (((((k1.trans k2).alloc _).trans hx.kept).trans k3).trans k4).trans k6⟩
end Go.Proofs.Ytckopikeegegkaa
