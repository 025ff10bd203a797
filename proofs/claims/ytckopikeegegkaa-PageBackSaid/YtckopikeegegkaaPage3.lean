/- PAGE 3: the contract of Write. -/
import Derived.Test.YtckopikeegegkaaPage2
import Derived.Test.YtckopikeegegkaaRegIn
namespace Go.Proofs.Ytckopikeegegkaa
open Go.RowKit Go.MapKept Go.Shelf
set_option linter.unusedSimpArgs false
set_option linter.unusedVariables false
attribute [local go_sem] Oper.semAt_some
variable {p q m : Nat} {D : Dk}

theorem wrun_snoc (b : Str) (n : Int) (x : Fin 4) : ∀ (l : List (Fin 4)) (d : Dk), (wrun b n l d).1 = 0 →
    wrun b n (l ++ [x]) d = (wrun b n l d).2.write (n * 4 + (x.val : Int)) (sub b (x.val * 64) (x.val * 64 + 64))
  | [], d, _ => by
    simp only [List.nil_append, wrun]
    split
    · rename_i h; rw [← h]
    · rfl
  | y :: l, d, h => by
    simp only [List.cons_append, wrun] at h ⊢
    split
    · rename_i h0
      rw [if_pos h0] at h
      exact wrun_snoc b n x l _ h
    · rename_i h0
      rw [if_neg h0] at h
      exact absurd h h0
theorem wrun_fail (b : Str) (n : Int) (r : List (Fin 4)) : ∀ (l : List (Fin 4)) (d : Dk), (wrun b n l d).1 ≠ 0 → wrun b n (l ++ r) d = wrun b n l d
  | [], d, h => by simp [wrun] at h
  | y :: l, d, h => by
    simp only [List.cons_append, wrun] at h ⊢
    split
    · rename_i h0
      rw [if_pos h0] at h
      exact wrun_fail b n r l _ h
    · rfl
theorem rng_prefix (k : Nat) (h : k ≤ 4) : ∃ r, rng 4 = rng k ++ r := ⟨(List.finRange 4).drop k, by
  have : ∀ j : Fin 5, rng 4 = rng j.val ++ (List.finRange 4).drop j.val := by decide
  exact this ⟨k, by omega⟩⟩
theorem pgBody_length {b : Str} (h : b.length ≤ 254) : (pgBody b).length = 256 := by simp [pgBody]; omega

def Z254 : List Value := encB (List.replicate 254 0)
abbrev Z256 : List Value := .int .u8 0 :: .int .u8 0 :: Z254
theorem Z254_length : Z254.length = 254 := by unfold Z254; rw [encB_length]; exact List.length_replicate
theorem zero_page (w : World) : (zeroValue 92).run Try.prog w = .ok (.agg Z256.toArray) w := by kernel_rfl

set_option maxHeartbeats 1000000 in
theorem pwrite_bad (n : Int) (b : Str) (w : World) (h : DiskAt w p q m D) (hh : hasPage D n = false) :
    Calls Try.prog 21 #[.pointer (some ⟨p, 0, none⟩), .int .i64 n, .string (bs b)] w fun e w' =>
      e = .returned (.int .i64 5) ∧ DiskAt w' p q m D ∧ Keeps (dset p q m) w w' := by
  have lp := h.lt_p; have lq := h.lt_q; have lm := h.lt_m
  have hi : ∀ W, Keeps noB w W → Calls Try.prog 54 #[.pointer (some ⟨p, 0, none⟩), .int .i64 n] W fun e w' => e = .returned (.int .i64 5) ∧ W = w' := fun W k => by
    have := there_calls n W (h.keep k (fun q => q) (fun q => q) (fun q => q))
    rw [hh] at this; exact this
  clear hh
  refine calls_marks Try.func21 rfl ?_
  simp only [Try.ntmps21, List.size_toArray, List.length_cons, List.length_nil, Nat.reduceAdd, Nat.reduceSub, Array.replicate_succ, Array.replicate_zero, List.push_toArray, List.append_toArray, List.nil_append, List.cons_append]
  go_wp2_with (go_at_call 54; refine (hi _ (((Keeps.refl _ _).alloc _).alloc _)).mono ?_; rintro e w' ⟨rfl, rfl⟩)
  have k1 : Keeps noB w ((w.alloc (.cells #[.pointer (some ⟨p, 0, none⟩)] 25)).alloc (.cells #[.int .i64 5] 26)) := ((Keeps.refl _ _).alloc _).alloc _
  exact leaves_plain (results_cell1 rfl _ _ (w.heap.size + 1) (.int .i64 5) rfl (Try.isAgg26 _) (by simp)) ⟨rfl, h.keep k1 (fun q => q) (fun q => q) (fun q => q), k1.mono (fun _ _ q => q.elim)⟩
set_option maxHeartbeats 1000000 in
theorem pwrite_long (n : Int) (b : Str) (w : World) (h : DiskAt w p q m D) (hh : hasPage D n = true) (hb : decide (254 < (b.length : Int)) = true) :
    Calls Try.prog 21 #[.pointer (some ⟨p, 0, none⟩), .int .i64 n, .string (bs b)] w fun e w' =>
      e = .returned (.int .i64 40) ∧ DiskAt w' p q m D ∧ Keeps (dset p q m) w w' := by
  have lp := h.lt_p; have lq := h.lt_q; have lm := h.lt_m
  have hi : ∀ W, Keeps noB w W → Calls Try.prog 54 #[.pointer (some ⟨p, 0, none⟩), .int .i64 n] W fun e w' => e = .returned (.int .i64 0) ∧ W = w' := fun W k => by
    have := there_calls n W (h.keep k (fun q => q) (fun q => q) (fun q => q))
    rw [hh] at this; exact this
  clear hh
  refine calls_marks Try.func21 rfl ?_
  simp only [Try.ntmps21, List.size_toArray, List.length_cons, List.length_nil, Nat.reduceAdd, Nat.reduceSub, Array.replicate_succ, Array.replicate_zero, List.push_toArray, List.append_toArray, List.nil_append, List.cons_append]
  go_wp2_with (go_at_call 54; refine (hi _ (((Keeps.refl _ _).alloc _).alloc _)).mono ?_; rintro e w' ⟨rfl, rfl⟩)
  have k1 : Keeps noB w ((w.alloc (.cells #[.pointer (some ⟨p, 0, none⟩)] 25)).alloc (.cells #[.int .i64 40] 26)) := ((Keeps.refl _ _).alloc _).alloc _
  exact leaves_plain (results_cell1 rfl _ _ (w.heap.size + 1) (.int .i64 40) rfl (Try.isAgg26 _) (by simp)) ⟨rfl, h.keep k1 (fun q => q) (fun q => q) (fun q => q), k1.mono (fun _ _ q => q.elim)⟩

theorem body_cells {b : Str} (hl : b.length ≤ 254) :
    (Value.int .u8 ((b.length : Int) / 256) :: Value.int .u8 (b.length : Int) :: Z254).take 2 ++ encB b ++ (Value.int .u8 ((b.length : Int) / 256) :: Value.int .u8 (b.length : Int) :: Z254).drop (2 + b.length) = encB (pgBody b) := by
  have e1 : ((UInt8.ofNat (b.length / 256)).toNat : Int) = (b.length : Int) / 256 := by simp; omega
  have e2 : ((UInt8.ofNat (b.length % 256)).toNat : Int) = (b.length : Int) := by simp; omega
  have e3 : Z254.drop b.length = encB (List.replicate (254 - b.length) 0) := by
    unfold Z254 encB
    rw [← List.map_drop, List.drop_replicate]
  rw [show 2 + b.length = b.length + 1 + 1 by omega, List.drop_succ_cons, List.drop_succ_cons, e3]
  simp only [pgBody, encB, List.map_cons, List.map_append, e1, e2]
  rfl
set_option maxRecDepth 10000 in
set_option maxHeartbeats 1000000 in
theorem pwrite_good (n : Nat) (b : Str) (w : World) (h : DiskAt w p q m D) (hh : hasPage D n = true) (hb : decide (254 < (b.length : Int)) = false) :
    Calls Try.prog 21 #[.pointer (some ⟨p, 0, none⟩), .int .i64 n, .string (bs b)] w fun e w' =>
      e = .returned (.int .i64 (wrun (pgBody b) n (rng 4) D).1) ∧ DiskAt w' p q m (wrun (pgBody b) n (rng 4) D).2 ∧ Keeps (dset p q m) w w' := by
  have lp := h.lt_p; have lq := h.lt_q; have lm := h.lt_m
  have hi : ∀ W, Keeps noB w W → Calls Try.prog 54 #[.pointer (some ⟨p, 0, none⟩), .int .i64 n] W fun e w' => e = .returned (.int .i64 0) ∧ W = w' := fun W k => by
    have := there_calls n W (h.keep k (fun q => q) (fun q => q) (fun q => q))
    rw [hh] at this; exact this
  have hl : b.length ≤ 254 := by simp at hb; omega
  have hse := fun W => (callsIn_wide (n := 9)).1 (sectors_in Fence.wide 9 trivial rfl n W)
  have hbody := Lib.hid (body_cells hl)
  refine calls_marks Try.func21 rfl ?_
  simp only [Try.ntmps21, List.size_toArray, List.length_cons, List.length_nil, Nat.reduceAdd, Nat.reduceSub, Array.replicate_succ, Array.replicate_zero, List.push_toArray, List.append_toArray, List.nil_append, List.cons_append]
  go_wp2_with (first | (go_at_call 54; refine (hi _ (((Keeps.refl _ _).alloc _).alloc _)).mono ?_; rintro e w' ⟨rfl, rfl⟩) | (go_at_call 55; refine (hse _).mono ?_; rintro e w' ⟨rfl, rfl⟩) | (with_reducible refine wpl_alloc 92 Z256 rfl zero_page rfl ?_) | ((with_reducible apply wpl_build2 92 5 256 (z0 := .int .u8 0) (z1 := .int .u8 0) (Z := Z254) (hu := Try.underlying92) (hz := zero_page) (hs := Try.sizeOf5)); rfl; go_must (rfl; rfl; rfl; rfl; rfl)) | ((with_reducible apply wpl_store_all 92 (n := 256) (vs := .int .u8 ((b.length : Int) / 256) :: .int .u8 (b.length : Int) :: Z254) (hs := Try.sizeOf92) (L := Z256) (t := 92)); rfl; go_must (rfl; rfl; simp (disch := (first | (simp only [World.size_alloc, World.size_setCell, World.size_drew, size_setRow, heap_drew, heap_drewN]; done) | ((try simp only [World.size_alloc, World.size_setCell, World.size_drew, size_setRow, heap_drew, heap_drewN]); omega))) only [heap_drew, heap_drewN, heap_alloc_ne, heap_alloc_eq, heap_setCell_ne, heap_setRow_ne]; (simp [Z254_length]); (intro v hv; rcases List.mem_cons.1 hv with rfl | hv; rfl; rcases List.mem_cons.1 hv with rfl | hv; rfl; exact encB_one _ v hv); (simp [Z256, Z254_length]); rfl; simp (disch := (first | (simp only [World.size_alloc, World.size_setCell, World.size_drew, size_setRow, heap_drew, heap_drewN]; done) | ((try simp only [World.size_alloc, World.size_setCell, World.size_drew, size_setRow, heap_drew, heap_drewN]); omega))) only [setRow_alloc_top, setRow_alloc_under])) | ((with_reducible apply wpl_copyStr 35 9 5 (s := b) (hu := Try.underlying35) (hs := Try.sizeOf5) (L := .int .u8 ((b.length : Int) / 256) :: .int .u8 (b.length : Int) :: Z254) (t := 92)); rfl; go_must (rfl; rfl; simp (disch := (first | (simp only [World.size_alloc, World.size_setCell, World.size_drew, size_setRow, heap_drew, heap_drewN]; done) | ((try simp only [World.size_alloc, World.size_setCell, World.size_drew, size_setRow, heap_drew, heap_drewN]); omega))) only [heap_drew, heap_drewN, heap_alloc_ne, heap_alloc_eq, heap_setCell_ne, heap_setRow_ne]; exact hl; (simp [Z254_length]); rfl; rw [hbody.out]; simp (disch := (first | (simp only [World.size_alloc, World.size_setCell, World.size_drew, size_setRow, heap_drew, heap_drewN]; done) | ((try simp only [World.size_alloc, World.size_setCell, World.size_drew, size_setRow, heap_drew, heap_drewN]); omega))) only [setRow_alloc_top, setRow_alloc_under])))
  have k0 : Keeps noB w ((((w.alloc (.cells #[.pointer (some ⟨p, 0, none⟩)] 25)).alloc (.cells #[.int .i64 0] 26)).alloc (.cells (encB (pgBody b)).toArray 92)).alloc (.cells #[.int .i64 n] 3)) := ((((Keeps.refl _ _).alloc _).alloc _).alloc _).alloc _
  have f3 : ((((w.alloc (.cells #[.pointer (some ⟨p, 0, none⟩)] 25)).alloc (.cells #[.int .i64 0] 26)).alloc (.cells (encB (pgBody b)).toArray 92)).alloc (.cells #[.int .i64 n] 3)).heap[w.heap.size]? = some (.cells #[.pointer (some ⟨p, 0, none⟩)] 25) := by simp (disch := (first | (simp only [World.size_alloc, World.size_setCell, World.size_drew, size_setRow, heap_drew, heap_drewN]; done) | ((try simp only [World.size_alloc, World.size_setCell, World.size_drew, size_setRow, heap_drew, heap_drewN]); omega))) only [heap_drew, heap_drewN, heap_alloc_ne, heap_alloc_eq, heap_setCell_ne, heap_setRow_ne]
  have f6 : ((((w.alloc (.cells #[.pointer (some ⟨p, 0, none⟩)] 25)).alloc (.cells #[.int .i64 0] 26)).alloc (.cells (encB (pgBody b)).toArray 92)).alloc (.cells #[.int .i64 n] 3)).heap[w.heap.size + 1]? = some (.cells #[.int .i64 0] 26) := by simp (disch := (first | (simp only [World.size_alloc, World.size_setCell, World.size_drew, size_setRow, heap_drew, heap_drewN]; done) | ((try simp only [World.size_alloc, World.size_setCell, World.size_drew, size_setRow, heap_drew, heap_drewN]); omega))) only [heap_drew, heap_drewN, heap_alloc_ne, heap_alloc_eq, heap_setCell_ne, heap_setRow_ne]
  have f8 : ((((w.alloc (.cells #[.pointer (some ⟨p, 0, none⟩)] 25)).alloc (.cells #[.int .i64 0] 26)).alloc (.cells (encB (pgBody b)).toArray 92)).alloc (.cells #[.int .i64 n] 3)).heap[w.heap.size + 1 + 1]? = some (.cells (encB (pgBody b)).toArray 92) := by simp (disch := (first | (simp only [World.size_alloc, World.size_setCell, World.size_drew, size_setRow, heap_drew, heap_drewN]; done) | ((try simp only [World.size_alloc, World.size_setCell, World.size_drew, size_setRow, heap_drew, heap_drewN]); omega))) only [heap_drew, heap_drewN, heap_alloc_ne, heap_alloc_eq, heap_setCell_ne, heap_setRow_ne]
  have fn : ((((w.alloc (.cells #[.pointer (some ⟨p, 0, none⟩)] 25)).alloc (.cells #[.int .i64 0] 26)).alloc (.cells (encB (pgBody b)).toArray 92)).alloc (.cells #[.int .i64 n] 3)).heap[w.heap.size + 1 + 1 + 1]? = some (.cells #[.int .i64 n] 3) := by simp (disch := (first | (simp only [World.size_alloc, World.size_setCell, World.size_drew, size_setRow, heap_drew, heap_drewN]; done) | ((try simp only [World.size_alloc, World.size_setCell, World.size_drew, size_setRow, heap_drew, heap_drewN]); omega))) only [heap_drew, heap_drewN, heap_alloc_ne, heap_alloc_eq, heap_setCell_ne, heap_setRow_ne]
  have zW : ((((w.alloc (.cells #[.pointer (some ⟨p, 0, none⟩)] 25)).alloc (.cells #[.int .i64 0] 26)).alloc (.cells (encB (pgBody b)).toArray 92)).alloc (.cells #[.int .i64 n] 3)).heap.size = w.heap.size + 1 + 1 + 1 + 1 := by simp
  generalize ((((w.alloc (.cells #[.pointer (some ⟨p, 0, none⟩)] 25)).alloc (.cells #[.int .i64 0] 26)).alloc (.cells (encB (pgBody b)).toArray 92)).alloc (.cells #[.int .i64 n] 3)) = W1 at *
  have hD1 := h.keep k0 (fun q => q) (fun q => q) (fun q => q)
  have hn4 : (n : Int) ≤ 1000000 := by
    have := h.wf.small
    have h1 := hh
    simp only [hasPage, Bool.and_eq_true, decide_eq_true_eq] at h1
    have h2 := h1.2
    unfold pages at h2
    omega
  refine (wpIn_wide (n := 9)).1 ?_
  refine wpIn_rangeFunc_ownG (F := Fence.wide) rfl (by omega) (gf := 70) (lb := #[.pointer (some ⟨w.heap.size + 1 + 1 + 1, 0, none⟩)]) rfl trivial (enters_of Try.func70 (by kernel_rfl) rfl)
    (sectors_stops Fence.wide 8 trivial rfl (by omega) (w.heap.size + 1 + 1 + 1) n (by omega) hn4 W1 (by omega) (by simp [World.cell?, fn])) keepsBox_t (keepsBox_b (w := W1) (by omega)) (Below.refl _ _) (fun _ => rfl)
    (fun pre W => ∃ D', wrun (pgBody b) n pre D = (0, D') ∧ DiskAt W p q m D' ∧ Keeps (fun k => dset p q m k ∨ k = w.heap.size + 1) W1 W ∧ Boxed W (w.heap.size + 1) 26 (.int .i64 0))
    (fun c pre W => c = .ret ∧ ∃ e D', wrun (pgBody b) n pre D = (e, D') ∧ e ≠ 0 ∧ DiskAt W p q m D' ∧ Keeps (fun k => dset p q m k ∨ k = w.heap.size + 1) W1 W ∧ Boxed W (w.heap.size + 1) 26 (.int .i64 e))
    (own_of_below _ _ (fun s W ⟨_, _, _, k, _⟩ => k.size) (fun s W W' ⟨D', r1, r2, r3, r4⟩ k => ⟨D', r1, r2.same (k.block p (by omega)) (k.block q (by omega)) (k.block m (by omega)), r3.of_below_lt k (Nat.le_refl _), (k.block _ (by omega)).trans r4⟩))
    (fun c => own_of_below _ _ (fun s W ⟨_, _, _, _, _, _, k, _⟩ => k.size) (fun s W W' ⟨c1, e, D', r1, r0, r2, r3, r4⟩ k => ⟨c1, e, D', r1, r0, r2.same (k.block p (by omega)) (k.block q (by omega)) (k.block m (by omega)), r3.of_below_lt k (Nat.le_refl _), (k.block _ (by omega)).trans r4⟩))
    ⟨D, rfl, hD1, Keeps.refl _ _, f6⟩
    (fun x => { tmps := #[.pointer (some ⟨p, 0, none⟩), .int .i64 n, .string (bs b), .pointer (some ⟨w.heap.size, 0, none⟩), undef, undef, .pointer (some ⟨w.heap.size + 1, 0, none⟩), .int .i64 0,
      .pointer (some ⟨w.heap.size + 1 + 1, 0, none⟩), .int .i64 ((x.val : Int) * 64), .int .i64 ((n : Int) * 4 + (x.val : Int)), undef, .pointer (some ⟨p, 0, none⟩), .int .i64 n, .int .i64 0, .int .i64 0, .bool false, undef, .string (bs b), .int .i64 b.length,
      .bool false, .string (bs b), .int .i64 b.length, .int .i64 ((b.length : Int) / 256), .int .u8 ((b.length : Int) / 256), .string (bs b), .int .i64 b.length, .int .u8 b.length,
      .agg (Value.int .u8 ((b.length : Int) / 256) :: Value.int .u8 (b.length : Int) :: Z254).toArray, .slice (some ⟨w.heap.size + 1 + 1, 2, none⟩) 254 254, .string (bs b), .int .i64 b.length, .int .i64 n,
      .func (.func 70) #[] #[.pointer (some ⟨w.heap.size + 1 + 1 + 1, 0, none⟩)], .int .i64 ((x.val : Int) * 64), .int .i64 ((n : Int) * 4 + (x.val : Int)), undef, undef, undef, undef, undef, undef, undef, undef, undef, undef, undef], defers := [] }) ?assign ?body ?done ?stop
  case assign =>
    intro l x W K hK
    unfold secs
    gi_wp2
    exact hK
  case body =>
    rintro l pre x W ⟨D', r1, r2, r3, r4⟩ hlen
    have g3 : W.heap[w.heap.size]? = some (.cells #[.pointer (some ⟨p, 0, none⟩)] 25) := (r3.block _ (by omega) (by simp [dset]; omega)).trans f3
    have g8 : W.heap[w.heap.size + 1 + 1]? = some (.cells (encB (pgBody b)).toArray 92) := (r3.block _ (by omega) (by simp [dset]; omega)).trans f8
    have c3 : W.cell? ⟨w.heap.size, 0, none⟩ = some (.pointer (some ⟨p, 0, none⟩)) := by simp [World.cell?, g3]
    have c6 : W.cell? ⟨w.heap.size + 1, 0, none⟩ = some (.int .i64 0) := r4.cell
    have q6 : W.frozen? ⟨w.heap.size + 1, 0, none⟩ = false := r4.frozen
    have x0 : (0 : Int) ≤ (x.val : Int) * 64 := by omega
    have x1 : (x.val : Int) * 64 + 64 ≤ 256 := by have := x.isLt; omega
    have x2 : (0 : Int) ≤ (n : Int) * 4 + (x.val : Int) := by omega
    have x3 : (n : Int) * 4 + (x.val : Int) ≤ 9000000 := by have := x.isLt; omega
    gi_wp2
    refine wp_region_textIn [(0, true), (1, true), (2, true), (3, true), (4, true), (5, true), (6, true), (7, false), (8, true)] (fun W' => W'.cell? ⟨w.heap.size, 0, none⟩ = some (.pointer (some ⟨p, 0, none⟩)) ∧ W'.heap[w.heap.size + 1 + 1]? = some (.cells (encB (pgBody b)).toArray 92)) (by kernel_rfl) (by kernel_rfl) (fun ⟨_, _, q⟩ => q) (fun d _ _ _ _ h => by cases d <;> exact h) ⟨by simpa using c3, g8⟩ ?_
    have xw : IntKind.i64.wrap ((x.val : Int) * 64 + 64) = (x.val : Int) * 64 + 64 := IntWalk.i64_in _ (by omega)
    have xl := x.isLt
    iterate 5 (apply wpText_take; rfl; rfl; (intro W hS; (try dsimp only at hS); go_simp; exact rfl))
    simp only [Act.put, List.setIfInBounds_toArray, List.set_cons_succ, List.set_cons_zero]
    apply wpText_take (v := .slice (some ⟨w.heap.size + 1 + 1, x.val * 64, none⟩) 64 (256 - x.val * 64)); rfl; rfl; intro W' hS; refine exec_run (s := Instr.sliceAt 92 (.pointer (some ⟨w.heap.size + 1 + 1, 0, none⟩)) (some (.int .i64 ((x.val : Int) * 64))) (some (.int .i64 ((x.val : Int) * 64 + 64))) none) rfl ((run_sliceArr 92 5 256 1 _ 0 _ _ (x.val * 64) (x.val * 64 + 64) W' Try.underlying92 Try.sizeOf5 (by omega) (by omega) (by omega) (by omega) (by omega)).trans (by simp only [Nat.zero_add, Nat.mul_one, Nat.add_sub_cancel_left]))
    simp only [Act.put, List.setIfInBounds_toArray, List.set_cons_succ, List.set_cons_zero]
    have bl := pgBody_length hl
    have hseg : ((encB (pgBody b)).drop (x.val * 64)).take 64 = encB (sub (pgBody b) (x.val * 64) (x.val * 64 + 64)) := by
      unfold sub encB
      rw [← List.map_drop, ← List.map_take, Nat.add_sub_cancel_left]
    apply wpText_take (v := .string (bs (sub (pgBody b) (x.val * 64) (x.val * 64 + 64)))); rfl; rfl; intro W' hS; refine exec_run (s := convert 35 9 (.slice (some ⟨w.heap.size + 1 + 1, x.val * 64, none⟩) 64 (256 - x.val * 64))) rfl (run_bytes 35 9 5 _ _ _ _ _ _ _ _ Try.underlying35 Try.underlying5 Try.underlying9 hS.2 (by rw [encB_length]; omega) hseg)
    simp only [Act.put, List.setIfInBounds_toArray, List.set_cons_succ, List.set_cons_zero]
    generalize hsg : sub (pgBody b) (x.val * 64) (x.val * 64 + 64) = seg at *
    have hwr := write_calls ((n : Int) * 4 + (x.val : Int)) seg W.drew (r2.same rfl rfl rfl)
    have hsn := wrun_snoc (pgBody b) n x pre D (by rw [r1])
    rw [r1] at hsn
    simp only [hsg] at hsn
    have hfin : ∀ w2 w3, DiskAt w2 p q m (D'.write ((n : Int) * 4 + (x.val : Int)) seg).2 → Keeps (dset p q m) W.drew w2 → ∀ e, Boxed w3 (w.heap.size + 1) 26 (.int .i64 e) → Keeps (fun k => k = w.heap.size + 1) w2 w3 →
        KeepsFrom W1.heap.size W w3 ∧ keepsBox (w.heap.size + 1 + 1 + 1) W w3 ∧ DiskAt w3 p q m (D'.write ((n : Int) * 4 + (x.val : Int)) seg).2 ∧ Keeps (fun k => dset p q m k ∨ k = w.heap.size + 1) W1 w3 := by
      intro w2 w3 hd hk e hb hk2
      have hk3 : Keeps (fun k => dset p q m k ∨ k = w.heap.size + 1) W w3 := ((Keeps.refl _ W).drew.trans (hk.mono (fun _ _ q => .inl q))).trans (hk2.mono (fun _ _ q => .inr q))
      refine ⟨keepsFrom_of_keeps hk3 (fun k hk => ?_), ?_, hd.keep hk2 (by omega) (by omega) (by omega), r3.trans hk3⟩
      · simp only [dset] at hk; omega
      · exact hk3.cell 0 (by have := r3.size; omega) (by simp only [dset]; omega)
    have Hfin := Lib.hid hfin
    have Hsn := Lib.hid hsn
    have R3 := Lib.hid r3
    clear hfin hsn hsg hseg r1 r2 r3
    generalize hwv : D'.write ((n : Int) * 4 + (x.val : Int)) seg = dv at *
    obtain ⟨e1, D2⟩ := dv
    have Hwv := Lib.hid hwv
    clear hwv
    dsimp only at *
    by_cases hz : e1 = 0
    · subst hz
      apply wpText_go; rfl; rfl; intro K hK
      go_simp
      refine hwr.mono ?_
      rintro e w2 ⟨rfl, d2, k2⟩
      have s1 : w2.heap[w.heap.size]? = some (.cells #[.pointer (some ⟨p, 0, none⟩)] 25) := (k2.block _ (by have := R3.out.size; simp; omega) (by simp only [dset]; omega)).trans g3
      have s2 : w2.heap[w.heap.size + 1 + 1]? = some (.cells (encB (pgBody b)).toArray 92) := (k2.block _ (by have := R3.out.size; simp; omega) (by simp only [dset]; omega)).trans g8
      have s6 : Boxed w2 (w.heap.size + 1) 26 (.int .i64 0) := (k2.block _ (by have := R3.out.size; simp; omega) (by simp only [dset]; omega)).trans r4
      refine hK _ _ ⟨by simp [World.cell?, s1], s2⟩ ?_
      clear hK K
      (apply wpText_take; rfl; rfl; (intro W hS; (try dsimp only at hS); go_simp; exact rfl))
      simp only [Act.put, List.setIfInBounds_toArray, List.set_cons_succ, List.set_cons_zero]
      apply wpText_done
      gi_wp2
      obtain ⟨h1, h2, h3, h4⟩ := Hfin.out w2 w2 d2 k2 0 s6 (Keeps.refl _ _)
      exact ⟨h1, h2, D2, by rw [Hsn.out], h3, h4, s6⟩
    · have hzb : (e1 != 0) = true := by simpa using hz
      apply wpText_go; rfl; rfl; intro K hK
      go_simp
      refine hwr.mono ?_
      rintro e w2 ⟨rfl, d2, k2⟩
      have s1 : w2.heap[w.heap.size]? = some (.cells #[.pointer (some ⟨p, 0, none⟩)] 25) := (k2.block _ (by have := R3.out.size; simp; omega) (by simp only [dset]; omega)).trans g3
      have s2 : w2.heap[w.heap.size + 1 + 1]? = some (.cells (encB (pgBody b)).toArray 92) := (k2.block _ (by have := R3.out.size; simp; omega) (by simp only [dset]; omega)).trans g8
      have s6 : Boxed w2 (w.heap.size + 1) 26 (.int .i64 0) := (k2.block _ (by have := R3.out.size; simp; omega) (by simp only [dset]; omega)).trans r4
      refine hK _ _ ⟨by simp [World.cell?, s1], s2⟩ ?_
      clear hK K
      (apply wpText_take; rfl; rfl; (intro W hS; (try dsimp only at hS); go_simp; exact rfl))
      simp only [Act.put, List.setIfInBounds_toArray, List.set_cons_succ, List.set_cons_zero]
      apply wpText_done
      have t6 := s6.cell
      have u6 := s6.frozen
      gi_wp2
      have s7 : Boxed (w2.setCell ⟨w.heap.size + 1, 0, none⟩ (.int .i64 e1)) (w.heap.size + 1) 26 (.int .i64 e1) := by
        have := heap_setCell_same w2 (w.heap.size + 1) 0 _ _ (.int .i64 e1) s6
        exact this
      obtain ⟨h1, h2, h3, h4⟩ := Hfin.out w2 _ d2 k2 e1 s7 ((Keeps.refl (fun k => k = w.heap.size + 1) w2).setCell (a := ⟨w.heap.size + 1, 0, none⟩) (fun _ => rfl) _)
      exact ⟨h1, rfl, e1, D2, Hsn.out, hz, h3, h4, s7⟩
  case done =>
    rintro D0 ys W hD rfl ⟨D', r1, r2, r3, r4⟩ hK
    have c6 := r4.cell
    have q6 := r4.frozen
    have hne : D0 ≠ w.heap.size + 1 := by omega
    go_wp2
    have s7 : Boxed (W.setCell ⟨w.heap.size + 1, 0, none⟩ (.int .i64 0)) (w.heap.size + 1) 26 (.int .i64 0) := heap_setCell_same W (w.heap.size + 1) 0 _ _ (.int .i64 0) r4
    have kk : Keeps (dset p q m) w ((W.setCell ⟨w.heap.size + 1, 0, none⟩ (.int .i64 0)).putObj D0 (.deferred none)) :=
      ((((k0.mono (fun _ _ q => q.elim)).trans r3).setCell (a := ⟨w.heap.size + 1, 0, none⟩) (fun _ => .inr rfl) _).putObj (fun q => by omega) _).mono (fun k hk hs => by rcases hs with hs | hs; exact hs; omega)
    refine leaves_mark (D := D0) ((heap_setCell_ne _ _ _ _ _ hne).trans hK) (results_cell1 rfl _ _ (w.heap.size + 1) (.int .i64 0) rfl (Try.isAgg26 _) ?_) ⟨by rw [r1], ?_, kk⟩
    · have : ((W.setCell ⟨w.heap.size + 1, 0, none⟩ (.int .i64 0)).putObj D0 (.deferred none)).heap[w.heap.size + 1]? = some (.cells #[.int .i64 0] 26) := (putObj_ne _ _ _ _ (Ne.symm hne)).trans s7
      simp [World.cell?, this]
    · rw [r1]
      refine r2.same ?_ ?_ ?_ <;> (rw [putObj_ne _ _ _ _ (by omega), heap_setCell_ne _ _ _ _ _ (by omega)])
  case stop =>
    rintro D0 c pre W hD ⟨k, hk, rfl⟩ ⟨rfl, e, D', r1, r0, r2, r3, r4⟩ hK
    have c6 := r4.cell
    have hne : D0 ≠ w.heap.size + 1 := by omega
    obtain ⟨r, hr⟩ := rng_prefix k hk
    have hrun : wrun (pgBody b) n (rng 4) D = (e, D') := by rw [hr, wrun_fail _ _ _ _ _ (by rw [r1]; exact r0), r1]
    refine wpIn_wide.2 ?_
    go_wp2
    have kk : Keeps (dset p q m) w (W.putObj D0 (.deferred none)) :=
      (((k0.mono (fun _ _ q => q.elim)).trans r3).putObj (fun q => by omega) _).mono (fun k hk hs => by rcases hs with hs | hs; exact hs; omega)
    refine leaves_mark (D := D0) hK (results_cell1 rfl _ _ (w.heap.size + 1) (.int .i64 e) rfl (Try.isAgg26 _) ?_) ⟨by rw [hrun], ?_, kk⟩
    · have : (W.putObj D0 (.deferred none)).heap[w.heap.size + 1]? = some (.cells #[.int .i64 e] 26) := (putObj_ne _ _ _ _ (Ne.symm hne)).trans r4
      simp [World.cell?, this]
    · rw [hrun]
      refine r2.same ?_ ?_ ?_ <;> exact putObj_ne _ _ _ _ (by omega)
theorem pwrite_calls (n : Int) (b : Str) (w : World) (h : DiskAt w p q m D) :
    Calls Try.prog 21 #[.pointer (some ⟨p, 0, none⟩), .int .i64 n, .string (bs b)] w fun e w' =>
      e = .returned (.int .i64 (pgWrite D n b).1) ∧ DiskAt w' p q m (pgWrite D n b).2 ∧ Keeps (dset p q m) w w' := by
  cases hh : hasPage D n with
  | false =>
    have e : pgWrite D n b = (5, D) := by simp [pgWrite, hh]
    rw [e]; exact pwrite_bad n b w h hh
  | true =>
    by_cases hb : 254 < b.length
    · have e : pgWrite D n b = (40, D) := by simp [pgWrite, hh, hb]
      rw [e]; exact pwrite_long n b w h hh (by simp; omega)
    · have e : pgWrite D n b = wrun (pgBody b) n (rng 4) D := by simp [pgWrite, hh, hb]
      rw [e]
      obtain ⟨k, rfl⟩ : ∃ k : Nat, n = k := ⟨n.toNat, by unfold hasPage at hh; simp at hh; omega⟩
      exact pwrite_good k b w h hh (by simp; omega)
end Go.Proofs.Ytckopikeegegkaa
