/- PAGE 6: the contract of Read. -/
import Derived.Test.YtckopikeegegkaaPage5
import Derived.Test.YtckopikeegegkaaPage3
namespace Go.Proofs.Ytckopikeegegkaa
open Go.RowKit Go.MapKept Go.Shelf
set_option linter.unusedSimpArgs false
set_option linter.unusedVariables false
attribute [local go_sem] Oper.semAt_some
variable {p q m : Nat} {D : Dk}

def gotS (D : Dk) (n : Nat) (s : Str) (x : Fin 4) : Str := s.take (x.val * 64) ++ D.now (4 * n + x.val) ++ s.drop (x.val * 64 + 64)
def got (D : Dk) (n : Nat) (pre : List (Fin 4)) : Str := pre.foldl (gotS D n) (List.replicate 256 0)
theorem gotS_length {n : Nat} (hs : ∀ x : Fin 4, (D.now (4 * n + x.val)).length = 64) (s : Str) (h : s.length = 256) (x : Fin 4) : (gotS D n s x).length = 256 := by
  have := x.isLt
  simp [gotS, hs, h]; omega
theorem got_length {n : Nat} (hs : ∀ x : Fin 4, (D.now (4 * n + x.val)).length = 64) (pre : List (Fin 4)) : (got D n pre).length = 256 := by
  have : ∀ (l : List (Fin 4)) (s : Str), s.length = 256 → (l.foldl (gotS D n) s).length = 256 := by
    intro l
    induction l with
    | nil => intro s h; exact h
    | cons x l ih => intro s h; exact ih _ (gotS_length hs s h x)
  exact this pre _ (by rw [List.length_replicate])
theorem got_snoc (n : Nat) (pre : List (Fin 4)) (x : Fin 4) : got D n (pre ++ [x]) = gotS D n (got D n pre) x := by unfold got; rw [List.foldl_append]; rfl
theorem splice_all {a b c d z : Str} (ha : a.length = 64) (hb : b.length = 64) (hc : c.length = 64) (hd : d.length = 64) (hz : z.length = 256) :
    (let s1 := z.take 0 ++ a ++ z.drop 64
     let s2 := s1.take 64 ++ b ++ s1.drop 128
     let s3 := s2.take 128 ++ c ++ s2.drop 192
     s3.take 192 ++ d ++ s3.drop 256) = a ++ (b ++ (c ++ d)) := by
  simp only [List.take_zero, List.nil_append]
  have e1 : (a ++ z.drop 64).take 64 = a := by rw [List.take_append_of_le_length (by omega), List.take_of_length_le (by omega)]
  rw [e1]
  have e2 : (a ++ b ++ (a ++ z.drop 64).drop 128).take 128 = a ++ b := by rw [List.take_append_of_le_length (by simp; omega), List.take_of_length_le (by simp; omega)]
  rw [e2]
  have e3 : ∀ r, (a ++ b ++ c ++ r : Str).take 192 = a ++ b ++ c := fun r => by rw [List.take_append_of_le_length (by simp; omega), List.take_of_length_le (by simp; omega)]
  rw [e3]
  rw [List.drop_of_length_le]
  · simp
  · simp; omega
theorem got_all {n : Nat} (hs : ∀ x : Fin 4, (D.now (4 * n + x.val)).length = 64) : got D n (rng 4) = pageOf D n := by
  have e : rng 4 = [0, 1, 2, 3] := by decide
  rw [e]
  exact splice_all (hs 0) (hs 1) (hs 2) (hs 3) (by rw [List.length_replicate])

theorem or_two' (a b : UInt8) : bits .or .i64 ((a.toNat : Int) * 256) (b.toNat : Int) = ((a.toNat * 256 + b.toNat : Nat) : Int) := by
  have := or_two a b
  have ha := a.toNat_lt
  have hb := b.toNat_lt
  rwa [IntWalk.i64_in (a.toNat : Int) (by omega), IntWalk.i64_in (b.toNat : Int) (by omega), IntWalk.i64_in ((a.toNat : Int) * 256) (by omega)] at this
theorem z256_enc {n : Nat} : Z256 = encB (got D n []) := rfl
set_option maxHeartbeats 1000000 in
theorem pread_bad (n : Int) (w : World) (h : DiskAt w p q m D) (hh : hasPage D n = false) :
    Calls Try.prog 19 #[.pointer (some ⟨p, 0, none⟩), .int .i64 n] w fun e w' =>
      e = .returned (.tuple #[.string (bs []), .int .i64 5]) ∧ Keeps noB w w' := by
  have lp := h.lt_p; have lq := h.lt_q; have lm := h.lt_m
  have hi : ∀ W, Keeps noB w W → Calls Try.prog 54 #[.pointer (some ⟨p, 0, none⟩), .int .i64 n] W fun e w' => e = .returned (.int .i64 5) ∧ W = w' := fun W k => by
    have := there_calls n W (h.keep k (fun q => q) (fun q => q) (fun q => q))
    rw [hh] at this; exact this
  clear hh
  refine calls_marks Try.func19 rfl ?_
  simp only [Try.ntmps19, List.size_toArray, List.length_cons, List.length_nil, Nat.reduceAdd, Nat.reduceSub, Array.replicate_succ, Array.replicate_zero, List.push_toArray, List.append_toArray, List.nil_append, List.cons_append]
  go_wp2_with (go_at_call 54; refine (hi _ ((((Keeps.refl _ _).alloc _).alloc _).alloc _)).mono ?_; rintro e w' ⟨rfl, rfl⟩)
  have k1 : Keeps noB w (((w.alloc (.cells #[.pointer (some ⟨p, 0, none⟩)] 25)).alloc (.cells #[.string (bs [])] 9)).alloc (.cells #[.int .i64 5] 26)) := (((Keeps.refl _ _).alloc _).alloc _).alloc _
  have g4 : Boxed (((w.alloc (.cells #[.pointer (some ⟨p, 0, none⟩)] 25)).alloc (.cells #[.string (bs [])] 9)).alloc (.cells #[.int .i64 5] 26)) (w.heap.size + 1) 9 (.string (bs [])) := by unfold Boxed; simp (disch := (first | (simp only [World.size_alloc, World.size_setCell, World.size_drew, size_setRow, heap_drew, heap_drewN]; done) | ((try simp only [World.size_alloc, World.size_setCell, World.size_drew, size_setRow, heap_drew, heap_drewN]); omega))) only [heap_drew, heap_drewN, heap_alloc_ne, heap_alloc_eq, heap_setCell_ne, heap_setRow_ne]
  have g5 : Boxed (((w.alloc (.cells #[.pointer (some ⟨p, 0, none⟩)] 25)).alloc (.cells #[.string (bs [])] 9)).alloc (.cells #[.int .i64 5] 26)) (w.heap.size + 1 + 1) 26 (.int .i64 5) := by unfold Boxed; simp (disch := (first | (simp only [World.size_alloc, World.size_setCell, World.size_drew, size_setRow, heap_drew, heap_drewN]; done) | ((try simp only [World.size_alloc, World.size_setCell, World.size_drew, size_setRow, heap_drew, heap_drewN]); omega))) only [heap_drew, heap_drewN, heap_alloc_ne, heap_alloc_eq, heap_setCell_ne, heap_setRow_ne]
  exact leaves_plain (results_cell2 rfl _ _ (w.heap.size + 1) (w.heap.size + 1 + 1) (.string (bs [])) (.int .i64 5) rfl (Try.isAgg9 _) g4.cell rfl (Try.isAgg26 _) g5.cell) ⟨rfl, k1⟩

set_option maxRecDepth 10000 in
set_option maxHeartbeats 1000000 in
theorem pread_good (n : Nat) (w : World) (h : DiskAt w p q m D) (hh : hasPage D n = true) :
    Calls Try.prog 19 #[.pointer (some ⟨p, 0, none⟩), .int .i64 n] w fun e w' =>
      e = .returned (.tuple #[.string (bs (pgRead D n).1), .int .i64 (pgRead D n).2]) ∧ Keeps noB w w' := by
  have lp := h.lt_p; have lq := h.lt_q; have lm := h.lt_m
  have hi : ∀ W, Keeps noB w W → Calls Try.prog 54 #[.pointer (some ⟨p, 0, none⟩), .int .i64 n] W fun e w' => e = .returned (.int .i64 0) ∧ W = w' := fun W k => by
    have := there_calls n W (h.keep k (fun q => q) (fun q => q) (fun q => q))
    rw [hh] at this; exact this
  have hse := fun W => (callsIn_wide (n := 9)).1 (sectors_in Fence.wide 9 trivial rfl n W)
  have hn4 : (n : Int) ≤ 1000000 ∧ n * 4 + 3 < D.there.length := by
    have := h.wf.small
    have h1 := hh
    simp only [hasPage, Bool.and_eq_true, decide_eq_true_eq] at h1
    have h2 := h1.2
    unfold pages at h2
    omega
  have hnow : ∀ x : Fin 4, (D.now (4 * n + x.val)).length = 64 := fun x => now_length h.wf (by omega)
  have hpr : pgRead D n = if 254 < ((pageOf D n).getD 0 0).toNat * 256 + ((pageOf D n).getD 1 0).toNat then ([], 4) else (((pageOf D n).drop 2).take (((pageOf D n).getD 0 0).toNat * 256 + ((pageOf D n).getD 1 0).toNat), 0) := by
    simp only [pgRead, hh, Int.toNat_natCast, Bool.not_true, Bool.false_eq_true, if_false]
  refine calls_marks Try.func19 rfl ?_
  simp only [Try.ntmps19, List.size_toArray, List.length_cons, List.length_nil, Nat.reduceAdd, Nat.reduceSub, Array.replicate_succ, Array.replicate_zero, List.push_toArray, List.append_toArray, List.nil_append, List.cons_append]
  go_wp2_with (first | (go_at_call 54; refine (hi _ ((((Keeps.refl _ _).alloc _).alloc _).alloc _)).mono ?_; rintro e w' ⟨rfl, rfl⟩) | (go_at_call 55; refine (hse _).mono ?_; rintro e w' ⟨rfl, rfl⟩) | (with_reducible refine wpl_alloc 92 Z256 rfl zero_page rfl ?_))
  have k0 : Keeps noB w ((((((w.alloc (.cells #[.pointer (some ⟨p, 0, none⟩)] 25)).alloc (.cells #[.string (bs [])] 9)).alloc (.cells #[.int .i64 0] 26)).alloc (.cells Z256.toArray 92)).alloc (.cells #[.int .i64 n] 3))) := (((((Keeps.refl _ _).alloc _).alloc _).alloc _).alloc _).alloc _
  have f2 : Boxed ((((((w.alloc (.cells #[.pointer (some ⟨p, 0, none⟩)] 25)).alloc (.cells #[.string (bs [])] 9)).alloc (.cells #[.int .i64 0] 26)).alloc (.cells Z256.toArray 92)).alloc (.cells #[.int .i64 n] 3))) w.heap.size 25 (.pointer (some ⟨p, 0, none⟩)) := by unfold Boxed; simp (disch := (first | (simp only [World.size_alloc, World.size_setCell, World.size_drew, size_setRow, heap_drew, heap_drewN]; done) | ((try simp only [World.size_alloc, World.size_setCell, World.size_drew, size_setRow, heap_drew, heap_drewN]); omega))) only [heap_drew, heap_drewN, heap_alloc_ne, heap_alloc_eq, heap_setCell_ne, heap_setRow_ne]
  have f4 : Boxed ((((((w.alloc (.cells #[.pointer (some ⟨p, 0, none⟩)] 25)).alloc (.cells #[.string (bs [])] 9)).alloc (.cells #[.int .i64 0] 26)).alloc (.cells Z256.toArray 92)).alloc (.cells #[.int .i64 n] 3))) (w.heap.size + 1) 9 (.string (bs [])) := by unfold Boxed; simp (disch := (first | (simp only [World.size_alloc, World.size_setCell, World.size_drew, size_setRow, heap_drew, heap_drewN]; done) | ((try simp only [World.size_alloc, World.size_setCell, World.size_drew, size_setRow, heap_drew, heap_drewN]); omega))) only [heap_drew, heap_drewN, heap_alloc_ne, heap_alloc_eq, heap_setCell_ne, heap_setRow_ne]
  have f5 : Boxed ((((((w.alloc (.cells #[.pointer (some ⟨p, 0, none⟩)] 25)).alloc (.cells #[.string (bs [])] 9)).alloc (.cells #[.int .i64 0] 26)).alloc (.cells Z256.toArray 92)).alloc (.cells #[.int .i64 n] 3))) (w.heap.size + 1 + 1) 26 (.int .i64 0) := by unfold Boxed; simp (disch := (first | (simp only [World.size_alloc, World.size_setCell, World.size_drew, size_setRow, heap_drew, heap_drewN]; done) | ((try simp only [World.size_alloc, World.size_setCell, World.size_drew, size_setRow, heap_drew, heap_drewN]); omega))) only [heap_drew, heap_drewN, heap_alloc_ne, heap_alloc_eq, heap_setCell_ne, heap_setRow_ne]
  have f7 : ((((((w.alloc (.cells #[.pointer (some ⟨p, 0, none⟩)] 25)).alloc (.cells #[.string (bs [])] 9)).alloc (.cells #[.int .i64 0] 26)).alloc (.cells Z256.toArray 92)).alloc (.cells #[.int .i64 n] 3))).heap[w.heap.size + 1 + 1 + 1]? = some (.cells Z256.toArray 92) := by simp (disch := (first | (simp only [World.size_alloc, World.size_setCell, World.size_drew, size_setRow, heap_drew, heap_drewN]; done) | ((try simp only [World.size_alloc, World.size_setCell, World.size_drew, size_setRow, heap_drew, heap_drewN]); omega))) only [heap_drew, heap_drewN, heap_alloc_ne, heap_alloc_eq, heap_setCell_ne, heap_setRow_ne]
  have fn : Boxed ((((((w.alloc (.cells #[.pointer (some ⟨p, 0, none⟩)] 25)).alloc (.cells #[.string (bs [])] 9)).alloc (.cells #[.int .i64 0] 26)).alloc (.cells Z256.toArray 92)).alloc (.cells #[.int .i64 n] 3))) (w.heap.size + 1 + 1 + 1 + 1) 3 (.int .i64 n) := by unfold Boxed; simp (disch := (first | (simp only [World.size_alloc, World.size_setCell, World.size_drew, size_setRow, heap_drew, heap_drewN]; done) | ((try simp only [World.size_alloc, World.size_setCell, World.size_drew, size_setRow, heap_drew, heap_drewN]); omega))) only [heap_drew, heap_drewN, heap_alloc_ne, heap_alloc_eq, heap_setCell_ne, heap_setRow_ne]
  have zW : ((((((w.alloc (.cells #[.pointer (some ⟨p, 0, none⟩)] 25)).alloc (.cells #[.string (bs [])] 9)).alloc (.cells #[.int .i64 0] 26)).alloc (.cells Z256.toArray 92)).alloc (.cells #[.int .i64 n] 3))).heap.size = w.heap.size + 1 + 1 + 1 + 1 + 1 := by simp
  change Code.wp _ _ _ _ ((((((w.alloc (.cells #[.pointer (some ⟨p, 0, none⟩)] 25)).alloc (.cells #[.string (bs [])] 9)).alloc (.cells #[.int .i64 0] 26)).alloc (.cells Z256.toArray 92)).alloc (.cells #[.int .i64 n] 3)))
  generalize ((((((w.alloc (.cells #[.pointer (some ⟨p, 0, none⟩)] 25)).alloc (.cells #[.string (bs [])] 9)).alloc (.cells #[.int .i64 0] 26)).alloc (.cells Z256.toArray 92)).alloc (.cells #[.int .i64 n] 3))) = W1 at *
  have e7 : Z256 = encB (got D n []) := z256_enc
  rw [e7] at f7
  have hD1 := h.keep k0 (fun q => q) (fun q => q) (fun q => q)
  refine (wpIn_wide (n := 9)).1 ?_
  refine wpIn_rangeFunc_ownG (F := Fence.wide) rfl (by omega) (gf := 70) (lb := #[.pointer (some ⟨w.heap.size + 1 + 1 + 1 + 1, 0, none⟩)]) rfl trivial (enters_of Try.func70 (by kernel_rfl) rfl)
    (sectors_stops Fence.wide 8 trivial rfl (by omega) (w.heap.size + 1 + 1 + 1 + 1) n (by omega) hn4.1 W1 (by omega) fn.cell) keepsBox_t (keepsBox_b (w := W1) (by omega)) (Below.refl _ _) (fun _ => rfl)
    (fun pre W => W.heap[w.heap.size + 1 + 1 + 1]? = some (.cells (encB (got D n pre)).toArray 92) ∧ Keeps (fun k => k = w.heap.size + 1 + 1 + 1) W1 W)
    (fun c pre W => False)
    (own_of_below _ _ (fun s W ⟨_, k⟩ => k.size) (fun s W W' ⟨r1, r3⟩ k => ⟨(k.block _ (by omega)).trans r1, r3.of_below_lt k (Nat.le_refl _)⟩))
    (fun c => own_of_below _ _ (fun s W q => q.elim) (fun s W W' q k => q.elim))
    ⟨f7, Keeps.refl _ _⟩
    (fun x => { tmps := #[.pointer (some ⟨p, 0, none⟩), .int .i64 n, .pointer (some ⟨w.heap.size, 0, none⟩), undef, .pointer (some ⟨w.heap.size + 1, 0, none⟩), .pointer (some ⟨w.heap.size + 1 + 1, 0, none⟩), .int .i64 0, .pointer (some ⟨w.heap.size + 1 + 1 + 1, 0, none⟩), .int .i64 ((x.val : Int) * 64), .int .i64 ((n : Int) * 4 + (x.val : Int)), undef, undef, undef, .pointer (some ⟨p, 0, none⟩), .int .i64 n, .int .i64 0, .int .i64 0, .bool false, undef, .int .i64 n, .func (.func 70) #[] #[.pointer (some ⟨w.heap.size + 1 + 1 + 1 + 1, 0, none⟩)], .int .i64 ((x.val : Int) * 64), .int .i64 ((n : Int) * 4 + (x.val : Int)), undef, undef, undef, undef, undef, undef, undef, undef, undef, undef, undef, undef, undef, undef, undef, undef, undef, undef, undef, undef, undef, undef, undef, undef, undef, undef, undef], defers := [] }) ?assign ?body ?done ?stop
  case assign =>
    intro l x W K hK
    unfold secs
    gi_wp2
    exact hK
  case body =>
    rintro l pre x W ⟨r1, r3⟩ hlen
    have c2 : W.cell? ⟨w.heap.size, 0, none⟩ = some (.pointer (some ⟨p, 0, none⟩)) := Boxed.cell (t := 25) ((r3.block _ (by omega) (by omega)).trans f2)
    have hrd := read_calls ((n : Int) * 4 + (x.val : Int)) W (hD1.keep r3 (by omega) (by omega) (by omega))
    have xl := x.isLt
    have e1 : D.read ((n : Int) * 4 + (x.val : Int)) = (D.now (4 * n + x.val), 0) := by
      have : D.has ((n : Int) * 4 + (x.val : Int)) = true := by simp [Dk.has]; omega
      simp only [Dk.read, this, if_true]
      congr 2
      omega
    rw [e1] at hrd
    have tl := hnow x
    have gl := got_length hnow pre
    have hsn := got_snoc (D := D) n pre x
    have hfin : ∀ W2, Keeps noB W W2 → W2.heap[w.heap.size + 1 + 1 + 1]? = some (.cells (encB (got D n pre)).toArray 92) ∧ ∀ W3, W3.heap[w.heap.size + 1 + 1 + 1]? = some (.cells (encB (got D n (pre ++ [x]))).toArray 92) → Keeps (fun k => k = w.heap.size + 1 + 1 + 1) W2 W3 →
        KeepsFrom W1.heap.size W W3 ∧ keepsBox (w.heap.size + 1 + 1 + 1 + 1) W W3 ∧ W3.heap[w.heap.size + 1 + 1 + 1]? = some (.cells (encB (got D n (pre ++ [x]))).toArray 92) ∧ Keeps (fun k => k = w.heap.size + 1 + 1 + 1) W1 W3 := by
      intro W2 k2
      refine ⟨(k2.block _ (by have := r3.size; omega) (fun q => q)).trans r1, fun W3 h3 k3 => ?_⟩
      have hk3 : Keeps (fun k => k = w.heap.size + 1 + 1 + 1) W W3 := (k2.mono (fun _ _ q => q.elim)).trans k3
      refine ⟨keepsFrom_of_keeps hk3 (fun k hk => by omega), hk3.cell 0 (by have := r3.size; omega) (by omega), h3, r3.trans hk3⟩
    rw [hsn] at hfin
    have Hfin := Lib.hid hfin
    have Hsn := Lib.hid hsn
    clear hfin hsn e1
    have x0 : (0 : Int) ≤ (x.val : Int) * 64 := by omega
    have x1 : (x.val : Int) * 64 + 64 ≤ 256 := by omega
    unfold gotS at Hfin Hsn
    generalize D.now (4 * n + x.val) = tt at *
    gi_wp2_with (first | (refine And.intro (a := Fence.wide.fn _) trivial ?_) | (gi_at_call 24; refine CallsIn.inRound _ (callsIn_wide.2 (hrd.mono ?_)); rintro e W2 ⟨rfl, k2⟩))
    obtain ⟨h1, h2⟩ := Hfin.out W2 k2
    rw [run_sliceArrLo 92 5 256 1 (w.heap.size + 1 + 1 + 1) 0 _ (x.val * 64) W2 Try.underlying92 Try.sizeOf5 (by omega) (by omega)]
    gi_wp2
    rw [run_copyStr 35 9 5 _ _ (x.val * 64) _ _ tt _ _ Try.underlying35 Try.sizeOf5 h1 (by omega) (by rw [encB_length]; omega)]
    gi_wp2
    have e5 : (encB (got D n pre)).take (x.val * 64) ++ (encB tt ++ (encB (got D n pre)).drop (x.val * 64 + 64)) = encB ((got D n pre).take (x.val * 64) ++ tt ++ (got D n pre).drop (x.val * 64 + 64)) := by
      simp only [encB, List.map_append, List.map_take, List.map_drop, List.append_assoc]
    rw [e5]
    obtain ⟨h6, h7, h8, h9⟩ := h2 _ (setRow_eq W2 (w.heap.size + 1 + 1 + 1) _ _ _ _ h1) ((Keeps.refl (fun k => k = w.heap.size + 1 + 1 + 1) W2).setRow (fun _ => rfl) _)
    exact ⟨h6, h7, by rw [Hsn.out]; exact h8, h9⟩
  case done =>
    rintro D0 ys W hD rfl ⟨r1, r3⟩ hK
    rw [got_all hnow] at r1
    have b4 : Boxed W (w.heap.size + 1) 9 (.string (bs [])) := (r3.block _ (by omega) (by omega)).trans f4
    have b5 : Boxed W (w.heap.size + 1 + 1) 26 (.int .i64 0) := (r3.block _ (by omega) (by omega)).trans f5
    have al : (pageOf D n).length = 256 := by rw [← got_all hnow]; exact got_length hnow _
    generalize pageOf D n = all at *
    have c4 := b4.cell
    have q4 := b4.frozen
    have c5 := b5.cell
    have q5 := b5.frozen
    have c0 : W.cell? ⟨w.heap.size + 1 + 1 + 1, 0, none⟩ = some (.int .u8 (all.getD 0 0).toNat) := by
      have : (encB all)[0]? = some (.int .u8 (all.getD 0 0).toNat) := by simp [encB, List.getD_eq_getElem?_getD, al]
      simp [World.cell?, r1, this]
    have c1 : W.cell? ⟨w.heap.size + 1 + 1 + 1, 1, none⟩ = some (.int .u8 (all.getD 1 0).toNat) := by
      have : (encB all)[1]? = some (.int .u8 (all.getD 1 0).toNat) := by simp [encB, List.getD_eq_getElem?_getD, al]
      simp [World.cell?, r1, this]
    have o2 := or_two' (all.getD 0 0) (all.getD 1 0)
    have u0 := (all.getD 0 0).toNat_lt
    have u1 := (all.getD 1 0).toNat_lt
    generalize (all.getD 0 0).toNat = x0 at *
    generalize (all.getD 1 0).toNat = x1 at *
    have kk : ∀ (s : Str) (e : Int), Keeps noB w (((W.setCell ⟨w.heap.size + 1, 0, none⟩ (.string (bs s))).setCell ⟨w.heap.size + 1 + 1, 0, none⟩ (.int .i64 e)).putObj D0 (.deferred none)) := fun s e =>
      (((((k0.mono (fun _ _ q => q.elim)).trans r3).setCell (a := ⟨w.heap.size + 1, 0, none⟩) (fun q => by simp only [] at q; omega) _).setCell (a := ⟨w.heap.size + 1 + 1, 0, none⟩) (fun q => by simp only [] at q; omega) _).putObj (fun q => by omega) _).mono (fun k hk hs => by omega)
    by_cases hl : 254 < x0 * 256 + x1
    · rw [if_pos hl] at hpr
      have d1 : decide (254 < ((x0 * 256 + x1 : Nat) : Int)) = true := by simp; omega
      generalize x0 * 256 + x1 = long at *
      have Hpr := Lib.hid hpr
      clear hpr hl
      go_wp2
      have z4 : Boxed ((W.setCell ⟨w.heap.size + 1, 0, none⟩ (.string (bs []))).setCell ⟨w.heap.size + 1 + 1, 0, none⟩ (.int .i64 4)) (w.heap.size + 1) 9 (.string (bs [])) :=
        (heap_setCell_ne _ _ _ _ _ (by omega)).trans (heap_setCell_same W (w.heap.size + 1) 0 _ _ _ b4)
      have z5 : Boxed ((W.setCell ⟨w.heap.size + 1, 0, none⟩ (.string (bs []))).setCell ⟨w.heap.size + 1 + 1, 0, none⟩ (.int .i64 4)) (w.heap.size + 1 + 1) 26 (.int .i64 4) :=
        heap_setCell_same _ (w.heap.size + 1 + 1) 0 _ _ _ ((heap_setCell_ne _ _ _ _ _ (by omega)).trans b5)
      refine leaves_mark (D := D0) ((heap_setCell_ne _ _ _ _ _ (by omega)).trans ((heap_setCell_ne _ _ _ _ _ (by omega)).trans hK))
        (results_cell2 rfl _ _ (w.heap.size + 1) (w.heap.size + 1 + 1) (.string (bs [])) (.int .i64 4) rfl (Try.isAgg9 _) (Boxed.cell (t := 9) ((putObj_ne _ _ _ _ (by omega)).trans z4)) rfl (Try.isAgg26 _) (Boxed.cell (t := 26) ((putObj_ne _ _ _ _ (by omega)).trans z5))) ⟨by rw [Hpr.out], kk [] 4⟩
    · rw [if_neg hl] at hpr
      have d1 : decide (254 < ((x0 * 256 + x1 : Nat) : Int)) = false := by simp; omega
      generalize x0 * 256 + x1 = long at *
      have Hpr := Lib.hid hpr
      clear hpr
      have hle : (long : Int) ≤ 254 := by omega
      have hseg : ((encB all).drop 2).take long = encB ((all.drop 2).take long) := by
        unfold encB
        rw [← List.map_drop, ← List.map_take]
      go_wp2
      rw [run_sliceArr 92 5 256 1 (w.heap.size + 1 + 1 + 1) 0 _ _ 2 (2 + long) W Try.underlying92 Try.sizeOf5 (by omega) (by omega) (by omega) (by omega) (by omega)]
      go_wp2
      rw [run_bytes 35 9 5 (w.heap.size + 1 + 1 + 1) 2 long 254 (encB all) 92 (0, 0) ((all.drop 2).take long) Try.underlying35 Try.underlying5 Try.underlying9 r1 (by rw [encB_length]; omega) hseg]
      go_wp2
      have z4 : Boxed ((W.setCell ⟨w.heap.size + 1, 0, none⟩ (.string (bs ((all.drop 2).take long)))).setCell ⟨w.heap.size + 1 + 1, 0, none⟩ (.int .i64 0)) (w.heap.size + 1) 9 (.string (bs ((all.drop 2).take long))) :=
        (heap_setCell_ne _ _ _ _ _ (by omega)).trans (heap_setCell_same W (w.heap.size + 1) 0 _ _ _ b4)
      have z5 : Boxed ((W.setCell ⟨w.heap.size + 1, 0, none⟩ (.string (bs ((all.drop 2).take long)))).setCell ⟨w.heap.size + 1 + 1, 0, none⟩ (.int .i64 0)) (w.heap.size + 1 + 1) 26 (.int .i64 0) :=
        heap_setCell_same _ (w.heap.size + 1 + 1) 0 _ _ _ ((heap_setCell_ne _ _ _ _ _ (by omega)).trans b5)
      refine leaves_mark (D := D0) ((heap_setCell_ne _ _ _ _ _ (by omega)).trans ((heap_setCell_ne _ _ _ _ _ (by omega)).trans hK))
        (results_cell2 rfl _ _ (w.heap.size + 1) (w.heap.size + 1 + 1) (.string (bs ((all.drop 2).take long))) (.int .i64 0) rfl (Try.isAgg9 _) (Boxed.cell (t := 9) ((putObj_ne _ _ _ _ (by omega)).trans z4)) rfl (Try.isAgg26 _) (Boxed.cell (t := 26) ((putObj_ne _ _ _ _ (by omega)).trans z5))) ⟨by rw [Hpr.out], kk ((all.drop 2).take long) 0⟩
  case stop =>
    rintro D0 c pre W hD ⟨k, hk, rfl⟩ q hK
    exact q.elim
theorem pread_calls (n : Int) (w : World) (h : DiskAt w p q m D) :
    Calls Try.prog 19 #[.pointer (some ⟨p, 0, none⟩), .int .i64 n] w fun e w' =>
      e = .returned (.tuple #[.string (bs (pgRead D n).1), .int .i64 (pgRead D n).2]) ∧ Keeps noB w w' := by
  cases hh : hasPage D n with
  | false =>
    have e : pgRead D n = ([], 5) := by simp [pgRead, hh]
    rw [e]; exact pread_bad n w h hh
  | true =>
    obtain ⟨k, rfl⟩ : ∃ k : Nat, n = k := ⟨n.toNat, by unfold hasPage at hh; simp at hh; omega⟩
    exact pread_good k w h hh
end Go.Proofs.Ytckopikeegegkaa
