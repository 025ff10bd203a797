/- PAGE 4: the contract of SetRoot. -/
import Derived.Test.YtckopikeegegkaaPage3
namespace Go.Proofs.Ytckopikeegegkaa
open Go.RowKit Go.MapKept Go.Shelf
set_option linter.unusedSimpArgs false
set_option linter.unusedVariables false
variable {p q m : Nat} {D : Dk}

def encM (k : Mk) : Value := .agg #[.bool k.on, .int .i64 k.epoch, .int .i64 k.page]

set_option maxHeartbeats 1000000 in
theorem setRoot_none (n : Int) (k : Mk) (w : World) (h : DiskAt w p q m D) (hh : hasRoot D n = false) :
    Calls Try.prog 17 #[.pointer (some ⟨p, 0, none⟩), .int .i64 n, .agg #[.bool k.on, .int .i64 k.epoch, .int .i64 k.page]] w fun e w' =>
      e = .returned (.int .i64 5) ∧ DiskAt w' p q m D ∧ Keeps (dset p q m) w w' := by
  have lp := h.lt_p
  have hr := root_calls n (w.alloc (.cells #[.bool k.on, .int .i64 k.epoch, .int .i64 k.page] 23)) (h.keep ((Keeps.refl noB w).alloc _) (fun q => q) (fun q => q) (fun q => q))
  rw [hh] at hr
  clear hh
  go_enter Try.func17, Try.ntmps17
  go_wp2_with (go_at_call 53; refine hr.mono ?_; rintro e w' ⟨rfl, rfl⟩)
  go_ret
  exact ⟨rfl, h.keep ((Keeps.refl noB w).alloc _) (fun q => q) (fun q => q) (fun q => q), (Keeps.refl _ _).alloc _⟩
set_option maxHeartbeats 1000000 in
theorem setRoot_bad (n : Int) (k : Mk) (w : World) (h : DiskAt w p q m D) (hh : hasRoot D n = true) (hm : mayRoot k = false) :
    Calls Try.prog 17 #[.pointer (some ⟨p, 0, none⟩), .int .i64 n, .agg #[.bool k.on, .int .i64 k.epoch, .int .i64 k.page]] w fun e w' =>
      e = .returned (.int .i64 1) ∧ DiskAt w' p q m D ∧ Keeps (dset p q m) w w' := by
  have lp := h.lt_p
  have hr := root_calls n (w.alloc (.cells #[.bool k.on, .int .i64 k.epoch, .int .i64 k.page] 23)) (h.keep ((Keeps.refl noB w).alloc _) (fun q => q) (fun q => q) (fun q => q))
  rw [hh] at hr
  clear hh
  obtain ⟨on, ep, pg⟩ := k
  dsimp only at *
  have hm' : ep < 0 ∨ ¬ ep < 0 ∧ 1099511627776 < ep ∨ ¬ ep < 0 ∧ ¬ 1099511627776 < ep ∧ pg < 0 ∨ ¬ ep < 0 ∧ ¬ 1099511627776 < ep ∧ ¬ pg < 0 ∧ 1024 ≤ pg := by
    simp [mayRoot] at hm
    omega
  clear hm
  rcases hm' with a1 | ⟨a1, a2⟩ | ⟨a1, a2, a3⟩ | ⟨a1, a2, a3, a4⟩
  · have k1 : decide (ep < 0) = true := by simpa using a1
    go_enter Try.func17, Try.ntmps17
    go_wp2_with (go_at_call 53; refine hr.mono ?_; rintro e w' ⟨rfl, rfl⟩)
    go_ret
    exact ⟨rfl, h.keep ((Keeps.refl noB w).alloc _) (fun q => q) (fun q => q) (fun q => q), (Keeps.refl _ _).alloc _⟩
  · have k1 : decide (ep < 0) = false := by simpa using a1
    have k2 : decide (1099511627776 < ep) = true := by simpa using a2
    go_enter Try.func17, Try.ntmps17
    go_wp2_with (go_at_call 53; refine hr.mono ?_; rintro e w' ⟨rfl, rfl⟩)
    go_ret
    exact ⟨rfl, h.keep ((Keeps.refl noB w).alloc _) (fun q => q) (fun q => q) (fun q => q), (Keeps.refl _ _).alloc _⟩
  · have k1 : decide (ep < 0) = false := by simpa using a1
    have k2 : decide (1099511627776 < ep) = false := by simpa using a2
    have k3 : decide (pg < 0) = true := by simpa using a3
    go_enter Try.func17, Try.ntmps17
    go_wp2_with (go_at_call 53; refine hr.mono ?_; rintro e w' ⟨rfl, rfl⟩)
    go_ret
    exact ⟨rfl, h.keep ((Keeps.refl noB w).alloc _) (fun q => q) (fun q => q) (fun q => q), (Keeps.refl _ _).alloc _⟩
  · have k1 : decide (ep < 0) = false := by simpa using a1
    have k2 : decide (1099511627776 < ep) = false := by simpa using a2
    have k3 : decide (pg < 0) = false := by simpa using a3
    have k4 : decide (1024 ≤ pg) = true := by simpa using a4
    go_enter Try.func17, Try.ntmps17
    go_wp2_with (go_at_call 53; refine hr.mono ?_; rintro e w' ⟨rfl, rfl⟩)
    go_ret
    exact ⟨rfl, h.keep ((Keeps.refl noB w).alloc _) (fun q => q) (fun q => q) (fun q => q), (Keeps.refl _ _).alloc _⟩

/-- The root's text, as the loop writes it. -/
def tx (c : UInt8) (e : Nat) : Nat → Str
  | 0 => c :: List.replicate 63 0
  | i + 1 => (tx c e i).set (8 - i) (UInt8.ofNat (e / 256 ^ i % 256))
theorem tx_length (c : UInt8) (e : Nat) : ∀ i, (tx c e i).length = 64
  | 0 => rfl
  | i + 1 => by rw [tx, List.length_set, tx_length c e i]
theorem tx_done (on : Bool) (e g : Nat) : ((tx (if on then 1 else 0) e 8).set 9 (UInt8.ofNat (g / 256))).set 10 (UInt8.ofNat (g % 256)) = rootText ⟨on, e, g⟩ := by
  cases on <;> rfl
theorem encB_set (l : Str) (i : Nat) (b : UInt8) : (encB l).set i (.int .u8 b.toNat) = encB (l.set i b) := by simp [encB, List.map_set]
theorem byte_eq (ep : Int) (h : 0 ≤ ep) (k : Nat) : (ep / 2 ^ (8 * k) % 256 : Int) = ((UInt8.ofNat (ep.toNat / 256 ^ k % 256)).toNat : Int) := by
  have e1 : (2 : Int) ^ (8 * k) = ((256 ^ k : Nat) : Int) := by
    have : (2 : Nat) ^ (8 * k) = 256 ^ k := by rw [Nat.pow_mul]
    rw [← this]; simp
  obtain ⟨e, rfl⟩ : ∃ e : Nat, ep = e := ⟨ep.toNat, by omega⟩
  rw [e1, Int.toNat_natCast]
  simp only [UInt8.toNat_ofNat']
  have : ((e : Int) / ((256 ^ k : Nat) : Int) % 256) = ((e / 256 ^ k % 256 : Nat) : Int) := by simp
  rw [this]
  congr 1
  omega
theorem rootText_length (k : Mk) : (rootText k).length = 64 := by simp [rootText]
theorem page_bytes (pg : Int) (h0 : 0 ≤ pg) (h1 : pg < 1024) : Value.int .u8 (IntKind.u8.wrap (pg / 256)) = .int .u8 (UInt8.ofNat (pg.toNat / 256)).toNat ∧ Value.int .u8 (IntKind.u8.wrap pg) = .int .u8 (UInt8.ofNat (pg.toNat % 256)).toNat := by
  constructor
  · congr 1
    simp [IntKind.wrap, IntKind.bits, IntKind.signed]
    omega
  · congr 1
    simp [IntKind.wrap, IntKind.bits, IntKind.signed]
    omega
theorem zero_row64 (w : World) : (zeroValue 90).run Try.prog w = .ok (.agg Z64.toArray) w := by kernel_rfl
set_option maxHeartbeats 1000000 in
theorem setRoot_good (n : Int) (k : Mk) (w : World) (h : DiskAt w p q m D) (hh : hasRoot D n = true) (hm : mayRoot k = true) :
    Calls Try.prog 17 #[.pointer (some ⟨p, 0, none⟩), .int .i64 n, .agg #[.bool k.on, .int .i64 k.epoch, .int .i64 k.page]] w fun e w' =>
      e = .returned (.int .i64 (D.write (4 * n) (rootText k)).1) ∧ DiskAt w' p q m (D.write (4 * n) (rootText k)).2 ∧ Keeps (dset p q m) w w' := by
  have lp := h.lt_p
  have hr := root_calls n (w.alloc (.cells #[.bool k.on, .int .i64 k.epoch, .int .i64 k.page] 23)) (h.keep ((Keeps.refl noB w).alloc _) (fun q => q) (fun q => q) (fun q => q))
  rw [hh] at hr
  have nb : 0 ≤ n ∧ n ≤ 1 := by simp [hasRoot, hasPage] at hh; omega
  obtain ⟨n0, n1⟩ := nb
  clear hh
  obtain ⟨on, ep, pg⟩ := k
  dsimp only at *
  have hm' : 0 ≤ ep ∧ ep ≤ 1099511627776 ∧ 0 ≤ pg ∧ pg < 1024 := by simp [mayRoot] at hm; omega
  clear hm
  obtain ⟨a1, a2, a3, a4⟩ := hm'
  have k1 : decide (ep < 0) = false := by simpa using a1
  have k2 : decide (1099511627776 < ep) = false := by simpa using a2
  have k3 : decide (pg < 0) = false := by simpa using a3
  have k4 : decide (1024 ≤ pg) = false := by simpa using a4
  rw [Int.mul_comm 4 n]
  cases on with
  | true =>
    go_enter Try.func17, Try.ntmps17
    go_wp2_with (first | (go_at_call 53; refine hr.mono ?_; rintro e w' ⟨rfl, rfl⟩) | (with_reducible refine wpl_alloc 90 Z64 rfl zero_row64 rfl ?_))
    have f0 : ((w.alloc (.cells #[.bool true, .int .i64 ep, .int .i64 pg] 23)).alloc (.cells (Z64.set 0 (.int .u8 1)).toArray 90)).heap[w.heap.size]? = some (.cells #[.bool true, .int .i64 ep, .int .i64 pg] 23) := by simp (disch := (first | (simp only [World.size_alloc, World.size_setCell, World.size_drew, size_setRow, heap_drew, heap_drewN]; done) | ((try simp only [World.size_alloc, World.size_setCell, World.size_drew, size_setRow, heap_drew, heap_drewN]); omega))) only [heap_drew, heap_drewN, heap_alloc_ne, heap_alloc_eq, heap_setCell_ne, heap_setRow_ne]
    have f1 : ((w.alloc (.cells #[.bool true, .int .i64 ep, .int .i64 pg] 23)).alloc (.cells (Z64.set 0 (.int .u8 1)).toArray 90)).heap[w.heap.size + 1]? = some (.cells (encB (tx 1 ep.toNat 0)).toArray 90) := by
      simp (disch := (first | (simp only [World.size_alloc, World.size_setCell, World.size_drew, size_setRow, heap_drew, heap_drewN]; done) | ((try simp only [World.size_alloc, World.size_setCell, World.size_drew, size_setRow, heap_drew, heap_drewN]); omega))) only [heap_drew, heap_drewN, heap_alloc_ne, heap_alloc_eq, heap_setCell_ne, heap_setRow_ne]
      rfl
    have kw : Keeps noB w ((w.alloc (.cells #[.bool true, .int .i64 ep, .int .i64 pg] 23)).alloc (.cells (Z64.set 0 (.int .u8 1)).toArray 90)) := ((Keeps.refl _ _).alloc _).alloc _
    generalize ((w.alloc (.cells #[.bool true, .int .i64 ep, .int .i64 pg] 23)).alloc (.cells (Z64.set 0 (.int .u8 1)).toArray 90)) = W1 at *
    go_loopw [37] (fun i wr => ∃ k : Nat, k ≤ 8 ∧ i = .int .i64 k ∧ wr.heap[w.heap.size + 1]? = some (.cells (encB (tx 1 ep.toNat k)).toArray 90) ∧ wr.heap[w.heap.size]? = some (.cells #[.bool true, .int .i64 ep, .int .i64 pg] 23) ∧ Keeps noB w wr)
      (fun i _ => 8 - (intOf i).toNat)
    case atStart => exact ⟨0, by omega, rfl, f1, f0, kw⟩
    case round =>
      obtain ⟨k, hk, rfl, g1, g0, kr⟩ := hrel
      by_cases hlt : k < 8
      · have tl := tx_length 1 ep.toNat k
        have c5 : wr.cell? ⟨w.heap.size, 1, none⟩ = some (.int .i64 ep) := by simp [World.cell?, g0]
        have c8 : wr.cell? ⟨w.heap.size + 1, 8 - k, none⟩ = (encB (tx 1 ep.toNat k))[8 - k]? := by simp [World.cell?, g1]
        have q8 : wr.frozen? ⟨w.heap.size + 1, 8 - k, none⟩ = false := by simp [World.frozen?, g1]
        rw [List.getElem?_eq_getElem (by rw [encB_length, tl]; omega)] at c8
        go_wp2
        refine ⟨⟨k + 1, by omega, by simp, ?_, ?_, kr.setCell (a := ⟨w.heap.size + 1, 8 - k, none⟩) (fun q => by simp only [] at q; omega) _⟩, by simp [intOf]; omega⟩
        · rw [heap_setCell_same wr _ _ _ _ _ g1, List.setIfInBounds_toArray, byte_eq ep a1 k, encB_set]; rfl
        · rw [heap_setCell_ne _ _ _ _ _ (by omega)]; exact g0
      · obtain rfl : k = 8 := by omega
        have c5 : wr.cell? ⟨w.heap.size, 2, none⟩ = some (.int .i64 pg) := by simp [World.cell?, g0]
        go_wp2
        refine wp_region_text [(0, true), (1, true), (2, true), (3, true), (4, true), (5, true), (6, true), (7, true), (8, false), (9, true), (10, false)] (fun W' => W'.cell? ⟨w.heap.size, 2, none⟩ = some (.int .i64 pg)) (by kernel_rfl) (by kernel_rfl) (fun d _ _ _ _ h => by cases d <;> exact h) (by simpa using c5) ?_
        iterate 8 (apply wpText_take; rfl; rfl; (intro W hS; (try dsimp only at hS); go_simp; exact rfl))
        simp only [Act.put, List.setIfInBounds_toArray, List.set_cons_succ, List.set_cons_zero]
        apply wpText_goL; rfl; intro K hK
        apply wpl_store1 5 (v := .int .u8 (IntKind.u8.wrap (pg / 256))) (L := encB (tx 1 ep.toNat 8)) (t := 90); rfl; rfl; rfl; exact Try.sizeOf5; exact g1; rfl; rfl; (rw [encB_length, tx_length]; decide); rfl
        refine wpl_end (hK _ _ (by rw [cell_setRow_other _ _ _ _ (by simp only []; omega)]; simpa using c5) ?_)
        clear hK K
        simp only [Act.put, List.setIfInBounds_toArray, List.set_cons_succ, List.set_cons_zero]
        (apply wpText_take; rfl; rfl; (intro W hS; (try dsimp only at hS); go_simp; exact rfl))
        simp only [Act.put, List.setIfInBounds_toArray, List.set_cons_succ, List.set_cons_zero]
        apply wpText_goL; rfl; intro K hK
        apply wpl_store1 5 (v := .int .u8 (IntKind.u8.wrap pg)) (L := (encB (tx 1 ep.toNat 8)).set 9 (.int .u8 (IntKind.u8.wrap (pg / 256)))) (t := 90); rfl; rfl; rfl; exact Try.sizeOf5; exact setRow_eq _ _ _ _ _ _ g1; rfl; rfl; (rw [List.length_set, encB_length, tx_length]; decide); rfl
        refine wpl_end (hK _ _ (by rw [cell_setRow_other _ _ _ _ (by simp only []; omega), cell_setRow_other _ _ _ _ (by simp only []; omega)]; simpa using c5) ?_)
        clear hK K
        simp only [Act.put, List.setIfInBounds_toArray, List.set_cons_succ, List.set_cons_zero]
        apply wpText_done
        rw [setRow_setRow]
        have et : ((encB (tx 1 ep.toNat 8)).set 9 (.int .u8 (IntKind.u8.wrap (pg / 256)))).set 10 (.int .u8 (IntKind.u8.wrap pg)) = encB (rootText ⟨true, ep, pg⟩) := by
          obtain ⟨e1, e2⟩ := page_bytes pg a3 a4
          rw [e1, e2, encB_set, encB_set]
          have := tx_done true ep.toNat pg.toNat
          rw [Int.toNat_of_nonneg a1, Int.toNat_of_nonneg a3] at this
          exact congrArg encB this
        rw [et]
        have g8 : (wr.drew.setRow (w.heap.size + 1) (encB (rootText ⟨true, ep, pg⟩)).toArray).heap[w.heap.size + 1]? = some (.cells (encB (rootText ⟨true, ep, pg⟩)).toArray 90) := setRow_eq _ _ _ _ _ _ g1
        have k8 : Keeps noB w (wr.drew.setRow (w.heap.size + 1) (encB (rootText ⟨true, ep, pg⟩)).toArray) := kr.drew.setRow (fun q => by omega) _
        have tl : (rootText ⟨true, ep, pg⟩).length = 64 := rootText_length _
        generalize htt : rootText ⟨true, ep, pg⟩ = tt at *
        have Htt := Lib.hid htt
        clear htt
        generalize wr.drew.setRow (w.heap.size + 1) (encB tt).toArray = W2 at *
        have hd2 := h.keep k8 (fun q => q) (fun q => q) (fun q => q)
        have hwr := write_calls (n * 4) tt W2 hd2
        clear et hd2
        have Hk := Lib.hid k8
        clear k8
        go_wp2_with (first | ((with_reducible apply wpl_bytes_all 35 9 5 (t := 90) (fr := (0, 0)) (s := tt) (hs := Try.underlying35) (he := Try.underlying5) (hd := Try.underlying9)); rfl; go_must (rfl; exact g8; exact tl; rfl)) | (go_at_call 32; refine hwr.mono ?_; rintro e w' ⟨rfl, d2, k2⟩))
        go_ret
        rw [Htt.out]
        exact ⟨rfl, d2, (Hk.out.mono (fun _ _ q => q.elim)).trans k2⟩
  | false =>
    go_enter Try.func17, Try.ntmps17
    go_wp2_with (first | (go_at_call 53; refine hr.mono ?_; rintro e w' ⟨rfl, rfl⟩) | (with_reducible refine wpl_alloc 90 Z64 rfl zero_row64 rfl ?_))
    have f0 : ((w.alloc (.cells #[.bool false, .int .i64 ep, .int .i64 pg] 23)).alloc (.cells Z64.toArray 90)).heap[w.heap.size]? = some (.cells #[.bool false, .int .i64 ep, .int .i64 pg] 23) := by simp (disch := (first | (simp only [World.size_alloc, World.size_setCell, World.size_drew, size_setRow, heap_drew, heap_drewN]; done) | ((try simp only [World.size_alloc, World.size_setCell, World.size_drew, size_setRow, heap_drew, heap_drewN]); omega))) only [heap_drew, heap_drewN, heap_alloc_ne, heap_alloc_eq, heap_setCell_ne, heap_setRow_ne]
    have f1 : ((w.alloc (.cells #[.bool false, .int .i64 ep, .int .i64 pg] 23)).alloc (.cells Z64.toArray 90)).heap[w.heap.size + 1]? = some (.cells (encB (tx 0 ep.toNat 0)).toArray 90) := by
      simp (disch := (first | (simp only [World.size_alloc, World.size_setCell, World.size_drew, size_setRow, heap_drew, heap_drewN]; done) | ((try simp only [World.size_alloc, World.size_setCell, World.size_drew, size_setRow, heap_drew, heap_drewN]); omega))) only [heap_drew, heap_drewN, heap_alloc_ne, heap_alloc_eq, heap_setCell_ne, heap_setRow_ne]
      rfl
    have kw : Keeps noB w ((w.alloc (.cells #[.bool false, .int .i64 ep, .int .i64 pg] 23)).alloc (.cells Z64.toArray 90)) := ((Keeps.refl _ _).alloc _).alloc _
    generalize ((w.alloc (.cells #[.bool false, .int .i64 ep, .int .i64 pg] 23)).alloc (.cells Z64.toArray 90)) = W1 at *
    go_loopw [37] (fun i wr => ∃ k : Nat, k ≤ 8 ∧ i = .int .i64 k ∧ wr.heap[w.heap.size + 1]? = some (.cells (encB (tx 0 ep.toNat k)).toArray 90) ∧ wr.heap[w.heap.size]? = some (.cells #[.bool false, .int .i64 ep, .int .i64 pg] 23) ∧ Keeps noB w wr)
      (fun i _ => 8 - (intOf i).toNat)
    case atStart => exact ⟨0, by omega, rfl, f1, f0, kw⟩
    case round =>
      obtain ⟨k, hk, rfl, g1, g0, kr⟩ := hrel
      by_cases hlt : k < 8
      · have tl := tx_length 0 ep.toNat k
        have c5 : wr.cell? ⟨w.heap.size, 1, none⟩ = some (.int .i64 ep) := by simp [World.cell?, g0]
        have c8 : wr.cell? ⟨w.heap.size + 1, 8 - k, none⟩ = (encB (tx 0 ep.toNat k))[8 - k]? := by simp [World.cell?, g1]
        have q8 : wr.frozen? ⟨w.heap.size + 1, 8 - k, none⟩ = false := by simp [World.frozen?, g1]
        rw [List.getElem?_eq_getElem (by rw [encB_length, tl]; omega)] at c8
        go_wp2
        refine ⟨⟨k + 1, by omega, by simp, ?_, ?_, kr.setCell (a := ⟨w.heap.size + 1, 8 - k, none⟩) (fun q => by simp only [] at q; omega) _⟩, by simp [intOf]; omega⟩
        · rw [heap_setCell_same wr _ _ _ _ _ g1, List.setIfInBounds_toArray, byte_eq ep a1 k, encB_set]; rfl
        · rw [heap_setCell_ne _ _ _ _ _ (by omega)]; exact g0
      · obtain rfl : k = 8 := by omega
        have c5 : wr.cell? ⟨w.heap.size, 2, none⟩ = some (.int .i64 pg) := by simp [World.cell?, g0]
        go_wp2
        refine wp_region_text [(0, true), (1, true), (2, true), (3, true), (4, true), (5, true), (6, true), (7, true), (8, false), (9, true), (10, false)] (fun W' => W'.cell? ⟨w.heap.size, 2, none⟩ = some (.int .i64 pg)) (by kernel_rfl) (by kernel_rfl) (fun d _ _ _ _ h => by cases d <;> exact h) (by simpa using c5) ?_
        iterate 8 (apply wpText_take; rfl; rfl; (intro W hS; (try dsimp only at hS); go_simp; exact rfl))
        simp only [Act.put, List.setIfInBounds_toArray, List.set_cons_succ, List.set_cons_zero]
        apply wpText_goL; rfl; intro K hK
        apply wpl_store1 5 (v := .int .u8 (IntKind.u8.wrap (pg / 256))) (L := encB (tx 0 ep.toNat 8)) (t := 90); rfl; rfl; rfl; exact Try.sizeOf5; exact g1; rfl; rfl; (rw [encB_length, tx_length]; decide); rfl
        refine wpl_end (hK _ _ (by rw [cell_setRow_other _ _ _ _ (by simp only []; omega)]; simpa using c5) ?_)
        clear hK K
        simp only [Act.put, List.setIfInBounds_toArray, List.set_cons_succ, List.set_cons_zero]
        (apply wpText_take; rfl; rfl; (intro W hS; (try dsimp only at hS); go_simp; exact rfl))
        simp only [Act.put, List.setIfInBounds_toArray, List.set_cons_succ, List.set_cons_zero]
        apply wpText_goL; rfl; intro K hK
        apply wpl_store1 5 (v := .int .u8 (IntKind.u8.wrap pg)) (L := (encB (tx 0 ep.toNat 8)).set 9 (.int .u8 (IntKind.u8.wrap (pg / 256)))) (t := 90); rfl; rfl; rfl; exact Try.sizeOf5; exact setRow_eq _ _ _ _ _ _ g1; rfl; rfl; (rw [List.length_set, encB_length, tx_length]; decide); rfl
        refine wpl_end (hK _ _ (by rw [cell_setRow_other _ _ _ _ (by simp only []; omega), cell_setRow_other _ _ _ _ (by simp only []; omega)]; simpa using c5) ?_)
        clear hK K
        simp only [Act.put, List.setIfInBounds_toArray, List.set_cons_succ, List.set_cons_zero]
        apply wpText_done
        rw [setRow_setRow]
        have et : ((encB (tx 0 ep.toNat 8)).set 9 (.int .u8 (IntKind.u8.wrap (pg / 256)))).set 10 (.int .u8 (IntKind.u8.wrap pg)) = encB (rootText ⟨false, ep, pg⟩) := by
          obtain ⟨e1, e2⟩ := page_bytes pg a3 a4
          rw [e1, e2, encB_set, encB_set]
          have := tx_done false ep.toNat pg.toNat
          rw [Int.toNat_of_nonneg a1, Int.toNat_of_nonneg a3] at this
          exact congrArg encB this
        rw [et]
        have g8 : (wr.drew.setRow (w.heap.size + 1) (encB (rootText ⟨false, ep, pg⟩)).toArray).heap[w.heap.size + 1]? = some (.cells (encB (rootText ⟨false, ep, pg⟩)).toArray 90) := setRow_eq _ _ _ _ _ _ g1
        have k8 : Keeps noB w (wr.drew.setRow (w.heap.size + 1) (encB (rootText ⟨false, ep, pg⟩)).toArray) := kr.drew.setRow (fun q => by omega) _
        have tl : (rootText ⟨false, ep, pg⟩).length = 64 := rootText_length _
        generalize htt : rootText ⟨false, ep, pg⟩ = tt at *
        have Htt := Lib.hid htt
        clear htt
        generalize wr.drew.setRow (w.heap.size + 1) (encB tt).toArray = W2 at *
        have hd2 := h.keep k8 (fun q => q) (fun q => q) (fun q => q)
        have hwr := write_calls (n * 4) tt W2 hd2
        clear et hd2
        have Hk := Lib.hid k8
        clear k8
        go_wp2_with (first | ((with_reducible apply wpl_bytes_all 35 9 5 (t := 90) (fr := (0, 0)) (s := tt) (hs := Try.underlying35) (he := Try.underlying5) (hd := Try.underlying9)); rfl; go_must (rfl; exact g8; exact tl; rfl)) | (go_at_call 32; refine hwr.mono ?_; rintro e w' ⟨rfl, d2, k2⟩))
        go_ret
        rw [Htt.out]
        exact ⟨rfl, d2, (Hk.out.mono (fun _ _ q => q.elim)).trans k2⟩
theorem setRoot_calls (n : Int) (k : Mk) (w : World) (h : DiskAt w p q m D) :
    Calls Try.prog 17 #[.pointer (some ⟨p, 0, none⟩), .int .i64 n, .agg #[.bool k.on, .int .i64 k.epoch, .int .i64 k.page]] w fun e w' =>
      e = .returned (.int .i64 (pgSetRoot D n k).1) ∧ DiskAt w' p q m (pgSetRoot D n k).2 ∧ Keeps (dset p q m) w w' := by
  cases hh : hasRoot D n with
  | false =>
    have e : pgSetRoot D n k = (5, D) := by simp [pgSetRoot, hh]
    rw [e]; exact setRoot_none n k w h hh
  | true =>
    cases hm : mayRoot k with
    | false =>
      have e : pgSetRoot D n k = (1, D) := by simp [pgSetRoot, hh, hm]
      rw [e]; exact setRoot_bad n k w h hh hm
    | true =>
      have e : pgSetRoot D n k = D.write (4 * n) (rootText k) := by simp [pgSetRoot, hh, hm]
      rw [e]; exact setRoot_good n k w h hh hm
end Go.Proofs.Ytckopikeegegkaa
