/- Texts of one proof, one behind the other: Page4, Page5, Page6, Strs, Awake4, Page7, Pure2, Laws4, At, Pure3, MapRange, Rows64, Disk5, MapKeys, Shelf, Iter, Disk6, Laws5. No condition. -/
import Derived.Test.YtckopikeegegkaaGPagePlaysP0
import Derived.BigFrame
import Derived.Maps.RangeWalk
import Derived.RangeFuncGives
import Derived.Shelf.Sort.Plain
import Derived.Shelf.Slices.In.SortNone
import Derived.Test.YtckopikeegegkaaProg
import Derived.Shelf.SlGeneric
import Derived.Shelf.SlIterI.Sorted
import Derived.Shelf.SlIterI.Nil
import Derived.Ground.GgzProg
/- PAGE 4: the contract of SetRoot. -/
namespace Go.Proofs.Ytckopikeegegkaa
open Go.RowKit Go.MapKept Go.Shelf
set_option linter.unusedSimpArgs false
set_option linter.unusedVariables false
variable {p q m : Nat} {D : Dk}

def encM (k : Mk) : Value := .agg #[.bool k.on, .int .i64 k.epoch, .int .i64 k.page]

set_option maxHeartbeats 1000000 in
theorem setRoot_none (n : Int) (k : Mk) (w : World) (h : DiskAt w p q m D) (hh : hasRoot D n = false) :
    Calls Try.prog 17 #[.pointer (some ⟨p, 0, none⟩), .int .i64 n, .agg #[.bool k.on, .int .i64 k.epoch, .int .i64 k.page]] w fun e w' =>
      e = .returned (.int .i64 5) ∧ DiskAt w' p q m D ∧ Keeps (dset p q m) w w' := by
  have lp := h.lt_p
  have hr := root_calls n (w.alloc (.cells #[.bool k.on, .int .i64 k.epoch, .int .i64 k.page] 23)) (h.keep ((Keeps.refl noB w).alloc _) (fun q => q) (fun q => q) (fun q => q))
  rw [hh] at hr
  clear hh
  go_enter Try.func17, Try.ntmps17
  go_wp2_with (go_at_call 53; refine hr.mono ?_; rintro e w' ⟨rfl, rfl⟩)
  go_ret
  exact ⟨rfl, h.keep ((Keeps.refl noB w).alloc _) (fun q => q) (fun q => q) (fun q => q), (Keeps.refl _ _).alloc _⟩
set_option maxHeartbeats 1000000 in
theorem setRoot_bad (n : Int) (k : Mk) (w : World) (h : DiskAt w p q m D) (hh : hasRoot D n = true) (hm : mayRoot k = false) :
    Calls Try.prog 17 #[.pointer (some ⟨p, 0, none⟩), .int .i64 n, .agg #[.bool k.on, .int .i64 k.epoch, .int .i64 k.page]] w fun e w' =>
      e = .returned (.int .i64 1) ∧ DiskAt w' p q m D ∧ Keeps (dset p q m) w w' := by
  have lp := h.lt_p
  have hr := root_calls n (w.alloc (.cells #[.bool k.on, .int .i64 k.epoch, .int .i64 k.page] 23)) (h.keep ((Keeps.refl noB w).alloc _) (fun q => q) (fun q => q) (fun q => q))
  rw [hh] at hr
  clear hh
  obtain ⟨on, ep, pg⟩ := k
  dsimp only at *
  have hm' : ep < 0 ∨ ¬ ep < 0 ∧ 1099511627776 < ep ∨ ¬ ep < 0 ∧ ¬ 1099511627776 < ep ∧ pg < 0 ∨ ¬ ep < 0 ∧ ¬ 1099511627776 < ep ∧ ¬ pg < 0 ∧ 1024 ≤ pg := by
    simp [mayRoot] at hm
    omega
  clear hm
  rcases hm' with a1 | ⟨a1, a2⟩ | ⟨a1, a2, a3⟩ | ⟨a1, a2, a3, a4⟩
  · have k1 : decide (ep < 0) = true := by simpa using a1
    go_enter Try.func17, Try.ntmps17
    go_wp2_with (go_at_call 53; refine hr.mono ?_; rintro e w' ⟨rfl, rfl⟩)
    go_ret
    exact ⟨rfl, h.keep ((Keeps.refl noB w).alloc _) (fun q => q) (fun q => q) (fun q => q), (Keeps.refl _ _).alloc _⟩
  · have k1 : decide (ep < 0) = false := by simpa using a1
    have k2 : decide (1099511627776 < ep) = true := by simpa using a2
    go_enter Try.func17, Try.ntmps17
    go_wp2_with (go_at_call 53; refine hr.mono ?_; rintro e w' ⟨rfl, rfl⟩)
    go_ret
    exact ⟨rfl, h.keep ((Keeps.refl noB w).alloc _) (fun q => q) (fun q => q) (fun q => q), (Keeps.refl _ _).alloc _⟩
  · have k1 : decide (ep < 0) = false := by simpa using a1
    have k2 : decide (1099511627776 < ep) = false := by simpa using a2
    have k3 : decide (pg < 0) = true := by simpa using a3
    go_enter Try.func17, Try.ntmps17
    go_wp2_with (go_at_call 53; refine hr.mono ?_; rintro e w' ⟨rfl, rfl⟩)
    go_ret
    exact ⟨rfl, h.keep ((Keeps.refl noB w).alloc _) (fun q => q) (fun q => q) (fun q => q), (Keeps.refl _ _).alloc _⟩
  · have k1 : decide (ep < 0) = false := by simpa using a1
    have k2 : decide (1099511627776 < ep) = false := by simpa using a2
    have k3 : decide (pg < 0) = false := by simpa using a3
    have k4 : decide (1024 ≤ pg) = true := by simpa using a4
    go_enter Try.func17, Try.ntmps17
    go_wp2_with (go_at_call 53; refine hr.mono ?_; rintro e w' ⟨rfl, rfl⟩)
    go_ret
    exact ⟨rfl, h.keep ((Keeps.refl noB w).alloc _) (fun q => q) (fun q => q) (fun q => q), (Keeps.refl _ _).alloc _⟩

/-- The root's text, as the loop writes it. -/
def tx (c : UInt8) (e : Nat) : Nat → Str
  | 0 => c :: List.replicate 63 0
  | i + 1 => (tx c e i).set (8 - i) (UInt8.ofNat (e / 256 ^ i % 256))
theorem tx_length (c : UInt8) (e : Nat) : ∀ i, (tx c e i).length = 64
  | 0 => rfl
  | i + 1 => by rw [tx, List.length_set, tx_length c e i]
theorem tx_done (on : Bool) (e g : Nat) : ((tx (if on then 1 else 0) e 8).set 9 (UInt8.ofNat (g / 256))).set 10 (UInt8.ofNat (g % 256)) = rootText ⟨on, e, g⟩ := by
  cases on <;> rfl
theorem encB_set (l : Str) (i : Nat) (b : UInt8) : (encB l).set i (.int .u8 b.toNat) = encB (l.set i b) := by simp [encB, List.map_set]
theorem byte_eq (ep : Int) (h : 0 ≤ ep) (k : Nat) : (ep / 2 ^ (8 * k) % 256 : Int) = ((UInt8.ofNat (ep.toNat / 256 ^ k % 256)).toNat : Int) := by
  have e1 : (2 : Int) ^ (8 * k) = ((256 ^ k : Nat) : Int) := by
    have : (2 : Nat) ^ (8 * k) = 256 ^ k := by rw [Nat.pow_mul]
    rw [← this]; simp
  obtain ⟨e, rfl⟩ : ∃ e : Nat, ep = e := ⟨ep.toNat, by omega⟩
  rw [e1, Int.toNat_natCast]
  simp only [UInt8.toNat_ofNat']
  have : ((e : Int) / ((256 ^ k : Nat) : Int) % 256) = ((e / 256 ^ k % 256 : Nat) : Int) := by simp
  rw [this]
  congr 1
  omega
theorem rootText_length (k : Mk) : (rootText k).length = 64 := by simp [rootText]
theorem page_bytes (pg : Int) (h0 : 0 ≤ pg) (h1 : pg < 1024) : Value.int .u8 (IntKind.u8.wrap (pg / 256)) = .int .u8 (UInt8.ofNat (pg.toNat / 256)).toNat ∧ Value.int .u8 (IntKind.u8.wrap pg) = .int .u8 (UInt8.ofNat (pg.toNat % 256)).toNat := by
  constructor
  · congr 1
    simp [IntKind.wrap, IntKind.bits, IntKind.signed]
    omega
  · congr 1
    simp [IntKind.wrap, IntKind.bits, IntKind.signed]
    omega
theorem zero_row64 (w : World) : (zeroValue 90).run Try.prog w = .ok (.agg Z64.toArray) w := by kernel_rfl
set_option maxHeartbeats 1000000 in
theorem setRoot_good (n : Int) (k : Mk) (w : World) (h : DiskAt w p q m D) (hh : hasRoot D n = true) (hm : mayRoot k = true) :
    Calls Try.prog 17 #[.pointer (some ⟨p, 0, none⟩), .int .i64 n, .agg #[.bool k.on, .int .i64 k.epoch, .int .i64 k.page]] w fun e w' =>
      e = .returned (.int .i64 (D.write (4 * n) (rootText k)).1) ∧ DiskAt w' p q m (D.write (4 * n) (rootText k)).2 ∧ Keeps (dset p q m) w w' := by
  have lp := h.lt_p
  have hr := root_calls n (w.alloc (.cells #[.bool k.on, .int .i64 k.epoch, .int .i64 k.page] 23)) (h.keep ((Keeps.refl noB w).alloc _) (fun q => q) (fun q => q) (fun q => q))
  rw [hh] at hr
  have nb : 0 ≤ n ∧ n ≤ 1 := by simp [hasRoot, hasPage] at hh; omega
  obtain ⟨n0, n1⟩ := nb
  clear hh
  obtain ⟨on, ep, pg⟩ := k
  dsimp only at *
  have hm' : 0 ≤ ep ∧ ep ≤ 1099511627776 ∧ 0 ≤ pg ∧ pg < 1024 := by simp [mayRoot] at hm; omega
  clear hm
  obtain ⟨a1, a2, a3, a4⟩ := hm'
  have k1 : decide (ep < 0) = false := by simpa using a1
  have k2 : decide (1099511627776 < ep) = false := by simpa using a2
  have k3 : decide (pg < 0) = false := by simpa using a3
  have k4 : decide (1024 ≤ pg) = false := by simpa using a4
  rw [Int.mul_comm 4 n]
  cases on with
  | true =>
    go_enter Try.func17, Try.ntmps17
    go_wp2_with (first | (go_at_call 53; refine hr.mono ?_; rintro e w' ⟨rfl, rfl⟩) | (with_reducible refine wpl_alloc 90 Z64 rfl zero_row64 rfl ?_))
    have f0 : ((w.alloc (.cells #[.bool true, .int .i64 ep, .int .i64 pg] 23)).alloc (.cells (Z64.set 0 (.int .u8 1)).toArray 90)).heap[w.heap.size]? = some (.cells #[.bool true, .int .i64 ep, .int .i64 pg] 23) := by simp (disch := (first | (simp only [World.size_alloc, World.size_setCell, World.size_drew, size_setRow, heap_drew, heap_drewN]; done) | ((try simp only [World.size_alloc, World.size_setCell, World.size_drew, size_setRow, heap_drew, heap_drewN]); omega))) only [heap_drew, heap_drewN, heap_alloc_ne, heap_alloc_eq, heap_setCell_ne, heap_setRow_ne]
    have f1 : ((w.alloc (.cells #[.bool true, .int .i64 ep, .int .i64 pg] 23)).alloc (.cells (Z64.set 0 (.int .u8 1)).toArray 90)).heap[w.heap.size + 1]? = some (.cells (encB (tx 1 ep.toNat 0)).toArray 90) := by
      simp (disch := (first | (simp only [World.size_alloc, World.size_setCell, World.size_drew, size_setRow, heap_drew, heap_drewN]; done) | ((try simp only [World.size_alloc, World.size_setCell, World.size_drew, size_setRow, heap_drew, heap_drewN]); omega))) only [heap_drew, heap_drewN, heap_alloc_ne, heap_alloc_eq, heap_setCell_ne, heap_setRow_ne]
      rfl
    have kw : Keeps noB w ((w.alloc (.cells #[.bool true, .int .i64 ep, .int .i64 pg] 23)).alloc (.cells (Z64.set 0 (.int .u8 1)).toArray 90)) := ((Keeps.refl _ _).alloc _).alloc _
    generalize ((w.alloc (.cells #[.bool true, .int .i64 ep, .int .i64 pg] 23)).alloc (.cells (Z64.set 0 (.int .u8 1)).toArray 90)) = W1 at *
    go_loopw [37] (fun i wr => ∃ k : Nat, k ≤ 8 ∧ i = .int .i64 k ∧ wr.heap[w.heap.size + 1]? = some (.cells (encB (tx 1 ep.toNat k)).toArray 90) ∧ wr.heap[w.heap.size]? = some (.cells #[.bool true, .int .i64 ep, .int .i64 pg] 23) ∧ Keeps noB w wr)
      (fun i _ => 8 - (intOf i).toNat)
    case atStart => exact ⟨0, by omega, rfl, f1, f0, kw⟩
    case round =>
      obtain ⟨k, hk, rfl, g1, g0, kr⟩ := hrel
      by_cases hlt : k < 8
      · have tl := tx_length 1 ep.toNat k
        have c5 : wr.cell? ⟨w.heap.size, 1, none⟩ = some (.int .i64 ep) := by simp [World.cell?, g0]
        have c8 : wr.cell? ⟨w.heap.size + 1, 8 - k, none⟩ = (encB (tx 1 ep.toNat k))[8 - k]? := by simp [World.cell?, g1]
        have q8 : wr.frozen? ⟨w.heap.size + 1, 8 - k, none⟩ = false := by simp [World.frozen?, g1]
        rw [List.getElem?_eq_getElem (by rw [encB_length, tl]; omega)] at c8
        go_wp2
        refine ⟨⟨k + 1, by omega, by simp, ?_, ?_, kr.setCell (a := ⟨w.heap.size + 1, 8 - k, none⟩) (fun q => by simp only [] at q; omega) _⟩, by simp [intOf]; omega⟩
        · rw [heap_setCell_same wr _ _ _ _ _ g1, List.setIfInBounds_toArray, byte_eq ep a1 k, encB_set]; rfl
        · rw [heap_setCell_ne _ _ _ _ _ (by omega)]; exact g0
      · obtain rfl : k = 8 := by omega
        have c5 : wr.cell? ⟨w.heap.size, 2, none⟩ = some (.int .i64 pg) := by simp [World.cell?, g0]
        go_wp2
        refine wp_region_text [(0, true), (1, true), (2, true), (3, true), (4, true), (5, true), (6, true), (7, true), (8, false), (9, true), (10, false)] (fun W' => W'.cell? ⟨w.heap.size, 2, none⟩ = some (.int .i64 pg)) (by kernel_rfl) (by kernel_rfl) (fun d _ _ _ _ h => by cases d <;> exact h) (by simpa using c5) ?_
        iterate 8 (apply wpText_take; rfl; rfl; (intro W hS; (try dsimp only at hS); go_simp; exact rfl))
        try simp only [Act.put, List.setIfInBounds_toArray, List.set_cons_succ, List.set_cons_zero]
        apply wpText_goL; rfl; intro K hK
        apply wpl_store1 5 (v := .int .u8 (IntKind.u8.wrap (pg / 256))) (L := encB (tx 1 ep.toNat 8)) (t := 90); rfl; rfl; rfl; exact Try.sizeOf5; exact g1; rfl; rfl; (rw [encB_length, tx_length]; decide); rfl
        refine wpl_end (hK _ _ (by rw [cell_setRow_other _ _ _ _ (by simp only []; omega)]; simpa using c5) ?_)
        clear hK K
        try simp only [Act.put, List.setIfInBounds_toArray, List.set_cons_succ, List.set_cons_zero]
        (apply wpText_take; rfl; rfl; (intro W hS; (try dsimp only at hS); go_simp; exact rfl))
        try simp only [Act.put, List.setIfInBounds_toArray, List.set_cons_succ, List.set_cons_zero]
        apply wpText_goL; rfl; intro K hK
        apply wpl_store1 5 (v := .int .u8 (IntKind.u8.wrap pg)) (L := (encB (tx 1 ep.toNat 8)).set 9 (.int .u8 (IntKind.u8.wrap (pg / 256)))) (t := 90); rfl; rfl; rfl; exact Try.sizeOf5; exact setRow_eq _ _ _ _ _ _ g1; rfl; rfl; (rw [List.length_set, encB_length, tx_length]; decide); rfl
        refine wpl_end (hK _ _ (by rw [cell_setRow_other _ _ _ _ (by simp only []; omega), cell_setRow_other _ _ _ _ (by simp only []; omega)]; simpa using c5) ?_)
        clear hK K
        try simp only [Act.put, List.setIfInBounds_toArray, List.set_cons_succ, List.set_cons_zero]
        apply wpText_done
        rw [setRow_setRow]
        have et : ((encB (tx 1 ep.toNat 8)).set 9 (.int .u8 (IntKind.u8.wrap (pg / 256)))).set 10 (.int .u8 (IntKind.u8.wrap pg)) = encB (rootText ⟨true, ep, pg⟩) := by
          obtain ⟨e1, e2⟩ := page_bytes pg a3 a4
          rw [e1, e2, encB_set, encB_set]
          have := tx_done true ep.toNat pg.toNat
          rw [Int.toNat_of_nonneg a1, Int.toNat_of_nonneg a3] at this
          exact congrArg encB this
        rw [et]
        have g8 : (wr.drew.setRow (w.heap.size + 1) (encB (rootText ⟨true, ep, pg⟩)).toArray).heap[w.heap.size + 1]? = some (.cells (encB (rootText ⟨true, ep, pg⟩)).toArray 90) := setRow_eq _ _ _ _ _ _ g1
        have k8 : Keeps noB w (wr.drew.setRow (w.heap.size + 1) (encB (rootText ⟨true, ep, pg⟩)).toArray) := kr.drew.setRow (fun q => by omega) _
        have tl : (rootText ⟨true, ep, pg⟩).length = 64 := rootText_length _
        generalize htt : rootText ⟨true, ep, pg⟩ = tt at *
        have Htt := Lib.hid htt
        clear htt
        generalize wr.drew.setRow (w.heap.size + 1) (encB tt).toArray = W2 at *
        have hd2 := h.keep k8 (fun q => q) (fun q => q) (fun q => q)
        have hwr := write_calls (n * 4) tt W2 hd2
        clear et hd2
        have Hk := Lib.hid k8
        clear k8
        go_wp2_with (first | ((with_reducible apply wpl_bytes_all 35 9 5 (t := 90) (fr := (0, 0)) (s := tt) (hs := Try.underlying35) (he := Try.underlying5) (hd := Try.underlying9)); rfl; go_must (rfl; exact g8; exact tl; rfl)) | (go_at_call 32; refine hwr.mono ?_; rintro e w' ⟨rfl, d2, k2⟩))
        go_ret
        rw [Htt.out]
        exact ⟨rfl, d2, (Hk.out.mono (fun _ _ q => q.elim)).trans k2⟩
  | false =>
    go_enter Try.func17, Try.ntmps17
    go_wp2_with (first | (go_at_call 53; refine hr.mono ?_; rintro e w' ⟨rfl, rfl⟩) | (with_reducible refine wpl_alloc 90 Z64 rfl zero_row64 rfl ?_))
    have f0 : ((w.alloc (.cells #[.bool false, .int .i64 ep, .int .i64 pg] 23)).alloc (.cells Z64.toArray 90)).heap[w.heap.size]? = some (.cells #[.bool false, .int .i64 ep, .int .i64 pg] 23) := by simp (disch := (first | (simp only [World.size_alloc, World.size_setCell, World.size_drew, size_setRow, heap_drew, heap_drewN]; done) | ((try simp only [World.size_alloc, World.size_setCell, World.size_drew, size_setRow, heap_drew, heap_drewN]); omega))) only [heap_drew, heap_drewN, heap_alloc_ne, heap_alloc_eq, heap_setCell_ne, heap_setRow_ne]
    have f1 : ((w.alloc (.cells #[.bool false, .int .i64 ep, .int .i64 pg] 23)).alloc (.cells Z64.toArray 90)).heap[w.heap.size + 1]? = some (.cells (encB (tx 0 ep.toNat 0)).toArray 90) := by
      simp (disch := (first | (simp only [World.size_alloc, World.size_setCell, World.size_drew, size_setRow, heap_drew, heap_drewN]; done) | ((try simp only [World.size_alloc, World.size_setCell, World.size_drew, size_setRow, heap_drew, heap_drewN]); omega))) only [heap_drew, heap_drewN, heap_alloc_ne, heap_alloc_eq, heap_setCell_ne, heap_setRow_ne]
      rfl
    have kw : Keeps noB w ((w.alloc (.cells #[.bool false, .int .i64 ep, .int .i64 pg] 23)).alloc (.cells Z64.toArray 90)) := ((Keeps.refl _ _).alloc _).alloc _
    generalize ((w.alloc (.cells #[.bool false, .int .i64 ep, .int .i64 pg] 23)).alloc (.cells Z64.toArray 90)) = W1 at *
    go_loopw [37] (fun i wr => ∃ k : Nat, k ≤ 8 ∧ i = .int .i64 k ∧ wr.heap[w.heap.size + 1]? = some (.cells (encB (tx 0 ep.toNat k)).toArray 90) ∧ wr.heap[w.heap.size]? = some (.cells #[.bool false, .int .i64 ep, .int .i64 pg] 23) ∧ Keeps noB w wr)
      (fun i _ => 8 - (intOf i).toNat)
    case atStart => exact ⟨0, by omega, rfl, f1, f0, kw⟩
    case round =>
      obtain ⟨k, hk, rfl, g1, g0, kr⟩ := hrel
      by_cases hlt : k < 8
      · have tl := tx_length 0 ep.toNat k
        have c5 : wr.cell? ⟨w.heap.size, 1, none⟩ = some (.int .i64 ep) := by simp [World.cell?, g0]
        have c8 : wr.cell? ⟨w.heap.size + 1, 8 - k, none⟩ = (encB (tx 0 ep.toNat k))[8 - k]? := by simp [World.cell?, g1]
        have q8 : wr.frozen? ⟨w.heap.size + 1, 8 - k, none⟩ = false := by simp [World.frozen?, g1]
        rw [List.getElem?_eq_getElem (by rw [encB_length, tl]; omega)] at c8
        go_wp2
        refine ⟨⟨k + 1, by omega, by simp, ?_, ?_, kr.setCell (a := ⟨w.heap.size + 1, 8 - k, none⟩) (fun q => by simp only [] at q; omega) _⟩, by simp [intOf]; omega⟩
        · rw [heap_setCell_same wr _ _ _ _ _ g1, List.setIfInBounds_toArray, byte_eq ep a1 k, encB_set]; rfl
        · rw [heap_setCell_ne _ _ _ _ _ (by omega)]; exact g0
      · obtain rfl : k = 8 := by omega
        have c5 : wr.cell? ⟨w.heap.size, 2, none⟩ = some (.int .i64 pg) := by simp [World.cell?, g0]
        go_wp2
        refine wp_region_text [(0, true), (1, true), (2, true), (3, true), (4, true), (5, true), (6, true), (7, true), (8, false), (9, true), (10, false)] (fun W' => W'.cell? ⟨w.heap.size, 2, none⟩ = some (.int .i64 pg)) (by kernel_rfl) (by kernel_rfl) (fun d _ _ _ _ h => by cases d <;> exact h) (by simpa using c5) ?_
        iterate 8 (apply wpText_take; rfl; rfl; (intro W hS; (try dsimp only at hS); go_simp; exact rfl))
        try simp only [Act.put, List.setIfInBounds_toArray, List.set_cons_succ, List.set_cons_zero]
        apply wpText_goL; rfl; intro K hK
        apply wpl_store1 5 (v := .int .u8 (IntKind.u8.wrap (pg / 256))) (L := encB (tx 0 ep.toNat 8)) (t := 90); rfl; rfl; rfl; exact Try.sizeOf5; exact g1; rfl; rfl; (rw [encB_length, tx_length]; decide); rfl
        refine wpl_end (hK _ _ (by rw [cell_setRow_other _ _ _ _ (by simp only []; omega)]; simpa using c5) ?_)
        clear hK K
        try simp only [Act.put, List.setIfInBounds_toArray, List.set_cons_succ, List.set_cons_zero]
        (apply wpText_take; rfl; rfl; (intro W hS; (try dsimp only at hS); go_simp; exact rfl))
        try simp only [Act.put, List.setIfInBounds_toArray, List.set_cons_succ, List.set_cons_zero]
        apply wpText_goL; rfl; intro K hK
        apply wpl_store1 5 (v := .int .u8 (IntKind.u8.wrap pg)) (L := (encB (tx 0 ep.toNat 8)).set 9 (.int .u8 (IntKind.u8.wrap (pg / 256)))) (t := 90); rfl; rfl; rfl; exact Try.sizeOf5; exact setRow_eq _ _ _ _ _ _ g1; rfl; rfl; (rw [List.length_set, encB_length, tx_length]; decide); rfl
        refine wpl_end (hK _ _ (by rw [cell_setRow_other _ _ _ _ (by simp only []; omega), cell_setRow_other _ _ _ _ (by simp only []; omega)]; simpa using c5) ?_)
        clear hK K
        try simp only [Act.put, List.setIfInBounds_toArray, List.set_cons_succ, List.set_cons_zero]
        apply wpText_done
        rw [setRow_setRow]
        have et : ((encB (tx 0 ep.toNat 8)).set 9 (.int .u8 (IntKind.u8.wrap (pg / 256)))).set 10 (.int .u8 (IntKind.u8.wrap pg)) = encB (rootText ⟨false, ep, pg⟩) := by
          obtain ⟨e1, e2⟩ := page_bytes pg a3 a4
          rw [e1, e2, encB_set, encB_set]
          have := tx_done false ep.toNat pg.toNat
          rw [Int.toNat_of_nonneg a1, Int.toNat_of_nonneg a3] at this
          exact congrArg encB this
        rw [et]
        have g8 : (wr.drew.setRow (w.heap.size + 1) (encB (rootText ⟨false, ep, pg⟩)).toArray).heap[w.heap.size + 1]? = some (.cells (encB (rootText ⟨false, ep, pg⟩)).toArray 90) := setRow_eq _ _ _ _ _ _ g1
        have k8 : Keeps noB w (wr.drew.setRow (w.heap.size + 1) (encB (rootText ⟨false, ep, pg⟩)).toArray) := kr.drew.setRow (fun q => by omega) _
        have tl : (rootText ⟨false, ep, pg⟩).length = 64 := rootText_length _
        generalize htt : rootText ⟨false, ep, pg⟩ = tt at *
        have Htt := Lib.hid htt
        clear htt
        generalize wr.drew.setRow (w.heap.size + 1) (encB tt).toArray = W2 at *
        have hd2 := h.keep k8 (fun q => q) (fun q => q) (fun q => q)
        have hwr := write_calls (n * 4) tt W2 hd2
        clear et hd2
        have Hk := Lib.hid k8
        clear k8
        go_wp2_with (first | ((with_reducible apply wpl_bytes_all 35 9 5 (t := 90) (fr := (0, 0)) (s := tt) (hs := Try.underlying35) (he := Try.underlying5) (hd := Try.underlying9)); rfl; go_must (rfl; exact g8; exact tl; rfl)) | (go_at_call 32; refine hwr.mono ?_; rintro e w' ⟨rfl, d2, k2⟩))
        go_ret
        rw [Htt.out]
        exact ⟨rfl, d2, (Hk.out.mono (fun _ _ q => q.elim)).trans k2⟩
theorem setRoot_calls (n : Int) (k : Mk) (w : World) (h : DiskAt w p q m D) :
    Calls Try.prog 17 #[.pointer (some ⟨p, 0, none⟩), .int .i64 n, .agg #[.bool k.on, .int .i64 k.epoch, .int .i64 k.page]] w fun e w' =>
      e = .returned (.int .i64 (pgSetRoot D n k).1) ∧ DiskAt w' p q m (pgSetRoot D n k).2 ∧ Keeps (dset p q m) w w' := by
  cases hh : hasRoot D n with
  | false =>
    have e : pgSetRoot D n k = (5, D) := by simp [pgSetRoot, hh]
    rw [e]; exact setRoot_none n k w h hh
  | true =>
    cases hm : mayRoot k with
    | false =>
      have e : pgSetRoot D n k = (1, D) := by simp [pgSetRoot, hh, hm]
      rw [e]; exact setRoot_bad n k w h hh hm
    | true =>
      have e : pgSetRoot D n k = D.write (4 * n) (rootText k) := by simp [pgSetRoot, hh, hm]
      rw [e]; exact setRoot_good n k w h hh hm
end Go.Proofs.Ytckopikeegegkaa
/- PAGE 5: the contract of Root. -/
namespace Go.Proofs.Ytckopikeegegkaa
open Go.RowKit Go.MapKept Go.Shelf
set_option linter.unusedSimpArgs false
set_option linter.unusedVariables false
variable {p q m : Nat} {D : Dk}

theorem results_mark {P : Program} {fn : Func} {p q : Tmp} {ty : TypeId} (h : fn.results = #[.cell p ty, .tmp q]) (tmps : Array Value) (w : World) (b : Nat) (L : List Value) (t : TypeId) (fr : Nat × Nat) (n : Nat)
    (hp : tmps.getD p undef = .pointer (some ⟨b, 0, none⟩)) (hg : ∀ w, (isAgg ty).run P w = .ok true w) (hs : ∀ w, (sizeOf ty).run P w = .ok n w)
    (hb : w.heap[b]? = some (.cells L.toArray t fr)) (hl : L.length = n) : (results fn tmps).run P w = .ok (.tuple #[.agg L.toArray, tmps.getD q undef]) w := by
  have hp' : tmps[p]?.getD undef = .pointer (some ⟨b, 0, none⟩) := by simpa using hp
  have hr := run_loadCells_row (P := P) (w := w) b 0 n L t fr hb (by omega)
  rw [List.drop_zero, List.take_of_length_le (by omega)] at hr
  simp [results, h, hp', asAddr, loadVar, hg, hs, hr, Result.andThen]

set_option maxHeartbeats 1000000 in
theorem root_none (n : Int) (w : World) (h : DiskAt w p q m D) (hh : hasRoot D n = false) :
    Calls Try.prog 18 #[.pointer (some ⟨p, 0, none⟩), .int .i64 n] w fun e w' =>
      e = .returned (.tuple #[.agg #[.bool false, .int .i64 0, .int .i64 0], .int .i64 5]) ∧ Keeps noB w w' := by
  have lp := h.lt_p
  have hr := root_calls n (w.alloc (.cells #[.bool false, .int .i64 0, .int .i64 0] 23)) (h.keep ((Keeps.refl noB w).alloc _) (fun q => q) (fun q => q) (fun q => q))
  rw [hh] at hr
  clear hh
  go_enter Try.func18, Try.ntmps18
  go_wp2_with (go_at_call 53; refine hr.mono ?_; rintro e w' ⟨rfl, rfl⟩)
  refine bodyPost_ret (results_mark rfl _ _ w.heap.size [.bool false, .int .i64 0, .int .i64 0] 23 (0, 0) 3 rfl Try.isAgg23 Try.sizeOf23 (by simp (disch := (first | (simp only [World.size_alloc, World.size_setCell, World.size_drew, size_setRow, heap_drew, heap_drewN]; done) | ((try simp only [World.size_alloc, World.size_setCell, World.size_drew, size_setRow, heap_drew, heap_drewN]); omega))) only [heap_drew, heap_drewN, heap_alloc_ne, heap_alloc_eq, heap_setCell_ne, heap_setRow_ne]) rfl) rfl ⟨rfl, (Keeps.refl _ _).alloc _⟩
set_option maxHeartbeats 1000000 in
theorem root_nil0 (n : Int) (w : World) :
    Calls Try.prog 18 #[.pointer none, .int .i64 n] w fun e w' =>
      e = .returned (.tuple #[.agg #[.bool false, .int .i64 0, .int .i64 0], .int .i64 2]) ∧ Keeps noB w w' := by
  have hr := root_nil n (w.alloc (.cells #[.bool false, .int .i64 0, .int .i64 0] 23))
  go_enter Try.func18, Try.ntmps18
  go_wp2_with (go_at_call 53; refine hr.mono ?_; rintro e w' ⟨rfl, rfl⟩)
  refine bodyPost_ret (results_mark rfl _ _ w.heap.size [.bool false, .int .i64 0, .int .i64 0] 23 (0, 0) 3 rfl Try.isAgg23 Try.sizeOf23 (by simp (disch := (first | (simp only [World.size_alloc, World.size_setCell, World.size_drew, size_setRow, heap_drew, heap_drewN]; done) | ((try simp only [World.size_alloc, World.size_setCell, World.size_drew, size_setRow, heap_drew, heap_drewN]); omega))) only [heap_drew, heap_drewN, heap_alloc_ne, heap_alloc_eq, heap_setCell_ne, heap_setRow_ne]) rfl) rfl ⟨rfl, (Keeps.refl _ _).alloc _⟩

def bigTo (t : Str) : Nat → Nat
  | 0 => 0
  | i + 1 => bigTo t i * 256 + (t.getD (1 + i) 0).toNat
theorem bigTo_lt (t : Str) : ∀ i, bigTo t i < 256 ^ i
  | 0 => by simp [bigTo]
  | i + 1 => by
    have h1 := bigTo_lt t i
    have h2 := (t.getD (1 + i) 0).toNat_lt
    rw [bigTo, Nat.pow_succ]
    omega
theorem bs_get (l : Str) (k : Nat) (h : k < (bs l).size) : (bs l)[k] = l.getD k 0 := by
  have h' : k < l.length := by simpa using h
  rw [List.getD_eq_getElem?_getD, List.getElem?_eq_getElem h']; rfl
theorem or_byte (x : Nat) (b : UInt8) (hx : x < 256 ^ 7) : bits .or .u64 (IntKind.u64.wrap ((x : Int) * 256)) (IntKind.u64.wrap (b.toNat : Int)) = ((x * 256 + b.toNat : Nat) : Int) := by
  have hb := b.toNat_lt
  have e1 : IntKind.u64.wrap ((x : Int) * 256) = ((x * 256 : Nat) : Int) := by rw [IntKind.wrap_u64]; omega
  have e2 : IntKind.u64.wrap (b.toNat : Int) = ((b.toNat : Nat) : Int) := by rw [IntKind.wrap_u64]; omega
  rw [e1, e2, bits_or_u64_nat _ _ (by omega) (by omega)]
  have := Nat.shiftLeft_add_eq_or_of_lt (i := 8) (b := b.toNat) (by omega) x
  rw [Nat.shiftLeft_eq] at this
  rw [← this]
theorem cells3_set1 {W : World} {b t : Nat} {x y z v : Value} (h : W.heap[b]? = some (.cells (Array.mk [x, y, z]) t (0, 0))) : (W.setCell ⟨b, 1, none⟩ v).heap[b]? = some (.cells (Array.mk [x, v, z]) t (0, 0)) := heap_setCell_same W b 1 _ _ v h
theorem cells3_set2 {W : World} {b t : Nat} {x y z v : Value} (h : W.heap[b]? = some (.cells (Array.mk [x, y, z]) t (0, 0))) : (W.setCell ⟨b, 2, none⟩ v).heap[b]? = some (.cells (Array.mk [x, y, v]) t (0, 0)) := heap_setCell_same W b 2 _ _ v h
theorem byte_one (b : UInt8) : (((b.toNat : Nat) : Int) == 1) = (b == 1) := by
  rw [Bool.eq_iff_iff]
  simp only [beq_iff_eq]
  constructor
  · intro h; exact UInt8.toNat_inj.1 (by have : (1 : UInt8).toNat = 1 := rfl; omega)
  · rintro rfl; rfl
theorem or_two (a b : UInt8) : bits .or .i64 (IntKind.i64.wrap (IntKind.i64.wrap (a.toNat : Int) * 256)) (IntKind.i64.wrap (b.toNat : Int)) = ((a.toNat * 256 + b.toNat : Nat) : Int) := by
  have ha := a.toNat_lt
  have hb := b.toNat_lt
  rw [IntWalk.i64_in (a.toNat : Int) (by omega), IntWalk.i64_in (b.toNat : Int) (by omega), IntWalk.i64_in ((a.toNat : Int) * 256) (by omega)]
  have h1 : (BitVec.ofInt 64 ((a.toNat : Int) * 256)).toNat = a.toNat * 256 := by
    rw [show (a.toNat : Int) * 256 = ((a.toNat * 256 : Nat) : Int) by omega, BitVec.ofInt_natCast, BitVec.toNat_ofNat]; exact Nat.mod_eq_of_lt (by omega)
  have h2 : (BitVec.ofInt 64 (b.toNat : Int)).toNat = b.toNat := by
    rw [BitVec.ofInt_natCast, BitVec.toNat_ofNat]; exact Nat.mod_eq_of_lt (by omega)
  show IntKind.i64.wrap ((BitVec.ofInt 64 ((a.toNat : Int) * 256) ||| BitVec.ofInt 64 (b.toNat : Int)).toNat : Int) = _
  have := Nat.shiftLeft_add_eq_or_of_lt (i := 8) (b := b.toNat) (by omega) a.toNat
  rw [Nat.shiftLeft_eq] at this
  rw [BitVec.toNat_or, h1, h2, ← this, IntWalk.i64_in _ (by omega)]
theorem big_of (t : Str) (h : t.length = 64) : bigTo t 8 = big (sub t 1 9) := by
  obtain ⟨a0, t, rfl⟩ := List.exists_cons_of_length_eq_add_one (n := 63) h
  obtain ⟨a1, t, rfl⟩ := List.exists_cons_of_length_eq_add_one (n := 62) (by simpa using h)
  obtain ⟨a2, t, rfl⟩ := List.exists_cons_of_length_eq_add_one (n := 61) (by simpa using h)
  obtain ⟨a3, t, rfl⟩ := List.exists_cons_of_length_eq_add_one (n := 60) (by simpa using h)
  obtain ⟨a4, t, rfl⟩ := List.exists_cons_of_length_eq_add_one (n := 59) (by simpa using h)
  obtain ⟨a5, t, rfl⟩ := List.exists_cons_of_length_eq_add_one (n := 58) (by simpa using h)
  obtain ⟨a6, t, rfl⟩ := List.exists_cons_of_length_eq_add_one (n := 57) (by simpa using h)
  obtain ⟨a7, t, rfl⟩ := List.exists_cons_of_length_eq_add_one (n := 56) (by simpa using h)
  obtain ⟨a8, t, rfl⟩ := List.exists_cons_of_length_eq_add_one (n := 55) (by simpa using h)
  rfl
theorem big_of2 (t : Str) (h : t.length = 64) : (t.getD 9 0).toNat * 256 + (t.getD 10 0).toNat = big (sub t 9 11) := by
  have h9 : t.drop 9 = t[9] :: t[10] :: t.drop 11 := by
    rw [List.drop_eq_getElem_cons (by omega), List.drop_eq_getElem_cons (by omega)]
  have hs : sub t 9 11 = [t[9], t[10]] := by unfold sub; rw [h9]; rfl
  rw [hs]
  simp [big, List.getD_eq_getElem?_getD, h]
set_option maxHeartbeats 1000000 in
theorem root_good (n : Int) (w : World) (h : DiskAt w p q m D) (hh : hasRoot D n = true) :
    Calls Try.prog 18 #[.pointer (some ⟨p, 0, none⟩), .int .i64 n] w fun e w' =>
      e = .returned (.tuple #[.agg #[.bool (rootOf (D.now (4 * n.toNat))).on, .int .i64 (rootOf (D.now (4 * n.toNat))).epoch, .int .i64 (rootOf (D.now (4 * n.toNat))).page], .int .i64 0]) ∧ Keeps noB w w' := by
  have lp := h.lt_p
  have kA := (Keeps.refl noB w).alloc (.cells #[.bool false, .int .i64 0, .int .i64 0] 23)
  have hA := h.keep kA (fun q => q) (fun q => q) (fun q => q)
  have hr := root_calls n (w.alloc (.cells #[.bool false, .int .i64 0, .int .i64 0] 23)) hA
  rw [hh] at hr
  have nb : 0 ≤ n ∧ n ≤ 1 ∧ n * 4 < D.there.length := by
    simp only [hasRoot, hasPage, Bool.and_eq_true, decide_eq_true_eq] at hh
    obtain ⟨q1, q2, q3⟩ := hh
    unfold pages at q3
    omega
  obtain ⟨n0, n1, n2⟩ := nb
  have hrd := read_calls (n * 4) (w.alloc (.cells #[.bool false, .int .i64 0, .int .i64 0] 23)) hA
  have e1 : D.read (n * 4) = (D.now (4 * n.toNat), 0) := by
    have : D.has (n * 4) = true := by simp [Dk.has]; omega
    simp only [Dk.read, this, if_true]
    congr 2
    omega
  rw [e1] at hrd
  have tl : (D.now (4 * n.toNat)).length = 64 := now_length h.wf (by omega)
  clear hh e1
  generalize htt : D.now (4 * n.toNat) = tt at *
  have Htt := Lib.hid htt
  clear htt
  go_enter Try.func18, Try.ntmps18
  go_wp2_with (first | (go_at_call 53; refine hr.mono ?_; rintro e w' ⟨rfl, rfl⟩) | (go_at_call 24; refine hrd.mono ?_; rintro e w2 ⟨rfl, k2⟩))
  go_loopw [27, 7] (fun i x wr => ∃ k : Nat, k ≤ 8 ∧ i = .int .i64 k ∧ x = .int .u64 (bigTo tt k) ∧ w2 = wr) (fun i _ _ => 8 - (intOf i).toNat)
  case atStart => exact ⟨0, by omega, rfl, rfl, rfl⟩
  case round =>
    obtain ⟨k, hk, rfl, rfl, rfl⟩ := hrel
    by_cases hlt : k < 8
    · have b1 := bigTo_lt tt k
      have b2 : bigTo tt k < 256 ^ 7 := Nat.lt_of_lt_of_le b1 (Nat.pow_le_pow_right (by decide) (by omega))
      have bb := or_byte (bigTo tt k) ((bs tt)[1 + k]'(by simp; omega)) (by omega)
      have be : (bs tt)[1 + k]'(by simp; omega) = tt.getD (1 + k) 0 := bs_get tt (1 + k) _
      rw [be] at bb
      have Hbb := Lib.hid bb
      have Hbe := Lib.hid be
      clear bb be b1 b2
      go_wp2
      refine ⟨⟨k + 1, by omega, rfl, ?_, trivial⟩, by simp [intOf]; omega⟩
      rw [Hbe.out, Hbb.out]; rfl
    · obtain rfl : k = 8 := by omega
      have c4 : w2.heap[w.heap.size]? = some (.cells #[.bool false, .int .i64 0, .int .i64 0] 23) := (k2.block _ (by simp) (fun q => q)).trans (by simp (disch := (first | (simp only [World.size_alloc, World.size_setCell, World.size_drew, size_setRow, heap_drew, heap_drewN]; done) | ((try simp only [World.size_alloc, World.size_setCell, World.size_drew, size_setRow, heap_drew, heap_drewN]); omega))) only [heap_drew, heap_drewN, heap_alloc_ne, heap_alloc_eq, heap_setCell_ne, heap_setRow_ne])
      have e8 : bigTo tt 8 = big (sub tt 1 9) := big_of tt tl
      have e9 : (tt.getD 9 0).toNat * 256 + (tt.getD 10 0).toNat = big (sub tt 9 11) := big_of2 tt tl
      go_wp2
      refine wp_region_text [(0, true), (1, true), (2, true), (3, true), (4, true), (5, true), (6, true), (7, true), (8, true), (9, true), (10, true), (11, true), (12, true), (13, true), (14, false)] (fun _ => True) (by kernel_rfl) (by kernel_rfl) (fun d _ _ _ _ h => by cases d <;> exact h) trivial ?_
      iterate 14 (apply wpText_take; rfl; rfl; (intro W hS; (try dsimp only at hS); go_simp; exact rfl))
      try simp only [Act.put, List.setIfInBounds_toArray, List.set_cons_succ, List.set_cons_zero]
      have x1 : ((↑((bs tt)[0]'(by simp; omega)).toNat : Int) == 1) = (tt.getD 0 0 == 1) := by
        rw [bs_get]; exact byte_one _
      have x2 := or_two ((bs tt)[9]'(by simp; omega)) ((bs tt)[10]'(by simp; omega))
      rw [bs_get tt 10, bs_get tt 9, e9] at x2
      rw [bs_get tt 10, bs_get tt 9, x2, x1]
      have b9 : big (sub tt 9 11) < 65536 := by rw [← e9]; have h1 := (tt.getD 9 0).toNat_lt; have h2 := (tt.getD 10 0).toNat_lt; omega
      have b8 : big (sub tt 1 9) < 2 ^ 64 := by rw [← e8]; exact bigTo_lt tt 8
      clear x1 x2 e9
      have er : rootOf tt = ⟨tt.getD 0 0 == 1, if 1099511627776 < big (sub tt 1 9) then 0 else big (sub tt 1 9), if 1024 ≤ big (sub tt 9 11) then 0 else big (sub tt 9 11)⟩ := rfl
      rw [e8]
      clear e8
      generalize big (sub tt 1 9) = E at *
      generalize big (sub tt 9 11) = G at *
      generalize (tt.getD 0 0 == 1) = on at *
      have Her := Lib.hid er
      clear er
      apply wpText_goL; rfl; intro K hK
      apply wpl_store_all 23 (n := 3) (vs := [.bool on, .int .i64 (IntKind.i64.wrap E), .int .i64 G]) (L := [.bool false, .int .i64 0, .int .i64 0]) (t := 23); rfl; rfl; rfl; exact Try.sizeOf23; exact c4; rfl; (intro v hv; simp at hv; rcases hv with rfl | rfl | rfl <;> rfl); rfl; rfl
      refine wpl_end (hK _ _ trivial ?_)
      clear hK K
      try simp only [Act.put, List.setIfInBounds_toArray, List.set_cons_succ, List.set_cons_zero]
      apply wpText_done
      have f4 : (w2.drew.setRow w.heap.size (Array.mk [.bool on, .int .i64 (IntKind.i64.wrap E), .int .i64 G])).heap[w.heap.size]? = some (.cells (Array.mk [.bool on, .int .i64 (IntKind.i64.wrap E), .int .i64 G]) 23) := setRow_eq _ _ _ _ _ _ c4
      have kk : Keeps noB w (w2.drew.setRow w.heap.size (Array.mk [.bool on, .int .i64 (IntKind.i64.wrap E), .int .i64 G])) := (((Keeps.refl noB w).alloc _).trans k2).drew.setRow (fun q => by omega) _
      generalize w2.drew.setRow w.heap.size (Array.mk [.bool on, .int .i64 (IntKind.i64.wrap E), .int .i64 G]) = W3 at *
      have hfin : ∀ (W4 : World) (x y : Bool), decide (1099511627776 < (E : Int)) = x → decide (1024 ≤ (G : Int)) = y → W4.heap[w.heap.size]? = some (.cells (Array.mk [.bool on, .int .i64 (if x then 0 else IntKind.i64.wrap (E : Int)), .int .i64 (if y then 0 else (G : Int))]) 23) → Keeps (fun k => k = w.heap.size) W3 W4 →
          W4.heap[w.heap.size]? = some (.cells (Array.mk [.bool on, .int .i64 (if 1099511627776 < E then 0 else (E : Int)), .int .i64 (if 1024 ≤ G then 0 else (G : Int))]) 23) ∧ Keeps noB w W4 := by
        intro W4 x y h1 h2 h3 h4
        have e1 : (if 1099511627776 < E then (0 : Int) else (E : Int)) = (if x then 0 else IntKind.i64.wrap (E : Int)) := by
          rw [← h1]
          by_cases q : 1099511627776 < E
          · have : decide (1099511627776 < (E : Int)) = true := by simp; omega
            rw [this, if_pos q]; rfl
          · have : decide (1099511627776 < (E : Int)) = false := by simp; omega
            rw [this, if_neg q, IntWalk.i64_in _ (by omega)]; rfl
        have e2 : (if 1024 ≤ G then (0 : Int) else (G : Int)) = (if y then 0 else (G : Int)) := by
          rw [← h2]
          by_cases q : 1024 ≤ G
          · have : decide (1024 ≤ (G : Int)) = true := by simp; omega
            rw [this, if_pos q]; rfl
          · have : decide (1024 ≤ (G : Int)) = false := by simp; omega
            rw [this, if_neg q]; rfl
        exact ⟨by rw [e1, e2]; exact h3, kk.trans_new h4 (fun k hk q => by omega)⟩
      have Hfin := Lib.hid hfin
      have z1 : ∀ o, W3.frozen? ⟨w.heap.size, o, none⟩ = false := fun o => by simp [World.frozen?, f4]
      have z2 : W3.cell? ⟨w.heap.size, 1, none⟩ = some (.int .i64 (IntKind.i64.wrap E)) := by simp [World.cell?, f4]
      have z3 : W3.cell? ⟨w.heap.size, 2, none⟩ = some (.int .i64 G) := by simp [World.cell?, f4]
      have wE : ¬ 1099511627776 < E → IntKind.i64.wrap (E : Int) = E := fun h => IntWalk.i64_in _ (by omega)
      clear hr hrd hfin kk h kA hA lp c4 k2
      by_cases hE : 1099511627776 < E <;> by_cases hG : 1024 ≤ G
      · have d1 : decide (1099511627776 < (E : Int)) = true := by simp; omega
        have d2 : decide (1024 ≤ (G : Int)) = true := by simp; omega
        have f5 : ((W3.setCell ⟨w.heap.size, 1, none⟩ (.int .i64 0)).setCell ⟨w.heap.size, 2, none⟩ (.int .i64 0)).heap[w.heap.size]? = some (.cells (Array.mk [.bool on, .int .i64 0, .int .i64 0]) 23) := (cells3_set2 (cells3_set1 f4))
        clear hE hG
        go_wp2_with (first | ((with_reducible apply wpl_load_all 23 (n := 3) (hg := Try.isAgg23) (hs := Try.sizeOf23) (L := [.bool on, .int .i64 0, .int .i64 0]) (t := 23) (fr := (0, 0))); rfl; go_must (rfl; exact f5; rfl; rfl)) | ((with_reducible apply wpl_store_all 23 (n := 3) (vs := [.bool on, .int .i64 0, .int .i64 0]) (hs := Try.sizeOf23) (L := [.bool on, .int .i64 0, .int .i64 0]) (t := 23)); rfl; go_must (rfl; rfl; exact f5; rfl; (intro v hv; simp at hv; rcases hv with rfl | rfl | rfl <;> rfl); rfl; rfl)))
        obtain ⟨h1, h2⟩ := Hfin.out _ _ _ d1 d2 (setRow_eq ((W3.setCell ⟨w.heap.size, 1, none⟩ (.int .i64 0)).setCell ⟨w.heap.size, 2, none⟩ (.int .i64 0)) w.heap.size _ (Array.mk [.bool on, .int .i64 0, .int .i64 0]) _ _ f5) ((((Keeps.refl (fun k => k = w.heap.size) W3).setCell (a := ⟨w.heap.size, 1, none⟩) (fun _ => rfl) _).setCell (a := ⟨w.heap.size, 2, none⟩) (fun _ => rfl) _).setRow (fun _ => rfl) _)
        exact bodyPost_ret (results_mark rfl _ _ w.heap.size _ 23 (0, 0) 3 rfl Try.isAgg23 Try.sizeOf23 h1 rfl) rfl ⟨by rw [Her.out]; rfl, h2⟩
      · have d1 : decide (1099511627776 < (E : Int)) = true := by simp; omega
        have d2 : decide (1024 ≤ (G : Int)) = false := by simp; omega
        have f5 : (W3.setCell ⟨w.heap.size, 1, none⟩ (.int .i64 0)).heap[w.heap.size]? = some (.cells (Array.mk [.bool on, .int .i64 0, .int .i64 G]) 23) := (cells3_set1 f4)
        clear hE hG
        go_wp2_with (first | ((with_reducible apply wpl_load_all 23 (n := 3) (hg := Try.isAgg23) (hs := Try.sizeOf23) (L := [.bool on, .int .i64 0, .int .i64 G]) (t := 23) (fr := (0, 0))); rfl; go_must (rfl; exact f5; rfl; rfl)) | ((with_reducible apply wpl_store_all 23 (n := 3) (vs := [.bool on, .int .i64 0, .int .i64 G]) (hs := Try.sizeOf23) (L := [.bool on, .int .i64 0, .int .i64 G]) (t := 23)); rfl; go_must (rfl; rfl; exact f5; rfl; (intro v hv; simp at hv; rcases hv with rfl | rfl | rfl <;> rfl); rfl; rfl)))
        obtain ⟨h1, h2⟩ := Hfin.out _ _ _ d1 d2 (setRow_eq (W3.setCell ⟨w.heap.size, 1, none⟩ (.int .i64 0)) w.heap.size _ (Array.mk [.bool on, .int .i64 0, .int .i64 G]) _ _ f5) (((Keeps.refl (fun k => k = w.heap.size) W3).setCell (a := ⟨w.heap.size, 1, none⟩) (fun _ => rfl) _).setRow (fun _ => rfl) _)
        exact bodyPost_ret (results_mark rfl _ _ w.heap.size _ 23 (0, 0) 3 rfl Try.isAgg23 Try.sizeOf23 h1 rfl) rfl ⟨by rw [Her.out]; rfl, h2⟩
      · have d1 : decide (1099511627776 < (E : Int)) = false := by simp; omega
        have d2 : decide (1024 ≤ (G : Int)) = true := by simp; omega
        have hw := wE hE
        rw [hw] at f4 z2 Hfin ⊢
        have f5 : (W3.setCell ⟨w.heap.size, 2, none⟩ (.int .i64 0)).heap[w.heap.size]? = some (.cells (Array.mk [.bool on, .int .i64 E, .int .i64 0]) 23) := (cells3_set2 f4)
        clear hE hG
        go_wp2_with (first | ((with_reducible apply wpl_load_all 23 (n := 3) (hg := Try.isAgg23) (hs := Try.sizeOf23) (L := [.bool on, .int .i64 E, .int .i64 0]) (t := 23) (fr := (0, 0))); rfl; go_must (rfl; exact f5; rfl; rfl)) | ((with_reducible apply wpl_store_all 23 (n := 3) (vs := [.bool on, .int .i64 E, .int .i64 0]) (hs := Try.sizeOf23) (L := [.bool on, .int .i64 E, .int .i64 0]) (t := 23)); rfl; go_must (rfl; rfl; exact f5; rfl; (intro v hv; simp at hv; rcases hv with rfl | rfl | rfl <;> rfl); rfl; rfl)))
        obtain ⟨h1, h2⟩ := Hfin.out _ _ _ d1 d2 (setRow_eq (W3.setCell ⟨w.heap.size, 2, none⟩ (.int .i64 0)) w.heap.size _ (Array.mk [.bool on, .int .i64 E, .int .i64 0]) _ _ f5) (((Keeps.refl (fun k => k = w.heap.size) W3).setCell (a := ⟨w.heap.size, 2, none⟩) (fun _ => rfl) _).setRow (fun _ => rfl) _)
        exact bodyPost_ret (results_mark rfl _ _ w.heap.size _ 23 (0, 0) 3 rfl Try.isAgg23 Try.sizeOf23 h1 rfl) rfl ⟨by rw [Her.out]; rfl, h2⟩
      · have d1 : decide (1099511627776 < (E : Int)) = false := by simp; omega
        have d2 : decide (1024 ≤ (G : Int)) = false := by simp; omega
        have hw := wE hE
        rw [hw] at f4 z2 Hfin ⊢
        have f5 : W3.heap[w.heap.size]? = some (.cells (Array.mk [.bool on, .int .i64 E, .int .i64 G]) 23) := f4
        clear hE hG
        go_wp2_with (first | ((with_reducible apply wpl_load_all 23 (n := 3) (hg := Try.isAgg23) (hs := Try.sizeOf23) (L := [.bool on, .int .i64 E, .int .i64 G]) (t := 23) (fr := (0, 0))); rfl; go_must (rfl; exact f5; rfl; rfl)) | ((with_reducible apply wpl_store_all 23 (n := 3) (vs := [.bool on, .int .i64 E, .int .i64 G]) (hs := Try.sizeOf23) (L := [.bool on, .int .i64 E, .int .i64 G]) (t := 23)); rfl; go_must (rfl; rfl; exact f5; rfl; (intro v hv; simp at hv; rcases hv with rfl | rfl | rfl <;> rfl); rfl; rfl)))
        obtain ⟨h1, h2⟩ := Hfin.out _ _ _ d1 d2 (setRow_eq W3 w.heap.size _ (Array.mk [.bool on, .int .i64 E, .int .i64 G]) _ _ f5) (((Keeps.refl (fun k => k = w.heap.size) W3)).setRow (fun _ => rfl) _)
        exact bodyPost_ret (results_mark rfl _ _ w.heap.size _ 23 (0, 0) 3 rfl Try.isAgg23 Try.sizeOf23 h1 rfl) rfl ⟨by rw [Her.out]; rfl, h2⟩
theorem pgroot_calls (n : Int) (w : World) (h : DiskAt w p q m D) :
    Calls Try.prog 18 #[.pointer (some ⟨p, 0, none⟩), .int .i64 n] w fun e w' =>
      e = .returned (.tuple #[encM (pgRoot D n).1, .int .i64 (pgRoot D n).2]) ∧ Keeps noB w w' := by
  cases hh : hasRoot D n with
  | false =>
    have e : pgRoot D n = (⟨false, 0, 0⟩, 5) := by simp [pgRoot, hh]
    rw [e]; exact root_none n w h hh
  | true =>
    have e : pgRoot D n = (rootOf (D.now (4 * n.toNat)), 0) := by simp [pgRoot, hh]
    rw [e]; exact root_good n w h hh
end Go.Proofs.Ytckopikeegegkaa
/- PAGE 6: the contract of Read. -/
namespace Go.Proofs.Ytckopikeegegkaa
open Go.RowKit Go.MapKept Go.Shelf
set_option linter.unusedSimpArgs false
set_option linter.unusedVariables false
attribute [local go_sem] Oper.semAt_some
variable {p q m : Nat} {D : Dk}

def gotS (D : Dk) (n : Nat) (s : Str) (x : Fin 4) : Str := s.take (x.val * 64) ++ D.now (4 * n + x.val) ++ s.drop (x.val * 64 + 64)
def got (D : Dk) (n : Nat) (pre : List (Fin 4)) : Str := pre.foldl (gotS D n) (List.replicate 256 0)
theorem gotS_length {n : Nat} (hs : ∀ x : Fin 4, (D.now (4 * n + x.val)).length = 64) (s : Str) (h : s.length = 256) (x : Fin 4) : (gotS D n s x).length = 256 := by
  have := x.isLt
  simp [gotS, hs, h]; omega
theorem got_length {n : Nat} (hs : ∀ x : Fin 4, (D.now (4 * n + x.val)).length = 64) (pre : List (Fin 4)) : (got D n pre).length = 256 := by
  have : ∀ (l : List (Fin 4)) (s : Str), s.length = 256 → (l.foldl (gotS D n) s).length = 256 := by
    intro l
    induction l with
    | nil => intro s h; exact h
    | cons x l ih => intro s h; exact ih _ (gotS_length hs s h x)
  exact this pre _ (by rw [List.length_replicate])
theorem got_snoc (n : Nat) (pre : List (Fin 4)) (x : Fin 4) : got D n (pre ++ [x]) = gotS D n (got D n pre) x := by unfold got; rw [List.foldl_append]; rfl
theorem splice_all {a b c d z : Str} (ha : a.length = 64) (hb : b.length = 64) (hc : c.length = 64) (hd : d.length = 64) (hz : z.length = 256) :
    (let s1 := z.take 0 ++ a ++ z.drop 64
     let s2 := s1.take 64 ++ b ++ s1.drop 128
     let s3 := s2.take 128 ++ c ++ s2.drop 192
     s3.take 192 ++ d ++ s3.drop 256) = a ++ (b ++ (c ++ d)) := by
  simp only [List.take_zero, List.nil_append]
  have e1 : (a ++ z.drop 64).take 64 = a := by rw [List.take_append_of_le_length (by omega), List.take_of_length_le (by omega)]
  rw [e1]
  have e2 : (a ++ b ++ (a ++ z.drop 64).drop 128).take 128 = a ++ b := by rw [List.take_append_of_le_length (by simp; omega), List.take_of_length_le (by simp; omega)]
  rw [e2]
  have e3 : ∀ r, (a ++ b ++ c ++ r : Str).take 192 = a ++ b ++ c := fun r => by rw [List.take_append_of_le_length (by simp; omega), List.take_of_length_le (by simp; omega)]
  rw [e3]
  rw [List.drop_of_length_le]
  · simp
  · simp; omega
theorem got_all {n : Nat} (hs : ∀ x : Fin 4, (D.now (4 * n + x.val)).length = 64) : got D n (rng 4) = pageOf D n := by
  have e : rng 4 = [0, 1, 2, 3] := by decide
  rw [e]
  exact splice_all (hs 0) (hs 1) (hs 2) (hs 3) (by rw [List.length_replicate])

theorem or_two' (a b : UInt8) : bits .or .i64 ((a.toNat : Int) * 256) (b.toNat : Int) = ((a.toNat * 256 + b.toNat : Nat) : Int) := by
  have := or_two a b
  have ha := a.toNat_lt
  have hb := b.toNat_lt
  rwa [IntWalk.i64_in (a.toNat : Int) (by omega), IntWalk.i64_in (b.toNat : Int) (by omega), IntWalk.i64_in ((a.toNat : Int) * 256) (by omega)] at this
theorem z256_enc {n : Nat} : Z256 = encB (got D n []) := rfl
set_option maxHeartbeats 1000000 in
theorem pread_bad (n : Int) (w : World) (h : DiskAt w p q m D) (hh : hasPage D n = false) :
    Calls Try.prog 19 #[.pointer (some ⟨p, 0, none⟩), .int .i64 n] w fun e w' =>
      e = .returned (.tuple #[.string (bs []), .int .i64 5]) ∧ Keeps noB w w' := by
  have lp := h.lt_p; have lq := h.lt_q; have lm := h.lt_m
  have hi : ∀ W, Keeps noB w W → Calls Try.prog 54 #[.pointer (some ⟨p, 0, none⟩), .int .i64 n] W fun e w' => e = .returned (.int .i64 5) ∧ W = w' := fun W k => by
    have := there_calls n W (h.keep k (fun q => q) (fun q => q) (fun q => q))
    rw [hh] at this; exact this
  clear hh
  refine calls_marks Try.func19 rfl ?_
  simp only [Try.ntmps19, List.size_toArray, List.length_cons, List.length_nil, Nat.reduceAdd, Nat.reduceSub, Array.replicate_succ, Array.replicate_zero, List.push_toArray, List.append_toArray, List.nil_append, List.cons_append]
  go_wp2_with (go_at_call 54; refine (hi _ ((((Keeps.refl _ _).alloc _).alloc _).alloc _)).mono ?_; rintro e w' ⟨rfl, rfl⟩)
  have k1 : Keeps noB w (((w.alloc (.cells #[.pointer (some ⟨p, 0, none⟩)] 25)).alloc (.cells #[.string (bs [])] 9)).alloc (.cells #[.int .i64 5] 26)) := (((Keeps.refl _ _).alloc _).alloc _).alloc _
  have g4 : Boxed (((w.alloc (.cells #[.pointer (some ⟨p, 0, none⟩)] 25)).alloc (.cells #[.string (bs [])] 9)).alloc (.cells #[.int .i64 5] 26)) (w.heap.size + 1) 9 (.string (bs [])) := by unfold Boxed; simp (disch := (first | (simp only [World.size_alloc, World.size_setCell, World.size_drew, size_setRow, heap_drew, heap_drewN]; done) | ((try simp only [World.size_alloc, World.size_setCell, World.size_drew, size_setRow, heap_drew, heap_drewN]); omega))) only [heap_drew, heap_drewN, heap_alloc_ne, heap_alloc_eq, heap_setCell_ne, heap_setRow_ne]
  have g5 : Boxed (((w.alloc (.cells #[.pointer (some ⟨p, 0, none⟩)] 25)).alloc (.cells #[.string (bs [])] 9)).alloc (.cells #[.int .i64 5] 26)) (w.heap.size + 1 + 1) 26 (.int .i64 5) := by unfold Boxed; simp (disch := (first | (simp only [World.size_alloc, World.size_setCell, World.size_drew, size_setRow, heap_drew, heap_drewN]; done) | ((try simp only [World.size_alloc, World.size_setCell, World.size_drew, size_setRow, heap_drew, heap_drewN]); omega))) only [heap_drew, heap_drewN, heap_alloc_ne, heap_alloc_eq, heap_setCell_ne, heap_setRow_ne]
  exact leaves_plain (results_cell2 rfl _ _ (w.heap.size + 1) (w.heap.size + 1 + 1) (.string (bs [])) (.int .i64 5) rfl (Try.isAgg9 _) g4.cell rfl (Try.isAgg26 _) g5.cell) ⟨rfl, k1⟩

set_option maxRecDepth 10000 in
set_option maxHeartbeats 1000000 in
theorem pread_good (n : Nat) (w : World) (h : DiskAt w p q m D) (hh : hasPage D n = true) :
    Calls Try.prog 19 #[.pointer (some ⟨p, 0, none⟩), .int .i64 n] w fun e w' =>
      e = .returned (.tuple #[.string (bs (pgRead D n).1), .int .i64 (pgRead D n).2]) ∧ Keeps noB w w' := by
  have lp := h.lt_p; have lq := h.lt_q; have lm := h.lt_m
  have hi : ∀ W, Keeps noB w W → Calls Try.prog 54 #[.pointer (some ⟨p, 0, none⟩), .int .i64 n] W fun e w' => e = .returned (.int .i64 0) ∧ W = w' := fun W k => by
    have := there_calls n W (h.keep k (fun q => q) (fun q => q) (fun q => q))
    rw [hh] at this; exact this
  have hse := fun W => (callsIn_wide (n := 9)).1 (sectors_in Fence.wide 9 trivial rfl n W)
  have hn4 : (n : Int) ≤ 1000000 ∧ n * 4 + 3 < D.there.length := by
    have := h.wf.small
    have h1 := hh
    simp only [hasPage, Bool.and_eq_true, decide_eq_true_eq] at h1
    have h2 := h1.2
    unfold pages at h2
    omega
  have hnow : ∀ x : Fin 4, (D.now (4 * n + x.val)).length = 64 := fun x => now_length h.wf (by omega)
  have hpr : pgRead D n = if 254 < ((pageOf D n).getD 0 0).toNat * 256 + ((pageOf D n).getD 1 0).toNat then ([], 4) else (((pageOf D n).drop 2).take (((pageOf D n).getD 0 0).toNat * 256 + ((pageOf D n).getD 1 0).toNat), 0) := by
    simp only [pgRead, hh, Int.toNat_natCast, Bool.not_true, Bool.false_eq_true, if_false]
  refine calls_marks Try.func19 rfl ?_
  simp only [Try.ntmps19, List.size_toArray, List.length_cons, List.length_nil, Nat.reduceAdd, Nat.reduceSub, Array.replicate_succ, Array.replicate_zero, List.push_toArray, List.append_toArray, List.nil_append, List.cons_append]
  go_wp2_with (first | (go_at_call 54; refine (hi _ ((((Keeps.refl _ _).alloc _).alloc _).alloc _)).mono ?_; rintro e w' ⟨rfl, rfl⟩) | (go_at_call 55; refine (hse _).mono ?_; rintro e w' ⟨rfl, rfl⟩) | (with_reducible refine wpl_alloc 92 Z256 rfl zero_page rfl ?_))
  have k0 : Keeps noB w ((((((w.alloc (.cells #[.pointer (some ⟨p, 0, none⟩)] 25)).alloc (.cells #[.string (bs [])] 9)).alloc (.cells #[.int .i64 0] 26)).alloc (.cells Z256.toArray 92)).alloc (.cells #[.int .i64 n] 3))) := (((((Keeps.refl _ _).alloc _).alloc _).alloc _).alloc _).alloc _
  have f2 : Boxed ((((((w.alloc (.cells #[.pointer (some ⟨p, 0, none⟩)] 25)).alloc (.cells #[.string (bs [])] 9)).alloc (.cells #[.int .i64 0] 26)).alloc (.cells Z256.toArray 92)).alloc (.cells #[.int .i64 n] 3))) w.heap.size 25 (.pointer (some ⟨p, 0, none⟩)) := by unfold Boxed; simp (disch := (first | (simp only [World.size_alloc, World.size_setCell, World.size_drew, size_setRow, heap_drew, heap_drewN]; done) | ((try simp only [World.size_alloc, World.size_setCell, World.size_drew, size_setRow, heap_drew, heap_drewN]); omega))) only [heap_drew, heap_drewN, heap_alloc_ne, heap_alloc_eq, heap_setCell_ne, heap_setRow_ne]
  have f4 : Boxed ((((((w.alloc (.cells #[.pointer (some ⟨p, 0, none⟩)] 25)).alloc (.cells #[.string (bs [])] 9)).alloc (.cells #[.int .i64 0] 26)).alloc (.cells Z256.toArray 92)).alloc (.cells #[.int .i64 n] 3))) (w.heap.size + 1) 9 (.string (bs [])) := by unfold Boxed; simp (disch := (first | (simp only [World.size_alloc, World.size_setCell, World.size_drew, size_setRow, heap_drew, heap_drewN]; done) | ((try simp only [World.size_alloc, World.size_setCell, World.size_drew, size_setRow, heap_drew, heap_drewN]); omega))) only [heap_drew, heap_drewN, heap_alloc_ne, heap_alloc_eq, heap_setCell_ne, heap_setRow_ne]
  have f5 : Boxed ((((((w.alloc (.cells #[.pointer (some ⟨p, 0, none⟩)] 25)).alloc (.cells #[.string (bs [])] 9)).alloc (.cells #[.int .i64 0] 26)).alloc (.cells Z256.toArray 92)).alloc (.cells #[.int .i64 n] 3))) (w.heap.size + 1 + 1) 26 (.int .i64 0) := by unfold Boxed; simp (disch := (first | (simp only [World.size_alloc, World.size_setCell, World.size_drew, size_setRow, heap_drew, heap_drewN]; done) | ((try simp only [World.size_alloc, World.size_setCell, World.size_drew, size_setRow, heap_drew, heap_drewN]); omega))) only [heap_drew, heap_drewN, heap_alloc_ne, heap_alloc_eq, heap_setCell_ne, heap_setRow_ne]
  have f7 : ((((((w.alloc (.cells #[.pointer (some ⟨p, 0, none⟩)] 25)).alloc (.cells #[.string (bs [])] 9)).alloc (.cells #[.int .i64 0] 26)).alloc (.cells Z256.toArray 92)).alloc (.cells #[.int .i64 n] 3))).heap[w.heap.size + 1 + 1 + 1]? = some (.cells Z256.toArray 92) := by simp (disch := (first | (simp only [World.size_alloc, World.size_setCell, World.size_drew, size_setRow, heap_drew, heap_drewN]; done) | ((try simp only [World.size_alloc, World.size_setCell, World.size_drew, size_setRow, heap_drew, heap_drewN]); omega))) only [heap_drew, heap_drewN, heap_alloc_ne, heap_alloc_eq, heap_setCell_ne, heap_setRow_ne]
  have fn : Boxed ((((((w.alloc (.cells #[.pointer (some ⟨p, 0, none⟩)] 25)).alloc (.cells #[.string (bs [])] 9)).alloc (.cells #[.int .i64 0] 26)).alloc (.cells Z256.toArray 92)).alloc (.cells #[.int .i64 n] 3))) (w.heap.size + 1 + 1 + 1 + 1) 3 (.int .i64 n) := by unfold Boxed; simp (disch := (first | (simp only [World.size_alloc, World.size_setCell, World.size_drew, size_setRow, heap_drew, heap_drewN]; done) | ((try simp only [World.size_alloc, World.size_setCell, World.size_drew, size_setRow, heap_drew, heap_drewN]); omega))) only [heap_drew, heap_drewN, heap_alloc_ne, heap_alloc_eq, heap_setCell_ne, heap_setRow_ne]
  have zW : ((((((w.alloc (.cells #[.pointer (some ⟨p, 0, none⟩)] 25)).alloc (.cells #[.string (bs [])] 9)).alloc (.cells #[.int .i64 0] 26)).alloc (.cells Z256.toArray 92)).alloc (.cells #[.int .i64 n] 3))).heap.size = w.heap.size + 1 + 1 + 1 + 1 + 1 := by simp
  change Code.wp _ _ _ _ ((((((w.alloc (.cells #[.pointer (some ⟨p, 0, none⟩)] 25)).alloc (.cells #[.string (bs [])] 9)).alloc (.cells #[.int .i64 0] 26)).alloc (.cells Z256.toArray 92)).alloc (.cells #[.int .i64 n] 3)))
  generalize ((((((w.alloc (.cells #[.pointer (some ⟨p, 0, none⟩)] 25)).alloc (.cells #[.string (bs [])] 9)).alloc (.cells #[.int .i64 0] 26)).alloc (.cells Z256.toArray 92)).alloc (.cells #[.int .i64 n] 3))) = W1 at *
  have e7 : Z256 = encB (got D n []) := z256_enc
  rw [e7] at f7
  have hD1 := h.keep k0 (fun q => q) (fun q => q) (fun q => q)
  refine (wpIn_wide (n := 9)).1 ?_
  refine wpIn_rangeFunc_ownG (F := Fence.wide) rfl (by omega) (gf := 70) (lb := #[.pointer (some ⟨w.heap.size + 1 + 1 + 1 + 1, 0, none⟩)]) rfl trivial (enters_of Try.func70 (by kernel_rfl) rfl)
    (sectors_stops Fence.wide 8 trivial rfl (by omega) (w.heap.size + 1 + 1 + 1 + 1) n (by omega) hn4.1 W1 (by omega) fn.cell) keepsBox_t (keepsBox_b (w := W1) (by omega)) (Below.refl _ _) (fun _ => rfl)
    (fun pre W => W.heap[w.heap.size + 1 + 1 + 1]? = some (.cells (encB (got D n pre)).toArray 92) ∧ Keeps (fun k => k = w.heap.size + 1 + 1 + 1) W1 W)
    (fun c pre W => False)
    (own_of_below _ _ (fun s W ⟨_, k⟩ => k.size) (fun s W W' ⟨r1, r3⟩ k => ⟨(k.block _ (by omega)).trans r1, r3.of_below_lt k (Nat.le_refl _)⟩))
    (fun c => own_of_below _ _ (fun s W q => q.elim) (fun s W W' q k => q.elim))
    ⟨f7, Keeps.refl _ _⟩
    (fun x => { tmps := #[.pointer (some ⟨p, 0, none⟩), .int .i64 n, .pointer (some ⟨w.heap.size, 0, none⟩), undef, .pointer (some ⟨w.heap.size + 1, 0, none⟩), .pointer (some ⟨w.heap.size + 1 + 1, 0, none⟩), .int .i64 0, .pointer (some ⟨w.heap.size + 1 + 1 + 1, 0, none⟩), .int .i64 ((x.val : Int) * 64), .int .i64 ((n : Int) * 4 + (x.val : Int)), undef, undef, undef, .pointer (some ⟨p, 0, none⟩), .int .i64 n, .int .i64 0, .int .i64 0, .bool false, undef, .int .i64 n, .func (.func 70) #[] #[.pointer (some ⟨w.heap.size + 1 + 1 + 1 + 1, 0, none⟩)], .int .i64 ((x.val : Int) * 64), .int .i64 ((n : Int) * 4 + (x.val : Int)), undef, undef, undef, undef, undef, undef, undef, undef, undef, undef, undef, undef, undef, undef, undef, undef, undef, undef, undef, undef, undef, undef, undef, undef, undef, undef, undef], defers := [] }) ?assign ?body ?done ?stop
  case assign =>
    intro l x W K hK
    unfold secs
    gi_wp2
    exact hK
  case body =>
    rintro l pre x W ⟨r1, r3⟩ hlen
    have c2 : W.cell? ⟨w.heap.size, 0, none⟩ = some (.pointer (some ⟨p, 0, none⟩)) := Boxed.cell (t := 25) ((r3.block _ (by omega) (by omega)).trans f2)
    have hrd := read_calls ((n : Int) * 4 + (x.val : Int)) W (hD1.keep r3 (by omega) (by omega) (by omega))
    have xl := x.isLt
    have e1 : D.read ((n : Int) * 4 + (x.val : Int)) = (D.now (4 * n + x.val), 0) := by
      have : D.has ((n : Int) * 4 + (x.val : Int)) = true := by simp [Dk.has]; omega
      simp only [Dk.read, this, if_true]
      congr 2
      omega
    rw [e1] at hrd
    have tl := hnow x
    have gl := got_length hnow pre
    have hsn := got_snoc (D := D) n pre x
    have hfin : ∀ W2, Keeps noB W W2 → W2.heap[w.heap.size + 1 + 1 + 1]? = some (.cells (encB (got D n pre)).toArray 92) ∧ ∀ W3, W3.heap[w.heap.size + 1 + 1 + 1]? = some (.cells (encB (got D n (pre ++ [x]))).toArray 92) → Keeps (fun k => k = w.heap.size + 1 + 1 + 1) W2 W3 →
        KeepsFrom W1.heap.size W W3 ∧ keepsBox (w.heap.size + 1 + 1 + 1 + 1) W W3 ∧ W3.heap[w.heap.size + 1 + 1 + 1]? = some (.cells (encB (got D n (pre ++ [x]))).toArray 92) ∧ Keeps (fun k => k = w.heap.size + 1 + 1 + 1) W1 W3 := by
      intro W2 k2
      refine ⟨(k2.block _ (by have := r3.size; omega) (fun q => q)).trans r1, fun W3 h3 k3 => ?_⟩
      have hk3 : Keeps (fun k => k = w.heap.size + 1 + 1 + 1) W W3 := (k2.mono (fun _ _ q => q.elim)).trans k3
      refine ⟨keepsFrom_of_keeps hk3 (fun k hk => by omega), hk3.cell 0 (by have := r3.size; omega) (by omega), h3, r3.trans hk3⟩
    rw [hsn] at hfin
    have Hfin := Lib.hid hfin
    have Hsn := Lib.hid hsn
    clear hfin hsn e1
    have x0 : (0 : Int) ≤ (x.val : Int) * 64 := by omega
    have x1 : (x.val : Int) * 64 + 64 ≤ 256 := by omega
    unfold gotS at Hfin Hsn
    generalize D.now (4 * n + x.val) = tt at *
    gi_wp2_with (first | (refine And.intro (a := Fence.wide.fn _) trivial ?_) | (gi_at_call 24; refine CallsIn.inRound _ (callsIn_wide.2 (hrd.mono ?_)); rintro e W2 ⟨rfl, k2⟩))
    obtain ⟨h1, h2⟩ := Hfin.out W2 k2
    rw [run_sliceArrLo 92 5 256 1 (w.heap.size + 1 + 1 + 1) 0 _ (x.val * 64) W2 Try.underlying92 Try.sizeOf5 (by omega) (by omega)]
    gi_wp2
    rw [run_copyStr 35 9 5 _ _ (x.val * 64) _ _ tt _ _ Try.underlying35 Try.sizeOf5 h1 (by omega) (by rw [encB_length]; omega)]
    gi_wp2
    have e5 : (encB (got D n pre)).take (x.val * 64) ++ (encB tt ++ (encB (got D n pre)).drop (x.val * 64 + 64)) = encB ((got D n pre).take (x.val * 64) ++ tt ++ (got D n pre).drop (x.val * 64 + 64)) := by
      simp only [encB, List.map_append, List.map_take, List.map_drop, List.append_assoc]
    rw [e5]
    obtain ⟨h6, h7, h8, h9⟩ := h2 _ (setRow_eq W2 (w.heap.size + 1 + 1 + 1) _ _ _ _ h1) ((Keeps.refl (fun k => k = w.heap.size + 1 + 1 + 1) W2).setRow (fun _ => rfl) _)
    exact ⟨h6, h7, by rw [Hsn.out]; exact h8, h9⟩
  case done =>
    rintro D0 ys W hD rfl ⟨r1, r3⟩ hK
    rw [got_all hnow] at r1
    have b4 : Boxed W (w.heap.size + 1) 9 (.string (bs [])) := (r3.block _ (by omega) (by omega)).trans f4
    have b5 : Boxed W (w.heap.size + 1 + 1) 26 (.int .i64 0) := (r3.block _ (by omega) (by omega)).trans f5
    have al : (pageOf D n).length = 256 := by rw [← got_all hnow]; exact got_length hnow _
    generalize pageOf D n = all at *
    have c4 := b4.cell
    have q4 := b4.frozen
    have c5 := b5.cell
    have q5 := b5.frozen
    have c0 : W.cell? ⟨w.heap.size + 1 + 1 + 1, 0, none⟩ = some (.int .u8 (all.getD 0 0).toNat) := by
      have : (encB all)[0]? = some (.int .u8 (all.getD 0 0).toNat) := by simp [encB, List.getD_eq_getElem?_getD, al]
      simp [World.cell?, r1, this]
    have c1 : W.cell? ⟨w.heap.size + 1 + 1 + 1, 1, none⟩ = some (.int .u8 (all.getD 1 0).toNat) := by
      have : (encB all)[1]? = some (.int .u8 (all.getD 1 0).toNat) := by simp [encB, List.getD_eq_getElem?_getD, al]
      simp [World.cell?, r1, this]
    have o2 := or_two' (all.getD 0 0) (all.getD 1 0)
    have u0 := (all.getD 0 0).toNat_lt
    have u1 := (all.getD 1 0).toNat_lt
    generalize (all.getD 0 0).toNat = x0 at *
    generalize (all.getD 1 0).toNat = x1 at *
    have kk : ∀ (s : Str) (e : Int), Keeps noB w (((W.setCell ⟨w.heap.size + 1, 0, none⟩ (.string (bs s))).setCell ⟨w.heap.size + 1 + 1, 0, none⟩ (.int .i64 e)).putObj D0 (.deferred none)) := fun s e =>
      (((((k0.mono (fun _ _ q => q.elim)).trans r3).setCell (a := ⟨w.heap.size + 1, 0, none⟩) (fun q => by simp only [] at q; omega) _).setCell (a := ⟨w.heap.size + 1 + 1, 0, none⟩) (fun q => by simp only [] at q; omega) _).putObj (fun q => by omega) _).mono (fun k hk hs => by omega)
    by_cases hl : 254 < x0 * 256 + x1
    · rw [if_pos hl] at hpr
      have d1 : decide (254 < ((x0 * 256 + x1 : Nat) : Int)) = true := by simp; omega
      generalize x0 * 256 + x1 = long at *
      have Hpr := Lib.hid hpr
      clear hpr hl
      go_wp2
      have z4 : Boxed ((W.setCell ⟨w.heap.size + 1, 0, none⟩ (.string (bs []))).setCell ⟨w.heap.size + 1 + 1, 0, none⟩ (.int .i64 4)) (w.heap.size + 1) 9 (.string (bs [])) :=
        (heap_setCell_ne _ _ _ _ _ (by omega)).trans (heap_setCell_same W (w.heap.size + 1) 0 _ _ _ b4)
      have z5 : Boxed ((W.setCell ⟨w.heap.size + 1, 0, none⟩ (.string (bs []))).setCell ⟨w.heap.size + 1 + 1, 0, none⟩ (.int .i64 4)) (w.heap.size + 1 + 1) 26 (.int .i64 4) :=
        heap_setCell_same _ (w.heap.size + 1 + 1) 0 _ _ _ ((heap_setCell_ne _ _ _ _ _ (by omega)).trans b5)
      refine leaves_mark (D := D0) ((heap_setCell_ne _ _ _ _ _ (by omega)).trans ((heap_setCell_ne _ _ _ _ _ (by omega)).trans hK))
        (results_cell2 rfl _ _ (w.heap.size + 1) (w.heap.size + 1 + 1) (.string (bs [])) (.int .i64 4) rfl (Try.isAgg9 _) (Boxed.cell (t := 9) ((putObj_ne _ _ _ _ (by omega)).trans z4)) rfl (Try.isAgg26 _) (Boxed.cell (t := 26) ((putObj_ne _ _ _ _ (by omega)).trans z5))) ⟨by rw [Hpr.out], kk [] 4⟩
    · rw [if_neg hl] at hpr
      have d1 : decide (254 < ((x0 * 256 + x1 : Nat) : Int)) = false := by simp; omega
      generalize x0 * 256 + x1 = long at *
      have Hpr := Lib.hid hpr
      clear hpr
      have hle : (long : Int) ≤ 254 := by omega
      have hseg : ((encB all).drop 2).take long = encB ((all.drop 2).take long) := by
        unfold encB
        rw [← List.map_drop, ← List.map_take]
      go_wp2
      rw [run_sliceArr 92 5 256 1 (w.heap.size + 1 + 1 + 1) 0 _ _ 2 (2 + long) W Try.underlying92 Try.sizeOf5 (by omega) (by omega) (by omega) (by omega) (by omega)]
      go_wp2
      rw [run_bytes 35 9 5 (w.heap.size + 1 + 1 + 1) 2 long 254 (encB all) 92 (0, 0) ((all.drop 2).take long) Try.underlying35 Try.underlying5 Try.underlying9 r1 (by rw [encB_length]; omega) hseg]
      go_wp2
      have z4 : Boxed ((W.setCell ⟨w.heap.size + 1, 0, none⟩ (.string (bs ((all.drop 2).take long)))).setCell ⟨w.heap.size + 1 + 1, 0, none⟩ (.int .i64 0)) (w.heap.size + 1) 9 (.string (bs ((all.drop 2).take long))) :=
        (heap_setCell_ne _ _ _ _ _ (by omega)).trans (heap_setCell_same W (w.heap.size + 1) 0 _ _ _ b4)
      have z5 : Boxed ((W.setCell ⟨w.heap.size + 1, 0, none⟩ (.string (bs ((all.drop 2).take long)))).setCell ⟨w.heap.size + 1 + 1, 0, none⟩ (.int .i64 0)) (w.heap.size + 1 + 1) 26 (.int .i64 0) :=
        heap_setCell_same _ (w.heap.size + 1 + 1) 0 _ _ _ ((heap_setCell_ne _ _ _ _ _ (by omega)).trans b5)
      refine leaves_mark (D := D0) ((heap_setCell_ne _ _ _ _ _ (by omega)).trans ((heap_setCell_ne _ _ _ _ _ (by omega)).trans hK))
        (results_cell2 rfl _ _ (w.heap.size + 1) (w.heap.size + 1 + 1) (.string (bs ((all.drop 2).take long))) (.int .i64 0) rfl (Try.isAgg9 _) (Boxed.cell (t := 9) ((putObj_ne _ _ _ _ (by omega)).trans z4)) rfl (Try.isAgg26 _) (Boxed.cell (t := 26) ((putObj_ne _ _ _ _ (by omega)).trans z5))) ⟨by rw [Hpr.out], kk ((all.drop 2).take long) 0⟩
  case stop =>
    rintro D0 c pre W hD ⟨k, hk, rfl⟩ q hK
    exact q.elim
theorem pread_calls (n : Int) (w : World) (h : DiskAt w p q m D) :
    Calls Try.prog 19 #[.pointer (some ⟨p, 0, none⟩), .int .i64 n] w fun e w' =>
      e = .returned (.tuple #[.string (bs (pgRead D n).1), .int .i64 (pgRead D n).2]) ∧ Keeps noB w w' := by
  cases hh : hasPage D n with
  | false =>
    have e : pgRead D n = ([], 5) := by simp [pgRead, hh]
    rw [e]; exact pread_bad n w h hh
  | true =>
    obtain ⟨k, rfl⟩ : ∃ k : Nat, n = k := ⟨n.toNat, by unfold hasPage at hh; simp at hh; omega⟩
    exact pread_good k w h hh
end Go.Proofs.Ytckopikeegegkaa
/- STRS: strings as lists of bytes, in the walk. -/
namespace Go.Proofs.Ytckopikeegegkaa
open Go.RowKit
@[simp, go_sem] theorem bs_toList (l : Str) : (bs l).toList = l := by rw [ByteArray.toList_eq]; simp [bs]
theorem bs_ext {s : ByteArray} {l : Str} (h : s.data.toList = l) : s = bs l := by rw [← h, bs_of]
theorem bs_append (a b : Str) : bs a ++ bs b = bs (a ++ b) := by
  apply bs_ext
  simp [bs]
theorem bs_extract (l : Str) (i j : Nat) : (bs l).extract i j = bs (sub l i j) := by
  apply bs_ext
  simp [bs, sub, ByteArray.extract, ByteArray.copySlice]
end Go.Proofs.Ytckopikeegegkaa
/- AWAKE 4: the examples of layer 4. -/
namespace Go.Proofs.Ytckopikeegegkaa
open Go.RowKit Go.MapKept Go.Shelf
set_option linter.unusedSimpArgs false
set_option linter.unusedVariables false

def awD1 : Dk := (pgWrite (Dk.zero 8) 1 [97, 98]).2
def awD2 : Dk := (pgSetRoot awD1 0 ⟨true, 5, 3⟩).2
def awS : Str := (awD2.read 4).1
def awT : Str := (awD2.read 0).1
theorem aw_make : Dk.make 8 = some (Dk.zero 8) := by kernel_rfl
theorem aw_pages : pages (Dk.zero 8) = 2 := by kernel_rfl
theorem aw_write : pgWrite (Dk.zero 8) 1 [97, 98] = (0, awD1) := by kernel_rfl
theorem aw_root : pgSetRoot awD1 0 ⟨true, 5, 3⟩ = (0, awD2) := by kernel_rfl
theorem aw_s : awD2.read 4 = (awS, 0) := by kernel_rfl
theorem aw_t : awD2.read 0 = (awT, 0) := by kernel_rfl
theorem aw_sl : awS.length = 64 := by kernel_rfl
theorem aw_tl : awT.length = 64 := by kernel_rfl
theorem aw_s4 : (bs awS).extract 0 4 = bs [0, 2, 97, 98] := by kernel_rfl
theorem aw_t11 : (bs awT).extract 0 11 = bs [1, 0, 0, 0, 0, 0, 0, 0, 5, 0, 3] := by kernel_rfl
set_option maxHeartbeats 1000000 in
theorem awake4_calls (w : World) : Calls Try.prog 15 #[] w fun e w' => e = .returned (.bool true) ∧ Keeps noB w w' := by
  have hnew := new_good 8 _ w aw_make
  have hpg := fun (p q m : Nat) (W : World) (h : DiskAt W p q m (Dk.zero 8)) => pages_calls W h
  have hwr := fun (p q m : Nat) (W : World) (h : DiskAt W p q m (Dk.zero 8)) => pwrite_calls 1 [97, 98] W h
  have hsr := fun (p q m : Nat) (W : World) (h : DiskAt W p q m awD1) => setRoot_calls 0 ⟨true, 5, 3⟩ W h
  have hr1 := fun (p q m : Nat) (W : World) (h : DiskAt W p q m awD2) => read_calls 4 W h
  have hr2 := fun (p q m : Nat) (W : World) (h : DiskAt W p q m awD2) => read_calls 0 W h
  simp only [aw_pages, aw_write, aw_root, aw_s, aw_t] at hpg hwr hsr hr1 hr2
  have e1 := aw_sl
  have e2 := aw_tl
  have e3 := aw_s4
  have e4 := aw_t11
  generalize awS = S at *
  generalize awT = T at *
  generalize awD2 = D2 at *
  generalize awD1 = D1 at *
  generalize Dk.zero 8 = D0 at *
  go_enter Try.func15, Try.ntmps15
  go_wp2_with (first | (go_at_call 16; refine hnew.mono ?_; rintro e W1 ⟨p, q, m, rfl, d1, k1, lp, lq, lm⟩) | (go_at_call 20; refine (hpg p q m _ d1).mono ?_; rintro e W2 ⟨rfl, rfl⟩) | (go_at_call 21; refine (hwr p q m _ d1).mono ?_; rintro e W2 ⟨rfl, d2, k2⟩) | (go_at_call 17; refine (hsr p q m _ d2).mono ?_; rintro e W3 ⟨rfl, d3, k3⟩) | (go_at_call 24; with_reducible refine (hr1 p q m _ d3).mono ?_; rintro e W4 ⟨rfl, k4⟩) | (go_at_call 24; with_reducible refine (hr2 p q m _ (d3.keep k4 (fun q => q) (fun q => q) (fun q => q))).mono ?_; rintro e W5 ⟨rfl, k5⟩))
  go_ret
  exact ⟨rfl, ((k1.trans_new k2 (fun k hk q => by simp only [dset] at q; omega)).trans_new k3 (fun k hk q => by simp only [dset] at q; omega)).trans (k4.trans k5)⟩
end Go.Proofs.Ytckopikeegegkaa
/- PAGE 7: the calls on no disk. -/
namespace Go.Proofs.Ytckopikeegegkaa
open Go.RowKit Go.MapKept Go.Shelf
set_option linter.unusedSimpArgs false
set_option linter.unusedVariables false
set_option maxHeartbeats 1000000 in
theorem pread_nil (n : Int) (w : World) :
    Calls Try.prog 19 #[.pointer none, .int .i64 n] w fun e w' => e = .returned (.tuple #[.string (bs []), .int .i64 2]) ∧ Keeps noB w w' := by
  have hi := fun W => there_nil n W
  refine calls_marks Try.func19 rfl ?_
  simp only [Try.ntmps19, List.size_toArray, List.length_cons, List.length_nil, Nat.reduceAdd, Nat.reduceSub, Array.replicate_succ, Array.replicate_zero, List.push_toArray, List.append_toArray, List.nil_append, List.cons_append]
  go_wp2_with (go_at_call 54; refine (hi _).mono ?_; rintro e w' ⟨rfl, rfl⟩)
  have k1 : Keeps noB w (((w.alloc (.cells #[.pointer none] 25)).alloc (.cells #[.string (bs [])] 9)).alloc (.cells #[.int .i64 2] 26)) := (((Keeps.refl _ _).alloc _).alloc _).alloc _
  have g4 : Boxed (((w.alloc (.cells #[.pointer none] 25)).alloc (.cells #[.string (bs [])] 9)).alloc (.cells #[.int .i64 2] 26)) (w.heap.size + 1) 9 (.string (bs [])) := by unfold Boxed; simp (disch := (first | (simp only [World.size_alloc, World.size_setCell, World.size_drew, size_setRow, heap_drew, heap_drewN]; done) | ((try simp only [World.size_alloc, World.size_setCell, World.size_drew, size_setRow, heap_drew, heap_drewN]); omega))) only [heap_drew, heap_drewN, heap_alloc_ne, heap_alloc_eq, heap_setCell_ne, heap_setRow_ne]
  have g5 : Boxed (((w.alloc (.cells #[.pointer none] 25)).alloc (.cells #[.string (bs [])] 9)).alloc (.cells #[.int .i64 2] 26)) (w.heap.size + 1 + 1) 26 (.int .i64 2) := by unfold Boxed; simp (disch := (first | (simp only [World.size_alloc, World.size_setCell, World.size_drew, size_setRow, heap_drew, heap_drewN]; done) | ((try simp only [World.size_alloc, World.size_setCell, World.size_drew, size_setRow, heap_drew, heap_drewN]); omega))) only [heap_drew, heap_drewN, heap_alloc_ne, heap_alloc_eq, heap_setCell_ne, heap_setRow_ne]
  exact leaves_plain (results_cell2 rfl _ _ (w.heap.size + 1) (w.heap.size + 1 + 1) (.string (bs [])) (.int .i64 2) rfl (Try.isAgg9 _) g4.cell rfl (Try.isAgg26 _) g5.cell) ⟨rfl, k1⟩
set_option maxHeartbeats 1000000 in
theorem pwrite_nil (n : Int) (b : Str) (w : World) :
    Calls Try.prog 21 #[.pointer none, .int .i64 n, .string (bs b)] w fun e w' => e = .returned (.int .i64 2) ∧ Keeps noB w w' := by
  have hi := fun W => there_nil n W
  refine calls_marks Try.func21 rfl ?_
  simp only [Try.ntmps21, List.size_toArray, List.length_cons, List.length_nil, Nat.reduceAdd, Nat.reduceSub, Array.replicate_succ, Array.replicate_zero, List.push_toArray, List.append_toArray, List.nil_append, List.cons_append]
  go_wp2_with (go_at_call 54; refine (hi _).mono ?_; rintro e w' ⟨rfl, rfl⟩)
  have k1 : Keeps noB w ((w.alloc (.cells #[.pointer none] 25)).alloc (.cells #[.int .i64 2] 26)) := ((Keeps.refl _ _).alloc _).alloc _
  exact leaves_plain (results_cell1 rfl _ _ (w.heap.size + 1) (.int .i64 2) rfl (Try.isAgg26 _) (by simp)) ⟨rfl, k1⟩
set_option maxHeartbeats 1000000 in
theorem setRoot_nil (n : Int) (on : Bool) (ep pg : Int) (w : World) :
    Calls Try.prog 17 #[.pointer none, .int .i64 n, .agg #[.bool on, .int .i64 ep, .int .i64 pg]] w fun e w' => e = .returned (.int .i64 2) ∧ Keeps noB w w' := by
  have hr := root_nil n (w.alloc (.cells #[.bool on, .int .i64 ep, .int .i64 pg] 23))
  go_enter Try.func17, Try.ntmps17
  go_wp2_with (go_at_call 53; refine hr.mono ?_; rintro e w' ⟨rfl, rfl⟩)
  go_ret
  exact ⟨rfl, (Keeps.refl _ _).alloc _⟩
end Go.Proofs.Ytckopikeegegkaa
/- PURE 2: what is read behind a write; roots. -/
namespace Go.Proofs.Ytckopikeegegkaa

theorem look_put_same (n : Nat) (s : Str) : ∀ A, Dk.look n (Dk.put n s A) = some s
  | [] => by simp [Dk.put, Dk.look]
  | p :: l => by
    unfold Dk.put
    split
    · simp [Dk.look]
    · split
      · simp [Dk.look]
      · rename_i h1 h2; unfold Dk.look; rw [if_neg h2]; exact look_put_same n s l
theorem look_put_other {n k : Nat} (s : Str) (h : n ≠ k) : ∀ A, Dk.look k (Dk.put n s A) = Dk.look k A
  | [] => by simp [Dk.put, Dk.look, h]
  | p :: l => by
    unfold Dk.put
    split
    · simp [Dk.look, h]
    · split
      · rename_i h1 h2
        simp only [Dk.look]
        rw [if_neg h, if_neg (by omega)]
      · rename_i h1 h2
        simp only [Dk.look]
        rw [look_put_other s h l]
/-- What a write does that is done. -/
def wrote (d : Dk) (n : Nat) (s : Str) : Dk := { d with left := Dk.burnt d.left, aside := Dk.put n s d.aside }
theorem write_done {d : Dk} {n : Nat} {s : Str} (hn : n < d.there.length) (hs : s.length = 64) (hl : d.left ≠ 0) : d.write n s = (0, wrote d n s) := by
  have : d.has n = true := by simp [Dk.has, hn]
  simp [Dk.write, this, hs, hl, wrote]
theorem now_wrote (d : Dk) (n k : Nat) (s : Str) : (wrote d n s).now k = if n = k then s else d.now k := by
  unfold Dk.now wrote
  split
  · rename_i h; subst h; rw [look_put_same]; rfl
  · rename_i h; rw [look_put_other s h]
theorem wrote_there (d : Dk) (n : Nat) (s : Str) : (wrote d n s).there = d.there := rfl
theorem wrote_left (d : Dk) (n : Nat) (s : Str) : (wrote d n s).left = Dk.burnt d.left := rfl
theorem burnt_none {x : Int} (h : x = -1) : Dk.burnt x = -1 := by subst h; rfl

/-! Roots. -/
theorem big_byte (e : Nat) (h : e ≤ 1099511627776) : big ((List.range 8).map (fun i => UInt8.ofNat (e / 256 ^ (7 - i) % 256))) = e := by
  have hr : (List.range 8) = [0, 1, 2, 3, 4, 5, 6, 7] := by decide
  have s : ∀ k, e / 256 ^ (k + 1) * 256 + e / 256 ^ k % 256 = e / 256 ^ k := fun k => by
    rw [Nat.pow_succ, ← Nat.div_div_eq_div_mul]; exact Nat.div_add_mod' _ _
  have t : ∀ x : Nat, (UInt8.ofNat (x % 256)).toNat = x % 256 := fun x => by simp
  have z : 0 * 256 + e / 256 ^ 7 % 256 = e / 256 ^ 7 := by
    have : e / 256 ^ 7 < 256 := by
      rw [Nat.div_lt_iff_lt_mul (Nat.pow_pos (by decide))]
      exact Nat.lt_of_le_of_lt h (by decide)
    rw [Nat.mod_eq_of_lt this]; omega
  rw [hr]
  simp only [List.map_cons, List.map_nil, big, List.foldl_cons, List.foldl_nil, t]
  show ((((((((0 * 256 + e / 256 ^ 7 % 256) * 256 + e / 256 ^ 6 % 256) * 256 + e / 256 ^ 5 % 256) * 256 + e / 256 ^ 4 % 256) * 256 + e / 256 ^ 3 % 256) * 256 + e / 256 ^ 2 % 256) * 256 + e / 256 ^ 1 % 256) * 256 + e / 256 ^ 0 % 256) = e
  rw [z, s 6, s 5, s 4, s 3, s 2, s 1, s 0, Nat.pow_zero, Nat.div_one]
theorem rootOf_rootText {m : Mk} (h : mayRoot m = true) : rootOf (rootText m) = m := by
  obtain ⟨on, e, g⟩ := m
  simp only [mayRoot, Bool.and_eq_true, decide_eq_true_eq] at h
  obtain ⟨h1, h2, h3, h4⟩ := h
  obtain ⟨e, rfl⟩ : ∃ k : Nat, e = k := ⟨e.toNat, by omega⟩
  obtain ⟨g, rfl⟩ : ∃ k : Nat, g = k := ⟨g.toNat, by omega⟩
  have hl : ((List.range 8).map (fun i => UInt8.ofNat (e / 256 ^ (7 - i) % 256))).length = 8 := by simp
  have b1 := big_byte e (by omega)
  have hb : rootText ⟨on, e, g⟩ = (if on then 1 else 0) :: ((List.range 8).map (fun i => UInt8.ofNat (e / 256 ^ (7 - i) % 256)) ++ (UInt8.ofNat (g / 256) :: UInt8.ofNat (g % 256) :: List.replicate 53 0)) := rfl
  rw [hb]
  generalize (List.range 8).map (fun i => UInt8.ofNat (e / 256 ^ (7 - i) % 256)) = M at *
  have e1 : sub ((if on then 1 else 0) :: (M ++ (UInt8.ofNat (g / 256) :: UInt8.ofNat (g % 256) :: List.replicate 53 0))) 1 9 = M := by
    unfold sub
    rw [List.drop_succ_cons, List.drop_zero, List.take_append_of_le_length (by omega), List.take_of_length_le (by omega)]
  have e2 : sub ((if on then 1 else 0) :: (M ++ (UInt8.ofNat (g / 256) :: UInt8.ofNat (g % 256) :: List.replicate 53 0))) 9 11 = [UInt8.ofNat (g / 256), UInt8.ofNat (g % 256)] := by
    unfold sub
    rw [List.drop_succ_cons, List.drop_append, List.drop_of_length_le (by omega), hl]
    rfl
  unfold rootOf
  have b2 : big [UInt8.ofNat (g / 256), UInt8.ofNat (g % 256)] = g := by
    simp only [big, List.foldl_cons, List.foldl_nil, UInt8.toNat_ofNat']
    omega
  simp only [e1, e2, b1, b2, if_neg (show ¬ 1099511627776 < e by omega), if_neg (show ¬ 1024 ≤ g by omega)]
  cases on <;> rfl
theorem set_on (d : Dk) {a : Nat} {m : Mk} (hr : hasRoot d a = true) (hl : d.left ≠ 0) : pgSetRoot d a m = if mayRoot m then (0, wrote d (4 * a) (rootText m)) else (1, d) := by
  have hn : 4 * a < d.there.length := by
    simp only [hasRoot, hasPage, Bool.and_eq_true, decide_eq_true_eq] at hr
    unfold pages at hr
    omega
  unfold pgSetRoot
  rw [hr]
  cases hm : mayRoot m with
  | false => rfl
  | true =>
    have := write_done hn (rootText_length m) hl
    simp only [Bool.not_true, Bool.false_eq_true, if_false, if_true]
    rw [← this]
    congr 1
theorem root_on (d : Dk) {a : Nat} (hr : hasRoot d a = true) : pgRoot d a = (rootOf (d.now (4 * a)), 0) := by
  unfold pgRoot
  rw [hr]
  simp
theorem hasRoot_there {d d' : Dk} (h : d'.there = d.there) (a : Int) : hasRoot d' a = hasRoot d a := by unfold hasRoot hasPage pages; rw [h]
theorem hasRoot_w (d : Dk) (n : Nat) (s : Str) {a : Int} (h : hasRoot d a = true) : hasRoot (wrote d n s) a = true := h
/-- Both roots of a disk, set one behind the other. -/
theorem roots_two (d : Dk) (a b : Nat) (hab : a ≠ b) (ha : hasRoot d a = true) (hb : hasRoot d b = true) (hl : d.left = -1) (za : rootOf (d.now (4 * a)) = ⟨false, 0, 0⟩) (zb : rootOf (d.now (4 * b)) = ⟨false, 0, 0⟩) (m n : Mk) :
    ∃ D1 D2, pgSetRoot d a m = (if mayRoot m then 0 else 1, D1) ∧ pgSetRoot D1 b n = (if mayRoot n then 0 else 1, D2) ∧
      pgRoot D2 a = (if mayRoot m then m else ⟨false, 0, 0⟩, 0) ∧ pgRoot D2 b = (if mayRoot n then n else ⟨false, 0, 0⟩, 0) := by
  have n1 : 4 * a ≠ 4 * b := by omega
  cases hm : mayRoot m <;> cases hn : mayRoot n
  · refine ⟨d, d, ?_, ?_, ?_, ?_⟩
    · rw [set_on d ha (by omega), hm]; rfl
    · rw [set_on d hb (by omega), hn]; rfl
    · rw [root_on d ha, za]; rfl
    · rw [root_on d hb, zb]; rfl
  · refine ⟨d, wrote d (4 * b) (rootText n), ?_, ?_, ?_, ?_⟩
    · rw [set_on d ha (by omega), hm]; rfl
    · rw [set_on d hb (by omega), hn]; rfl
    · rw [root_on _ (hasRoot_w _ _ _ ha), now_wrote, if_neg (Ne.symm n1), za]; rfl
    · rw [root_on _ (hasRoot_w _ _ _ hb), now_wrote, if_pos rfl, rootOf_rootText hn]; rfl
  · refine ⟨wrote d (4 * a) (rootText m), wrote d (4 * a) (rootText m), ?_, ?_, ?_, ?_⟩
    · rw [set_on d ha (by omega), hm]; rfl
    · rw [set_on _ (hasRoot_w _ _ _ hb) (by rw [wrote_left, hl]; decide), hn]; rfl
    · rw [root_on _ (hasRoot_w _ _ _ ha), now_wrote, if_pos rfl, rootOf_rootText hm]; rfl
    · rw [root_on _ (hasRoot_w _ _ _ hb), now_wrote, if_neg n1, zb]; rfl
  · refine ⟨wrote d (4 * a) (rootText m), wrote (wrote d (4 * a) (rootText m)) (4 * b) (rootText n), ?_, ?_, ?_, ?_⟩
    · rw [set_on d ha (by omega), hm]; rfl
    · rw [set_on _ (hasRoot_w _ _ _ hb) (by rw [wrote_left, hl]; decide), hn]; rfl
    · rw [root_on _ (hasRoot_w _ _ _ (hasRoot_w _ _ _ ha)), now_wrote, if_neg (Ne.symm n1), now_wrote, if_pos rfl, rootOf_rootText hm]; rfl
    · rw [root_on _ (hasRoot_w _ _ _ (hasRoot_w _ _ _ hb)), now_wrote, if_pos rfl, rootOf_rootText hn]; rfl
theorem rootOf_zero : rootOf (List.replicate 64 0) = ⟨false, 0, 0⟩ := by kernel_rfl
end Go.Proofs.Ytckopikeegegkaa
/- LAWS 4: a whole row loaded, said of the instruction. -/
namespace Go.Proofs.Ytckopikeegegkaa
open Go.RowKit
theorem run_loadAll {P : Program} {w : World} (ty : TypeId) (n b : Nat) (L : List Value) (t : TypeId) (fr : Nat × Nat) (hg : ∀ w, (isAgg ty).run P w = .ok true w) (hs : ∀ w, (sizeOf ty).run P w = .ok n w)
    (hb : w.heap[b]? = some (.cells L.toArray t fr)) (hl : L.length = n) : (Instr.loadAt ty (.pointer (some ⟨b, 0, none⟩))).run P w = .ok (.agg L.toArray) w := by
  have e : (L.drop 0).take n = L := by rw [List.drop_zero, List.take_of_length_le (by omega)]
  have := run_loadCells_row (P := P) (w := w) b 0 n L t fr hb (by omega)
  rw [e] at this
  simp [Instr.loadAt, Instr.sureAddr, loadVar, hg, hs, this, Result.andThen]
theorem run_indexRows {P : Program} {w : World} (ty et : TypeId) (n b len cap : Nat) (i : Nat) (hu : P.underlying ty = some (.slice et)) (hs : ∀ w, (sizeOf et).run P w = .ok n w) (hi : i < len) :
    (Instr.indexAt ty (.slice (some ⟨b, 0, none⟩) len cap) (.int .i64 i)).run P w = .ok (.pointer (some ⟨b, i * n, none⟩)) w := by
  have e : (0 : Int) ≤ (i : Int) ∧ (i : Int) < (len : Int) := ⟨by omega, by omega⟩
  simp [Instr.indexAt, asIntOf, run_underlying hu, hs, Result.andThen, e, addr_add]
  intro h'; omega
theorem run_clearMap {P : Program} {w : World} (t k e ty : TypeId) (b : Nat) (es : Array MapEntry) (clock : Nat) (hu : P.underlying t = some (.map k e)) (hb : w.heap[b]? = some (.map es clock)) :
    (Builtin.clear_ #[t] ty #[.map (some b)]).run P w = .ok (.tuple #[]) (Go.ChangeMaps.setBlock w b (.map #[] clock)) := by
  simp [Builtin.clear_, run_underlying hu, Go.MapKept.run_getObj_map hb, Go.MapKept.run_setObj_map _ hb, Result.andThen, Go.ChangeMaps.setBlock]
theorem wplg_load_all {P : Program} {o : Oper} {ops : Array Oper} {rest : List Oper} {a : Act} {w : World} {Q : Exit → Act → World → Prop} (ty : TypeId) (x : Operand) (n : Nat) (ho : o.op = .load ty x) (b : Nat) (hx : a.eval x = .pointer (some ⟨b, 0, none⟩))
    (hg : ∀ w, (isAgg ty).run P w = .ok true w) (hs : ∀ w, (sizeOf ty).run P w = .ok n w) (L : List Value) (t : TypeId) (fr : Nat × Nat)
    (hb : w.heap[b]? = some (.cells L.toArray t fr)) (hl : L.length = n)
    (hgd : Region.wanted o (yielded ops a.tmps) = true) (h : wpList P ops Q rest (a.put o.dst (.agg L.toArray)) w) : wpList P ops Q (o :: rest) a w :=
  Go.BigFrame.wpList_want hgd fun _ hK => wpo_load_all ty x n ho b hx hg hs L t fr hb hl (hK _ _ h)
end Go.Proofs.Ytckopikeegegkaa
/- AT: a disk that was made within the call: its contracts, each with what the plain function answers handed in. -/
namespace Go.Proofs.Ytckopikeegegkaa
open Go.RowKit Go.MapKept Go.Shelf
set_option linter.unusedVariables false
/-- The disk D lies in W, in blocks that are new since w0; nothing that w0 has was turned. -/
structure At (w0 W : World) (p q m : Nat) (D : Dk) : Prop where
  at_ : DiskAt W p q m D
  kept : Keeps noB w0 W
  hp : w0.heap.size ≤ p
  hq : w0.heap.size ≤ q
  hm : w0.heap.size ≤ m
namespace At
variable {w0 W W' : World} {p q m : Nat} {D D' : Dk}
theorem same (h : At w0 W p q m D) (k : Keeps noB W W') : At w0 W' p q m D := ⟨h.at_.keep k (fun q => q) (fun q => q) (fun q => q), h.kept.trans k, h.hp, h.hq, h.hm⟩
theorem alloc (h : At w0 W p q m D) (o : Obj) : At w0 (W.alloc o) p q m D := h.same ((Keeps.refl _ _).alloc o)
theorem drew (h : At w0 W p q m D) : At w0 W.drew p q m D := h.same (Keeps.refl _ _).drew
theorem turned (h : At w0 W p q m D) (k : Keeps (dset p q m) W W') (d : DiskAt W' p q m D') : At w0 W' p q m D' :=
  ⟨d, h.kept.trans_new k (fun k hk q => by have := h.hp; have := h.hq; have := h.hm; simp only [dset] at q; omega), h.hp, h.hq, h.hm⟩
/-- A block that w0 has, or that is none of the disk's. -/
theorem turned_block (h : At w0 W p q m D) (k : Keeps (dset p q m) W W') {b : Nat} (hb : b < w0.heap.size) : W'.heap[b]? = W.heap[b]? :=
  k.block b (Nat.lt_of_lt_of_le hb h.kept.size) (fun x => by have := h.hp; have := h.hq; have := h.hm; simp only [dset] at x; omega)
end At
section
variable {w0 W : World} {p q m : Nat} {D D' : Dk} {n : Int}
theorem new_at {n : Int} {D : Dk} (W : World) (k : Keeps noB w0 W) (he : Dk.make n = some D) : Calls Try.prog 16 #[.int .i64 n] W fun e W' => ∃ p q m, e = .returned (.tuple #[.pointer (some ⟨p, 0, none⟩), .int .i64 0]) ∧ At w0 W' p q m D ∧ Keeps noB W W' := by
  refine (new_good n D W he).mono ?_
  rintro e W' ⟨p, q, m, rfl, d, k2, lp, lq, lm⟩
  have := k.size
  exact ⟨p, q, m, rfl, ⟨d, k.trans k2, by omega, by omega, by omega⟩, k2⟩
theorem pages_at {e : Int} (h : At w0 W p q m D) (he : pages D = e) : Calls Try.prog 20 #[.pointer (some ⟨p, 0, none⟩)] W fun r W' => r = .returned (.int .i64 e) ∧ W = W' := by
  subst he; exact pages_calls W h.at_
theorem read_at {s : Str} {e : Int} (h : At w0 W p q m D) (he : D.read n = (s, e)) : Calls Try.prog 24 #[.pointer (some ⟨p, 0, none⟩), .int .i64 n] W fun r W' => r = .returned (.tuple #[.string (bs s), .int .i64 e]) ∧ At w0 W' p q m D ∧ Keeps noB W W' := by
  have := read_calls n W h.at_
  rw [he] at this
  exact this.mono (fun r W' ⟨h1, h2⟩ => ⟨h1, h.same h2, h2⟩)
theorem write_at {s : Str} {e : Int} (h : At w0 W p q m D) (he : D.write n s = (e, D')) : Calls Try.prog 32 #[.pointer (some ⟨p, 0, none⟩), .int .i64 n, .string (bs s)] W fun r W' => r = .returned (.int .i64 e) ∧ At w0 W' p q m D' ∧ Keeps (dset p q m) W W' := by
  have := write_calls n s W h.at_
  rw [he] at this
  exact this.mono (fun r W' ⟨h1, h2, h3⟩ => ⟨h1, h.turned h3 h2, h3⟩)
theorem pread_at {s : Str} {e : Int} (h : At w0 W p q m D) (he : pgRead D n = (s, e)) : Calls Try.prog 19 #[.pointer (some ⟨p, 0, none⟩), .int .i64 n] W fun r W' => r = .returned (.tuple #[.string (bs s), .int .i64 e]) ∧ At w0 W' p q m D ∧ Keeps noB W W' := by
  have := pread_calls n W h.at_
  rw [he] at this
  exact this.mono (fun r W' ⟨h1, h2⟩ => ⟨h1, h.same h2, h2⟩)
theorem pwrite_at {s : Str} {e : Int} (h : At w0 W p q m D) (he : pgWrite D n s = (e, D')) : Calls Try.prog 21 #[.pointer (some ⟨p, 0, none⟩), .int .i64 n, .string (bs s)] W fun r W' => r = .returned (.int .i64 e) ∧ At w0 W' p q m D' ∧ Keeps (dset p q m) W W' := by
  have := pwrite_calls n s W h.at_
  rw [he] at this
  exact this.mono (fun r W' ⟨h1, h2, h3⟩ => ⟨h1, h.turned h3 h2, h3⟩)
theorem setRoot_at {on : Bool} {ep pg e : Int} (h : At w0 W p q m D) (he : pgSetRoot D n ⟨on, ep, pg⟩ = (e, D')) : Calls Try.prog 17 #[.pointer (some ⟨p, 0, none⟩), .int .i64 n, .agg #[.bool on, .int .i64 ep, .int .i64 pg]] W fun r W' => r = .returned (.int .i64 e) ∧ At w0 W' p q m D' ∧ Keeps (dset p q m) W W' := by
  have := setRoot_calls n ⟨on, ep, pg⟩ W h.at_
  rw [he] at this
  exact this.mono (fun r W' ⟨h1, h2, h3⟩ => ⟨h1, h.turned h3 h2, h3⟩)
theorem root_at {on : Bool} {ep pg e : Int} (h : At w0 W p q m D) (he : pgRoot D n = (⟨on, ep, pg⟩, e)) : Calls Try.prog 18 #[.pointer (some ⟨p, 0, none⟩), .int .i64 n] W fun r W' => r = .returned (.tuple #[.agg #[.bool on, .int .i64 ep, .int .i64 pg], .int .i64 e]) ∧ At w0 W' p q m D ∧ Keeps noB W W' := by
  have := pgroot_calls n W h.at_
  rw [he] at this
  exact this.mono (fun r W' ⟨h1, h2⟩ => ⟨h1, h.same h2, h2⟩)
theorem fuse_at {e : Int} (h : At w0 W p q m D) (hn : n ≤ 9223372036854775807) (he : D.fuse n = (e, D')) : Calls Try.prog 35 #[.pointer (some ⟨p, 0, none⟩), .int .i64 n] W fun r W' => r = .returned (.int .i64 e) ∧ At w0 W' p q m D' ∧ Keeps (dset p q m) W W' := by
  have := fuse_calls n W h.at_ hn
  rw [he] at this
  exact this.mono (fun r W' ⟨h1, h2, h3⟩ => ⟨h1, h.turned h3 h2, h3⟩)
theorem dead_at {b : Bool} (h : At w0 W p q m D) (he : D.dead = b) : Calls Try.prog 30 #[.pointer (some ⟨p, 0, none⟩)] W fun r W' => r = .returned (.bool b) ∧ W = W' := by
  subst he; exact dead_calls W h.at_
end
end Go.Proofs.Ytckopikeegegkaa
/- PURE 3: what a flush leaves there, in whatever order it is done. -/
namespace Go.Proofs.Ytckopikeegegkaa
def settleBy (A : List (Nat × Str)) (done : List Nat) (t : List Str) : List Str := done.foldl (fun t n => t.set n ((Dk.look n A).getD [])) t
theorem settleBy_snoc (A : List (Nat × Str)) (done : List Nat) (n : Nat) (t : List Str) : settleBy A (done ++ [n]) t = (settleBy A done t).set n ((Dk.look n A).getD []) := by unfold settleBy; rw [List.foldl_append]; rfl
theorem settleBy_length (A : List (Nat × Str)) : ∀ (done : List Nat) (t : List Str), (settleBy A done t).length = t.length
  | [], t => rfl
  | n :: l, t => by
    have := settleBy_length A l (t.set n ((Dk.look n A).getD []))
    rw [List.length_set] at this
    exact this
theorem getD_set_str (t : List Str) (n i : Nat) (s : Str) (hn : n < t.length) : (t.set n s).getD i [] = if n = i then s else t.getD i [] := by
  simp only [List.getD_eq_getElem?_getD, List.getElem?_set]
  split
  · rfl
  · rfl
theorem settleBy_getD (A : List (Nat × Str)) : ∀ (done : List Nat) (t : List Str), (∀ n ∈ done, n < t.length) → ∀ i, (settleBy A done t).getD i [] = if i ∈ done then (Dk.look i A).getD [] else t.getD i []
  | [], t, _, i => by simp [settleBy]
  | n :: l, t, h, i => by
    have := settleBy_getD A l (t.set n ((Dk.look n A).getD [])) (fun k hk => by rw [List.length_set]; exact h k (List.mem_cons_of_mem _ hk)) i
    show (settleBy A l (t.set n ((Dk.look n A).getD []))).getD i [] = _
    rw [this, getD_set_str t n i _ (h n List.mem_cons_self)]
    by_cases hi : i ∈ l
    · rw [if_pos hi, if_pos (List.mem_cons_of_mem _ hi)]
    · rw [if_neg hi]
      by_cases e : n = i
      · subst e; rw [if_pos rfl, if_pos List.mem_cons_self]
      · rw [if_neg e, if_neg (by intro q; rcases List.mem_cons.1 q with q | q; exact e q.symm; exact hi q)]
theorem settle_length : ∀ (A : List (Nat × Str)) (t : List Str), (Dk.settle A t).length = t.length
  | [], t => rfl
  | p :: l, t => by rw [Dk.settle, settle_length l, List.length_set]
theorem look_of_lt {n : Nat} : ∀ {A : List (Nat × Str)}, (∀ p ∈ A, n < p.1) → Dk.look n A = none
  | [], _ => rfl
  | p :: l, h => by
    unfold Dk.look
    rw [if_neg (by have := h p List.mem_cons_self; omega)]
    exact look_of_lt (fun q hq => h q (List.mem_cons_of_mem _ hq))
theorem settle_getD : ∀ (A : List (Nat × Str)) (t : List Str), A.Pairwise (fun p q => p.1 < q.1) → (∀ p ∈ A, p.1 < t.length) → ∀ i, (Dk.settle A t).getD i [] = (Dk.look i A).getD (t.getD i [])
  | [], t, _, _, i => rfl
  | p :: l, t, hr, h, i => by
    obtain ⟨h1, h2⟩ := List.pairwise_cons.1 hr
    rw [Dk.settle, settle_getD l _ h2 (fun q hq => by rw [List.length_set]; exact h q (List.mem_cons_of_mem _ hq)) i, getD_set_str t p.1 i p.2 (h p List.mem_cons_self)]
    rw [show Dk.look i (p :: l) = if p.1 = i then some p.2 else Dk.look i l from rfl]
    by_cases e : p.1 = i
    · rw [if_pos e, if_pos e]
      have : Dk.look i l = none := look_of_lt (fun q hq => by have := h1 q hq; omega)
      rw [this]; rfl
    · rw [if_neg e, if_neg e]
theorem mem_keys_look {n : Nat} : ∀ {A : List (Nat × Str)}, n ∈ A.map (·.1) → ∃ s, Dk.look n A = some s
  | p :: l, h => by
    unfold Dk.look
    split
    · exact ⟨_, rfl⟩
    · rename_i e
      rcases List.mem_cons.1 h with q | q
      · exact absurd q.symm e
      · exact mem_keys_look q
theorem settleBy_all {A : List (Nat × Str)} (hr : A.Pairwise (fun p q => p.1 < q.1)) {t : List Str} (ht : ∀ p ∈ A, p.1 < t.length) {done : List Nat} (h1 : ∀ n ∈ done, n ∈ A.map (·.1)) (h2 : ∀ n, n ∈ A.map (·.1) → n ∈ done) : settleBy A done t = Dk.settle A t := by
  apply List.ext_getElem
  · rw [settleBy_length, settle_length]
  · intro i hi1 hi2
    have e1 := settleBy_getD A done t (fun n hn => by
      obtain ⟨p, hp, rfl⟩ := List.mem_map.1 (h1 n hn)
      exact ht p hp) i
    have e2 := settle_getD A t hr ht i
    rw [List.getD_eq_getElem?_getD, List.getElem?_eq_getElem hi1] at e1
    rw [List.getD_eq_getElem?_getD, List.getElem?_eq_getElem hi2] at e2
    simp only [Option.getD_some] at e1 e2
    rw [e1, e2]
    by_cases q : i ∈ done
    · rw [if_pos q]
      obtain ⟨s, hs⟩ := mem_keys_look (h1 i q)
      rw [hs]; rfl
    · rw [if_neg q]
      cases hl : Dk.look i A with
      | none => rfl
      | some s => exact absurd (h2 i (List.mem_map.2 ⟨_, look_some hl, rfl⟩)) q
end Go.Proofs.Ytckopikeegegkaa
/- MAPRANGE: a map of sectors ranged over: which keys have come. -/
namespace Go.Proofs.Ytckopikeegegkaa
open Go.RowKit Go.MapKept Go.Maps
open Go.ChangeMaps (setBlock)
set_option linter.unusedVariables false

theorem inj_of_nodup_map {α β : Type} {f : α → β} : ∀ {l : List α}, (l.map f).Nodup → ∀ {x y : α}, x ∈ l → y ∈ l → f x = f y → x = y
  | a :: l, h, x, y, hx, hy, e => by
    simp only [List.map_cons, List.nodup_cons] at h
    rcases List.mem_cons.1 hx with rfl | hx1 <;> rcases List.mem_cons.1 hy with rfl | hy1
    · rfl
    · exact absurd (List.mem_map.2 ⟨y, hy1, e.symm⟩) h.1
    · exact absurd (List.mem_map.2 ⟨x, hx1, e⟩) h.1
    · exact inj_of_nodup_map h.2 hx1 hy1 e
theorem inj_of_perm {es : Array MapEntry} {clock : Nat} {A : List (Nat × Str)} (h : MapRep es clock A) (hr : A.Pairwise (fun p q => p.1 < q.1)) {x y : MapEntry} (hx : x ∈ es.toList) (hy : y ∈ es.toList) (e : x.key = y.key) : x = y := by
  have h1 : (es.toList.map (·.key)).Perm (A.map (fun p => Value.int .i64 (p.1 : Nat))) := by
    have := h.perm.map Prod.fst
    rw [List.map_map, List.map_map] at this
    exact this
  have h2 : (A.map (fun p => Value.int .i64 (p.1 : Nat))).Nodup := by
    rw [List.nodup_iff_pairwise_ne, List.pairwise_map]
    refine hr.imp (fun {a b} hab q => ?_)
    injection q with _ q
    omega
  exact inj_of_nodup_map (h1.nodup_iff.2 h2) hx hy e
/-- Block r ranges over the map b, that has A; the keys 'done' have come. -/
structure Ranging (w : World) (b r : Nat) (A : List (Nat × Str)) (done : List Nat) : Prop where
  ex : ∃ es clock since seen c0, w.heap[b]? = some (.map es clock) ∧ MapRep es clock A ∧ w.heap[r]? = some (.mapIter (some b) since seen c0) ∧ (∀ x ∈ es.toList, x.born < since) ∧
    (∀ x ∈ es.toList, seen.contains x.born = true ↔ ∃ n ∈ done, x.key = .int .i64 (n : Nat)) ∧ since ≤ c0 ∧ since ≤ clock
  nodup : done.Nodup
  keys : ∀ n ∈ done, n ∈ A.map (·.1)

theorem MapRep.inv {es : Array MapEntry} {clock : Nat} {A : List (Nat × Str)} (h : MapRep es clock A) {p : Nat × Str} (hp : p ∈ A) : ∃ e ∈ es.toList, e.key = .int .i64 p.1 ∧ e.val = arrB p.2 := by
  have := (h.perm.mem_iff (a := entOf p)).2 (List.mem_map.2 ⟨p, hp, rfl⟩)
  obtain ⟨e, he, hq⟩ := List.mem_map.1 this
  simp only [entOf, Prod.mk.injEq] at hq
  exact ⟨e, he, hq.1, hq.2⟩

theorem ranging_start {P : Program} {w : World} {b : Nat} {es : Array MapEntry} {clock : Nat} {A : List (Nat × Str)} (t k e : TypeId) (ht : P.underlying t = some (.map k e)) (hb : w.heap[b]? = some (.map es clock)) (hR : MapRep es clock A) :
    (Instr.range t (.map (some b))).run P w = .ok (.pointer (some ⟨w.heap.size, 0, none⟩)) (w.alloc (.mapIter (some b) clock #[] clock)) ∧ Ranging (w.alloc (.mapIter (some b) clock #[] clock)) b w.heap.size A [] := by
  have hlt : b < w.heap.size := (Array.getElem?_eq_some_iff.1 hb).1
  refine ⟨run_range_map w t k e b es clock ht hb, ⟨⟨es, clock, clock, #[], clock, ((MapKept.heap_alloc w _).2 b hlt).trans hb, hR, (MapKept.heap_alloc w _).1, hR.old, ?_, Nat.le_refl _, Nat.le_refl _⟩, List.nodup_nil, by simp⟩⟩
  intro x hx
  simp

/-- How many entries are still to come. -/
theorem ranging_next {P : Program} {w : World} {b r : Nat} {A : List (Nat × Str)} {done : List Nat} (h : Ranging w b r A done) (hr : A.Pairwise (fun p q => p.1 < q.1)) (ty : TypeId) :
    ((∀ n, n ∈ A.map (·.1) → n ∈ done) ∧ (Instr.next (.pointer (some ⟨r, 0, none⟩)) false ty).run P w = .ok (.tuple #[.bool false]) w) ∨
    ∃ n s w', (n, s) ∈ A ∧ n ∉ done ∧ (Instr.next (.pointer (some ⟨r, 0, none⟩)) false ty).run P w = .ok (.tuple #[.bool true, .int .i64 (n : Nat), arrB s]) w' ∧ Ranging w' b r A (done ++ [n]) ∧ w'.rangeLeft b r < w.rangeLeft b r ∧
      Keeps (fun k => k = r) w w' ∧ w'.heap.size = w.heap.size ∧ (Instr.entry (.pointer (some ⟨r, 0, none⟩))).run P w' = .ok (.tuple #[.int .i64 (n : Nat), arrB s]) w' := by
  obtain ⟨⟨es, clock, since, seen, c0, hb, hR, hi, hold, hseen, hsc, hsk⟩, hnd, hks⟩ := h
  have hne : b ≠ r := by intro e; subst e; rw [hb] at hi; cases hi
  rcases run_next_at (P := P) w ty r b since c0 seen es clock hi hb hold hsc with ⟨h0, hrun⟩ | ⟨e, he, w1, hal, hrun⟩
  · refine .inl ⟨fun n hn => ?_, hrun⟩
    obtain ⟨p, hp, rfl⟩ := List.mem_map.1 hn
    obtain ⟨x, hx, hk, _⟩ := hR.inv hp
    obtain ⟨n, hn, hk2⟩ := (hseen x hx).1 (all_seen es seen h0 x hx)
    rw [hk] at hk2
    injection hk2 with _ h3
    have : p.1 = n := by omega
    rw [this]; exact hn
  · obtain ⟨hem, hes⟩ := mem_left he
    obtain ⟨⟨n, s⟩, hp, hk, hv⟩ := hR.key hem
    dsimp only at hk hv
    have hr1 : w1.heap[r]? = some (.mapIter (some b) since seen c0) := by rcases hal with rfl | rfl <;> exact hi
    have hb1 : w1.heap[b]? = some (.map es clock) := by rcases hal with rfl | rfl <;> exact hb
    have hset := heap_set (o' := .mapIter (some b) since (seen.push e.born) clock) hr1
    have hb' : (setBlock w1 r (.mapIter (some b) since (seen.push e.born) clock)).heap[b]? = some (.map es clock) := (hset.2 b hne).trans hb1
    have hnd2 : n ∉ done := by
      intro q
      have := (hseen e hem).2 ⟨n, q, hk⟩
      rw [hes] at this; cases this
    refine .inr ⟨n, s, _, hp, hnd2, by rw [← hk, ← hv]; exact hrun, ⟨⟨es, clock, since, seen.push e.born, clock, hb', hR, hset.1, hold, ?_, hsk, hsk⟩, ?_, ?_⟩, ?_, ?_, ?_, ?_⟩
    · intro x hx
      rw [contains_push, Bool.or_eq_true, hseen x hx]
      constructor
      · rintro (⟨m, hm, hk2⟩ | hbn)
        · exact ⟨m, List.mem_append_left _ hm, hk2⟩
        · have : x = e := by
            have hb2 : x.born = e.born := by simpa using hbn
            exact inj_of_nodup_map hR.born hx hem hb2
          subst this
          exact ⟨n, by simp, hk⟩
      · rintro ⟨m, hm, hk2⟩
        rcases List.mem_append.1 hm with hm | hm
        · exact .inl ⟨m, hm, hk2⟩
        · right
          obtain rfl : m = n := by simpa using hm
          have : x = e := by
            obtain ⟨⟨n1, s1⟩, hp1, hk1, hv1⟩ := hR.key hx
            dsimp only at hk1 hv1
            rw [hk2] at hk1
            injection hk1 with _ h3
            obtain rfl : m = n1 := by omega
            have h4 := rises_inj hr hp hp1 rfl
            injection h4 with _ h5
            subst h5
            exact inj_of_perm hR hr hx hem (by rw [hk2, hk]) 
          subst this; simp
    · rw [List.nodup_append]
      refine ⟨hnd, by simp, ?_⟩
      intro a ha c hc
      obtain rfl : c = n := by simpa using hc
      intro q; subst q; exact hnd2 ha
    · intro m hm
      rcases List.mem_append.1 hm with hm | hm
      · exact hks m hm
      · obtain rfl : m = n := by simpa using hm
        exact List.mem_map.2 ⟨_, hp, rfl⟩
    · have l1 : w.rangeLeft b r = (leftOf es seen).size := by unfold World.rangeLeft; rw [hb, hi]
      have l2 : (setBlock w1 r (.mapIter (some b) since (seen.push e.born) clock)).rangeLeft b r = (leftOf es (seen.push e.born)).size := by
        unfold World.rangeLeft; rw [hb']; rw [show (setBlock w1 r (.mapIter (some b) since (seen.push e.born) clock)).heap[r]? = _ from hset.1]
      rw [l1, l2]; exact left_shrinks es seen e he
    · rcases hal with rfl | rfl <;> exact ⟨rfl, rfl, rfl, by simp [setBlock], fun i _ hi => hset.2 i hi⟩
    · rcases hal with rfl | rfl <;> simp [setBlock]
    · have := run_entry_at (P := P) (setBlock w1 r (.mapIter (some b) since (seen.push e.born) clock)) r b since seen es clock e hset.1 hb' hem hR.born
      rw [this, hk, hv]
end Go.Proofs.Ytckopikeegegkaa
/- ROWS64: a row of sectors, one of which is set. -/
namespace Go.Proofs.Ytckopikeegegkaa
theorem flat_length : ∀ {t : List Str}, (∀ s ∈ t, s.length = 64) → (t.flatMap encB).length = t.length * 64
  | [], _ => rfl
  | s :: t, h => by
    rw [List.flatMap_cons, List.length_append, encB_length, h s List.mem_cons_self, flat_length (fun x hx => h x (List.mem_cons_of_mem _ hx)), List.length_cons]
    omega
theorem rows_drop {s : Str} (hs : s.length = 64) (l : List Value) (k : Nat) : (encB s ++ l).drop (k + 64) = l.drop k := by
  have e : (encB s ++ l).drop 64 = l := by rw [List.drop_append_of_le_length (by rw [encB_length]; omega), List.drop_of_length_le (by rw [encB_length]; omega), List.nil_append]
  rw [Nat.add_comm k 64, ← List.drop_drop, e]
theorem rows_take {s : Str} (hs : s.length = 64) (l : List Value) (k : Nat) : (encB s ++ l).take (k + 64) = encB s ++ l.take k := by
  have := encB_length s
  rw [List.take_append, List.take_of_length_le (by omega)]
  congr 2; omega
theorem rows_set {s : Str} (hs : s.length = 64) (rest : List Value) : ∀ {t : List Str} (n : Nat), (∀ s ∈ t, s.length = 64) → n < t.length →
    (t.flatMap encB ++ rest).take (n * 64) ++ encB s ++ (t.flatMap encB ++ rest).drop (n * 64 + 64) = (t.set n s).flatMap encB ++ rest
  | [], n, _, h => absurd h (by simp)
  | x :: t, 0, ht, _ => by
    have hx := ht x List.mem_cons_self
    simp only [Nat.zero_mul, List.take_zero, List.nil_append, List.set_cons_zero, List.flatMap_cons, List.append_assoc]
    have := rows_drop hx (t.flatMap encB ++ rest) 0
    rw [List.drop_zero] at this
    rw [this]
  | x :: t, n + 1, ht, h => by
    have hx := ht x List.mem_cons_self
    have ih := rows_set hs rest (t := t) n (fun y hy => ht y (List.mem_cons_of_mem _ hy)) (by simpa using h)
    simp only [List.set_cons_succ, List.flatMap_cons, List.append_assoc]
    rw [show (n + 1) * 64 = n * 64 + 64 by omega, show n * 64 + 64 + 64 = (n * 64 + 64) + 64 by omega, rows_take hx, rows_drop hx]
    rw [← ih]
    simp only [List.append_assoc]
theorem rows_part {s : Str} (hs : s.length = 64) {cut : Nat} (hc : cut ≤ 64) (rest : List Value) : ∀ {t : List Str} (n : Nat), (∀ s ∈ t, s.length = 64) → n < t.length →
    (t.flatMap encB ++ rest).take (n * 64) ++ (encB s).take cut ++ (t.flatMap encB ++ rest).drop (n * 64 + cut) = (t.set n (s.take cut ++ (t.getD n []).drop cut)).flatMap encB ++ rest
  | [], n, _, h => absurd h (by simp)
  | x :: t, 0, ht, _ => by
    have hx := ht x List.mem_cons_self
    have e1 : (encB s).take cut = encB (s.take cut) := by unfold encB; rw [List.map_take]
    have e2 : (encB x ++ (t.flatMap encB ++ rest)).drop cut = encB (x.drop cut) ++ (t.flatMap encB ++ rest) := by
      rw [List.drop_append_of_le_length (by rw [encB_length]; omega)]
      congr 1
      unfold encB; rw [List.map_drop]
    simp only [Nat.zero_mul, Nat.zero_add, List.take_zero, List.nil_append, List.set_cons_zero, List.flatMap_cons, List.append_assoc, List.getD_cons_zero]
    rw [e1, e2, encB_append, List.append_assoc]
  | x :: t, n + 1, ht, h => by
    have hx := ht x List.mem_cons_self
    have ih := rows_part hs hc rest (t := t) n (fun y hy => ht y (List.mem_cons_of_mem _ hy)) (by simpa using h)
    have e : ∀ (l : List Value) (k j : Nat), (encB x ++ l).drop (k + 64 + j) = l.drop (k + j) := fun l k j => by
      rw [show k + 64 + j = (k + j) + 64 by omega, rows_drop hx]
    simp only [List.set_cons_succ, List.flatMap_cons, List.append_assoc, List.getD_cons_succ]
    rw [show (n + 1) * 64 = n * 64 + 64 by omega, rows_take hx, e]
    rw [← ih]
    simp only [List.append_assoc]
end Go.Proofs.Ytckopikeegegkaa
/- DISK 5: the contract of Flush. -/
namespace Go.Proofs.Ytckopikeegegkaa
open Go.RowKit Go.MapKept Go.Maps Go.Shelf
open Go.ChangeMaps (setBlock)
set_option linter.unusedSimpArgs false
set_option linter.unusedVariables false
variable {p q m : Nat} {D : Dk}

set_option maxHeartbeats 1000000 in
theorem flush_nil (w : World) : Calls Try.prog 31 #[.pointer none] w fun e w' => e = .returned (.int .i64 2) ∧ w = w' := by
  go_enter Try.func31, Try.ntmps31
  go_wp2
  go_ret
  exact ⟨rfl, rfl⟩
set_option maxHeartbeats 1000000 in
theorem flush_dead (w : World) (h : DiskAt w p q m D) (h0 : D.left = 0) :
    Calls Try.prog 31 #[.pointer (some ⟨p, 0, none⟩)] w fun e w' => e = .returned (.int .i64 42) ∧ w = w' := by
  have hb := burn_dead w h h0
  go_enter Try.func31, Try.ntmps31
  go_wp2_with (go_at_call 62; refine hb.mono ?_; rintro e w' ⟨rfl, rfl⟩)
  go_ret
  exact ⟨rfl, rfl⟩
theorem settle_64 : ∀ {A : List (Nat × Str)} {t : List Str}, (∀ p ∈ A, p.2.length = 64) → (∀ s ∈ t, s.length = 64) → ∀ s ∈ Dk.settle A t, s.length = 64
  | [], t, _, ht, s, hs => ht s hs
  | p :: l, t, hA, ht, s, hs => settle_64 (A := l) (fun q hq => hA q (List.mem_cons_of_mem _ hq)) (fun x hx => by
      rcases List.mem_or_eq_of_mem_set hx with hx | rfl
      · exact ht x hx
      · exact hA p List.mem_cons_self) s hs
theorem settleBy_64 {A : List (Nat × Str)} (hA : ∀ p ∈ A, p.2.length = 64) : ∀ {done : List Nat} {t : List Str}, (∀ n ∈ done, n ∈ A.map (·.1)) → (∀ s ∈ t, s.length = 64) → ∀ s ∈ settleBy A done t, s.length = 64
  | [], t, _, ht, s, hs => ht s hs
  | n :: l, t, hd, ht, s, hs => settleBy_64 hA (done := l) (t := t.set n ((Dk.look n A).getD [])) (fun k hk => hd k (List.mem_cons_of_mem _ hk)) (fun x hx => by
      rcases List.mem_or_eq_of_mem_set hx with hx | rfl
      · exact ht x hx
      · obtain ⟨s, hs⟩ := mem_keys_look (hd n List.mem_cons_self)
        rw [hs]; exact hA _ (look_some hs)) s hs
theorem flush_wf {D : Dk} (h : D.Wf) : Dk.Wf ⟨Dk.settle D.aside D.there, [], Dk.burnt D.left⟩ :=
  ⟨settle_64 (fun p hp => (h.aside p hp).2) h.there, by simp, by simp, burnt_bounds h.left.1 h.left.2, by rw [settle_length]; exact h.pos, by rw [settle_length]; exact h.small⟩
theorem Keeps.setBlock {S : Nat → Prop} {w w' : World} (h : Keeps S w w') {b : Nat} (hb : b < w.heap.size → S b) (o : Obj) : Keeps S w (setBlock w' b o) :=
  ⟨h.os, h.tape, h.output, by simpa [Go.ChangeMaps.setBlock] using h.size, fun k hk hs => by
    have e : k ≠ b := fun e => hs (e ▸ hb (e ▸ hk))
    rw [show (Go.ChangeMaps.setBlock w' b o).heap[k]? = w'.heap[k]? by simp [Go.ChangeMaps.setBlock, Ne.symm e]]
    exact h.block k hk hs⟩
theorem setBlock_ne (w : World) (b k : Nat) (o : Obj) (h : k ≠ b) : (setBlock w b o).heap[k]? = w.heap[k]? := by simp [Go.ChangeMaps.setBlock, Ne.symm h]
theorem Ranging.same {w w' : World} {b r : Nat} {A : List (Nat × Str)} {done : List Nat} (h : Ranging w b r A done) (hb : w'.heap[b]? = w.heap[b]?) (hr : w'.heap[r]? = w.heap[r]?) : Ranging w' b r A done := by
  obtain ⟨⟨es, clock, since, seen, c0, h1, h2, h3, h4⟩, h5, h6⟩ := h
  exact ⟨⟨es, clock, since, seen, c0, hb.trans h1, h2, hr.trans h3, h4⟩, h5, h6⟩
theorem rangeLeft_same {w w' : World} {b r : Nat} (hb : w'.heap[b]? = w.heap[b]?) (hr : w'.heap[r]? = w.heap[r]?) : w'.rangeLeft b r = w.rangeLeft b r := by unfold World.rangeLeft; rw [hb, hr]
theorem Ranging.lt {w : World} {b r : Nat} {A : List (Nat × Str)} {done : List Nat} (h : Ranging w b r A done) : b < w.heap.size ∧ r < w.heap.size := by
  obtain ⟨⟨es, clock, since, seen, c0, h1, h2, h3, h4⟩, h5, h6⟩ := h
  exact ⟨(Array.getElem?_eq_some_iff.1 h1).1, (Array.getElem?_eq_some_iff.1 h3).1⟩
theorem mapRep_nil (clock : Nat) : MapRep #[] clock [] := ⟨by simp, by simp, by simp⟩
set_option maxHeartbeats 2000000 in
theorem flush_live (w : World) (h : DiskAt w p q m D) (h0 : (D.left == 0) = false) :
    Calls Try.prog 31 #[.pointer (some ⟨p, 0, none⟩)] w fun e w' => e = .returned (.int .i64 0) ∧ DiskAt w' p q m ⟨Dk.settle D.aside D.there, [], Dk.burnt D.left⟩ ∧ Keeps (dset p q m) w w' := by
  have hb := burn_live w h h0
  have lp := h.lt_p; have lq := h.lt_q; have lm := h.lt_m
  have npq := h.ne_pq; have npm := h.ne_pm; have nqm := h.ne_qm
  have hd1 := h.setLeft (Dk.burnt D.left) (burnt_bounds h.wf.left.1 h.wf.left.2).1 (burnt_bounds h.wf.left.1 h.wf.left.2).2
  obtain ⟨cap, hcap, hs⟩ := hd1.strct
  obtain ⟨rest, hrow⟩ := hd1.row
  obtain ⟨es, clock, hm, hR⟩ := hd1.kept
  dsimp only at hs hrow hR
  have kw : Keeps (dset p q m) w (w.setCell ⟨p, 2, none⟩ (.int .i64 (Dk.burnt D.left))) := (Keeps.refl _ _).setCell (a := ⟨p, 2, none⟩) (fun _ => .inl rfl) _
  have wf := h.wf
  have zw : (w.setCell ⟨p, 2, none⟩ (.int .i64 (Dk.burnt D.left))).heap.size = w.heap.size := by simp
  obtain ⟨hrun0, hrg0⟩ := ranging_start (P := Try.prog) 86 3 96 Try.underlying86 hm hR
  have c1 : (w.setCell ⟨p, 2, none⟩ (.int .i64 (Dk.burnt D.left))).cell? ⟨p, 1, none⟩ = some (.map (some m)) := by simp [World.cell?, hs]
  clear hd1 h
  go_enter Try.func31, Try.ntmps31
  go_wp2_with (go_at_call 62; refine hb.mono ?_; rintro e w' ⟨rfl, rfl⟩)
  clear hrun0 c1 hb
  rw [zw] at hrg0
  have f1 : ((w.setCell ⟨p, 2, none⟩ (.int .i64 (Dk.burnt D.left))).alloc (.mapIter (some m) clock #[] clock)).heap[p]? = _ := (heap_alloc_ne _ _ _ (by rw [zw]; omega)).trans hs
  have f2 : ((w.setCell ⟨p, 2, none⟩ (.int .i64 (Dk.burnt D.left))).alloc (.mapIter (some m) clock #[] clock)).heap[q]? = _ := (heap_alloc_ne _ _ _ (by rw [zw]; omega)).trans hrow
  have k2 : Keeps (dset p q m) w ((w.setCell ⟨p, 2, none⟩ (.int .i64 (Dk.burnt D.left))).alloc (.mapIter (some m) clock #[] clock)) := kw.alloc _
  have z2 : ((w.setCell ⟨p, 2, none⟩ (.int .i64 (Dk.burnt D.left))).alloc (.mapIter (some m) clock #[] clock)).heap.size = w.heap.size + 1 := by simp
  generalize ((w.setCell ⟨p, 2, none⟩ (.int .i64 (Dk.burnt D.left))).alloc (.mapIter (some m) clock #[] clock)) = W2 at *
  clear hs hrow hm kw zw
  generalize hnl : Dk.burnt D.left = nl at *
  go_loopw [4] (fun _ wr => ∃ done, Ranging wr m w.heap.size D.aside done ∧ wr.heap[p]? = some (.cells #[.slice (some ⟨q, 0, none⟩) D.there.length cap, .map (some m), .int .i64 nl] 88) ∧
      wr.heap[q]? = some (.cells ((settleBy D.aside done D.there).flatMap encB ++ rest).toArray 96) ∧ Keeps (dset p q m) w wr ∧ w.heap.size < wr.heap.size)
    (fun _ wr => wr.rangeLeft m w.heap.size)
  case atStart => exact ⟨[], hrg0, f1, f2, k2, by omega⟩
  case round =>
    obtain ⟨done, hrg, g1, g2, kr, zr⟩ := hrel
    rcases ranging_next (P := Try.prog) hrg wf.rises 0 with ⟨hall, hrun⟩ | ⟨n, s, w2, hmem, hnd, hrun, hrg2, hlt, hk2, hsz, hen⟩
    · obtain ⟨⟨es2, clock2, since, seen, c0, hm2, hR2, _⟩, _, hkeys⟩ := hrg
      have hcl := run_clearMap (P := Try.prog) 86 3 96 0 m es2 clock2 Try.underlying86 hm2
      have c1 : wr.cell? ⟨p, 1, none⟩ = some (.map (some m)) := by simp [World.cell?, g1]
      have hall2 := settleBy_all wf.rises (t := D.there) (fun x hx => (wf.aside x hx).1) hkeys hall
      go_wp2
      go_ret
      refine ⟨rfl, ⟨⟨cap, by rw [settle_length]; exact hcap, ?_⟩, ⟨rest, ?_⟩, ⟨#[], clock2, (heap_set hm2).1, mapRep_nil _⟩, flush_wf wf⟩, kr.setBlock (fun _ => .inr (.inr rfl)) _⟩
      · rw [setBlock_ne _ _ _ _ npm, g1, settle_length, hnl]
      · rw [setBlock_ne _ _ _ _ nqm, g2, hall2]
    · have sl : s.length = 64 := (wf.aside _ hmem).2
      have hls := look_mem wf.rises hmem
      have hnl2 : n < D.there.length := (wf.aside _ hmem).1
      have tl := settleBy_length D.aside done D.there
      have t64 := settleBy_64 (fun x hx => (wf.aside x hx).2) (t := D.there) hrg.keys wf.there
      have e1 := rows_set sl rest n t64 (by omega)
      have e2 := settleBy_snoc D.aside done n D.there
      rw [hls] at e2
      have rlt := hrg2.lt
      have k2p : p ≠ w.heap.size := by omega
      have k2q : q ≠ w.heap.size := by omega
      have i1 := (hk2.block p (by omega) k2p).trans g1
      have i2 := (hk2.block q (by omega) k2q).trans g2
      have E1 := Lib.hid e1
      have E2 := Lib.hid e2
      clear e1 e2 hls hrg
      go_wp2_with (first | (with_reducible refine wpl_alloc 96 Z64 rfl zero_sector rfl ?_) | ((with_reducible apply wpl_store_all 96 (n := 64) (vs := encB s) (hs := Try.sizeOf96) (L := Z64) (t := 96)); rfl; rfl; rfl; simp (disch := (first | (simp only [World.size_alloc, World.size_setCell, World.size_drew, size_setRow, heap_drew, heap_drewN]; done) | ((try simp only [World.size_alloc, World.size_setCell, World.size_drew, size_setRow, heap_drew, heap_drewN]); omega))) only [heap_drew, heap_drewN, heap_alloc_ne, heap_alloc_eq, heap_setCell_ne, heap_setRow_ne]; exact (encB_length s).trans sl; exact encB_one _; exact Z64_length; rfl; simp (disch := (first | (simp only [World.size_alloc, World.size_setCell, World.size_drew, size_setRow, heap_drew, heap_drewN]; done) | ((try simp only [World.size_alloc, World.size_setCell, World.size_drew, size_setRow, heap_drew, heap_drewN]); omega))) only [setRow_alloc_top, setRow_alloc_under]))
      have j1 : (w2.alloc (.cells (encB s).toArray 96)).heap[p]? = _ := (heap_alloc_ne _ _ _ (by omega)).trans i1
      have j2 : (w2.alloc (.cells (encB s).toArray 96)).heap[q]? = _ := (heap_alloc_ne _ _ _ (by omega)).trans i2
      have j3 : (w2.alloc (.cells (encB s).toArray 96)).heap[wr.heap.size]? = some (.cells (encB s).toArray 96) := by rw [← hsz]; simp (disch := (first | (simp only [World.size_alloc, World.size_setCell, World.size_drew, size_setRow, heap_drew, heap_drewN]; done) | ((try simp only [World.size_alloc, World.size_setCell, World.size_drew, size_setRow, heap_drew, heap_drewN]); omega))) only [heap_drew, heap_drewN, heap_alloc_ne, heap_alloc_eq, heap_setCell_ne, heap_setRow_ne]
      have hrg3 : Ranging (w2.alloc (.cells (encB s).toArray 96)) m w.heap.size D.aside (done ++ [n]) := hrg2.same (heap_alloc_ne _ _ _ (by omega)) (heap_alloc_ne _ _ _ (by omega))
      have hl3 : (w2.alloc (.cells (encB s).toArray 96)).rangeLeft m w.heap.size = w2.rangeLeft m w.heap.size := rangeLeft_same (heap_alloc_ne _ _ _ (by omega)) (heap_alloc_ne _ _ _ (by omega))
      have k3 : Keeps (dset p q m) w (w2.alloc (.cells (encB s).toArray 96)) := (kr.trans_new hk2 (fun k hk q => by omega)).alloc _
      have z3 : (w2.alloc (.cells (encB s).toArray 96)).heap.size = wr.heap.size + 1 := by simp [hsz]
      rw [← hl3] at hlt
      generalize (w2.alloc (.cells (encB s).toArray 96)) = W3 at *
      clear i1 i2 hrg2 hrun hen hk2 hl3 hsz
      have c0 : W3.cell? ⟨p, 0, none⟩ = some (.slice (some ⟨q, 0, none⟩) D.there.length cap) := by simp [World.cell?, j1]
      refine wp_region_text [(0, true), (1, true), (2, true), (3, true), (4, true), (5, true), (6, true), (7, false)] (fun W' => W'.cell? ⟨p, 0, none⟩ = some (.slice (some ⟨q, 0, none⟩) D.there.length cap) ∧ W'.heap[wr.heap.size]? = some (.cells (encB s).toArray 96)) (by kernel_rfl) (by kernel_rfl) (fun d _ _ _ _ h => by cases d <;> exact h) ⟨by simpa using c0, j3⟩ ?_
      iterate 3 (apply wpText_take; rfl; rfl; (intro W hS; (try dsimp only at hS); go_simp; exact rfl))
      try simp only [Act.put, List.setIfInBounds_toArray, List.set_cons_succ, List.set_cons_zero]
      apply wpText_take; rfl; rfl; (intro W' hS; have hS1 := hS.1; go_simp; exact rfl)
      (apply wpText_take; rfl; rfl; (intro W hS; (try dsimp only at hS); go_simp; exact rfl))
      try simp only [Act.put, List.setIfInBounds_toArray, List.set_cons_succ, List.set_cons_zero]
      apply wpText_take (v := .agg (List.toArray (encB s))); rfl; rfl; intro W' hS; refine exec_run (s := Instr.loadAt 96 (.pointer (some ⟨wr.heap.size, 0, none⟩))) rfl (run_loadAll 96 64 (wr.heap.size) (encB s) 96 (0, 0) Try.isAgg96 Try.sizeOf96 hS.2 ((encB_length s).trans sl))
      try simp only [Act.put, List.setIfInBounds_toArray, List.set_cons_succ, List.set_cons_zero]
      apply wpText_take (v := .pointer (some ⟨q, n * 64, none⟩)); rfl; rfl; intro W' hS; refine exec_run (s := Instr.indexAt 85 (.slice (some ⟨q, 0, none⟩) D.there.length cap) (.int .i64 (n : Nat))) rfl (run_indexRows 85 96 64 q D.there.length cap n Try.underlying85 Try.sizeOf96 hnl2)
      try simp only [Act.put, List.setIfInBounds_toArray, List.set_cons_succ, List.set_cons_zero]
      apply wpText_goL; rfl; intro K hK
      apply wpl_store 96 (n := 64) (vs := encB s) (hs := Try.sizeOf96) (L := (settleBy D.aside done D.there).flatMap encB ++ rest) (t := 96); rfl; rfl; rfl; exact j2; exact (encB_length s).trans sl; exact encB_one s; (rw [List.length_append, flat_length t64, tl]; omega); rfl
      have es : (encB s).length = 64 := (encB_length s).trans sl
      rw [es, E1.out]
      have b1 : wr.heap.size ≠ q := by have := kr.size; omega
      refine wpl_end (hK _ _ ⟨by rw [cell_setRow_other _ _ _ _ (by simp only []; exact npq)]; simpa using c0, (setRow_other _ _ _ _ b1).trans j3⟩ ?_)
      clear hK K
      try simp only [Act.put, List.setIfInBounds_toArray, List.set_cons_succ, List.set_cons_zero]
      apply wpText_done
      go_wp2
      refine ⟨⟨done ++ [n], hrg3.same (setRow_other _ _ _ _ (Ne.symm nqm)) (setRow_other _ _ _ _ (Ne.symm k2q)), (setRow_other _ _ _ _ npq).trans j1, ?_, k3.drew.setRow (fun _ => .inr (.inl rfl)) _, ?_⟩, ?_⟩
      · rw [E2.out]; exact setRow_eq _ _ _ _ _ _ j2
      · rw [size_setRow]; simp; omega
      · rw [rangeLeft_same (w := W3.drew) (setRow_other _ _ _ _ (Ne.symm nqm)) (setRow_other _ _ _ _ (Ne.symm k2q))]; exact hlt
theorem flush_calls (w : World) (h : DiskAt w p q m D) :
    Calls Try.prog 31 #[.pointer (some ⟨p, 0, none⟩)] w fun e w' => e = .returned (.int .i64 D.flush.1) ∧ DiskAt w' p q m D.flush.2 ∧ Keeps (dset p q m) w w' := by
  by_cases h0 : D.left = 0
  · have e : D.flush = (42, D) := by simp [Dk.flush, h0]
    rw [e]
    refine (flush_dead w h h0).mono ?_
    rintro e w' ⟨rfl, rfl⟩
    exact ⟨rfl, h, Keeps.refl _ _⟩
  · have e : D.flush = (0, ⟨Dk.settle D.aside D.there, [], Dk.burnt D.left⟩) := by simp [Dk.flush, h0]
    rw [e]
    exact flush_live w h (by simpa using h0)
end Go.Proofs.Ytckopikeegegkaa
/- MAPKEYS: maps.Keys of a map of sectors, as an iterator: each key comes once, in some order. -/
namespace Go.Proofs.Ytckopikeegegkaa
open Go.RowKit Go.MapKept Go.Maps Go.Shelf
set_option linter.unusedSimpArgs false
set_option linter.unusedVariables false

theorem Ranging.of_walks {w w' : World} {b r : Nat} {A : List (Nat × Str)} {done : List Nat} (h : Ranging w b r A done) (hk : KeepsWalks w w') : Ranging w' b r A done ∧ w'.rangeLeft b r = w.rangeLeft b r := by
  obtain ⟨⟨es, clock, since, seen, c0, h1, h2, h3, h4⟩, h5, h6⟩ := h
  have e1 := hk.same b _ h1 rfl
  have e2 := hk.same r _ h3 rfl
  exact ⟨⟨⟨es, clock, since, seen, c0, e1, h2, e2, h4⟩, h5, h6⟩, by unfold World.rangeLeft; rw [h1, h3, e1, e2]⟩
theorem perm_of_covers {l : List Nat} : ∀ {k : List Nat}, k.Nodup → l.Nodup → (∀ n ∈ k, n ∈ l) → (∀ n ∈ l, n ∈ k) → k.Perm l := fun hk hl h1 h2 =>
  (List.perm_ext_iff_of_nodup hk hl).2 (fun n => ⟨h1 n, h2 n⟩)
theorem nodup_le {α : Type} [DecidableEq α] : ∀ {k l : List α}, k.Nodup → (∀ x ∈ k, x ∈ l) → k.length ≤ l.length
  | [], _, _, _ => Nat.zero_le _
  | a :: k, l, h, hs => by
    obtain ⟨h1, h2⟩ := List.nodup_cons.1 h
    have ha := hs a List.mem_cons_self
    have := nodup_le (k := k) (l := l.erase a) h2 (fun x hx => (List.mem_erase_of_ne (fun e => by subst e; exact h1 hx)).2 (hs x (List.mem_cons_of_mem _ hx)))
    rw [List.length_erase_of_mem ha] at this
    have hp : 0 < l.length := List.length_pos_of_mem ha
    rw [List.length_cons]; omega
theorem keys_nodup {A : List (Nat × Str)} (hr : A.Pairwise (fun p q => p.1 < q.1)) : (A.map (·.1)).Nodup := by
  rw [List.nodup_iff_pairwise_ne, List.pairwise_map]
  exact hr.imp (fun {a b} hab q => by omega)
theorem grown_keeps {w w' : World} {row : Option Nat} (h : w.grownBy w' row) : Keeps (fun k => row = some k) w w' := ⟨h.os, h.tape, h.output, h.size, fun k hk hs => h.block k hk (fun e => hs e.symm)⟩

set_option maxRecDepth 100000 in
set_option maxHeartbeats 1000000 in
theorem keys1_in (F : Fence) (r : Nat) (hf : F.fn 73) (hro : F.round = none) (hn : 1 ≤ r) (l nb m : Nat) (A : List (Nat × Str)) (hA : A.Pairwise (fun p q => p.1 < q.1)) (J : List Int → World → Prop)
    (hY : ∀ pre x W, J pre W → pre.length < A.length → YieldAt F (r - 1) Try.prog l #[.int .i64 x] W fun e W' => e = .returned (.bool true) ∧ J (pre ++ [x]) W' ∧ KeepsWalks W W')
    (W : World) (hJ : AbidesFrom W.heap.size J) (hB : W.cell? ⟨nb, 0, none⟩ = some (.map (some m))) (es : Array MapEntry) (clock : Nat) (hm : W.heap[m]? = some (.map es clock)) (hR : MapRep es clock A) (h0 : J [] W) :
    CallsIn F r Try.prog 73 #[.func (.yield l) #[] #[], .pointer (some ⟨nb, 0, none⟩)] W fun e W' => (∃ v, e = .returned v) ∧
      ∃ ss : List Int, (∃ k : List Nat, k.Perm (A.map (·.1)) ∧ ss = k.map Int.ofNat) ∧ J ss W' := by
  obtain ⟨hrun0, hrg0⟩ := ranging_start (P := Try.prog) 86 3 96 Try.underlying86 hm hR
  refine callsIn_of_wp Try.func73 rfl hf ?_ hro
  simp only [Try.ntmps73, List.size_toArray, List.length_cons, List.length_nil, Nat.reduceAdd, Nat.reduceSub, Array.replicate_succ, Array.replicate_zero, List.push_toArray, List.append_toArray, List.nil_append, List.cons_append]
  gi_wp2
  gi_loopw [3] (fun _ wr => ∃ done, Ranging wr m W.heap.size A done ∧ J (done.map Int.ofNat) wr) (fun _ wr => wr.rangeLeft m W.heap.size)
  case atStart =>
    exact ⟨[], hrg0, hJ [] W _ none h0 (World.grownBy_alloc W _ none) (fun r e => by cases e)⟩
  case round =>
    obtain ⟨done, hrg, hJs⟩ := hrel
    rcases ranging_next (P := Try.prog) hrg hA 0 with ⟨hall, hrun⟩ | ⟨n, s, w2, hmem, hnd, hrun, hrg2, hlt, hk2, hsz, hen⟩
    · gi_wp2
      go_end0
      exact ⟨⟨_, rfl⟩, _, ⟨done, perm_of_covers hrg.nodup (keys_nodup hA) hrg.keys hall, rfl⟩, hJs⟩
    · have hJ2 : J (done.map Int.ofNat) w2 := hJ _ wr w2 (some W.heap.size) hJs ⟨hk2.os, hk2.tape, hk2.output, hk2.size, fun i hi hne => hk2.block i hi (fun e => hne (by rw [e]))⟩ (fun r e => by
        cases e
        obtain ⟨⟨es', c', si, se, c0, h1, h2, h3, h4⟩, _, _⟩ := hrg
        exact ⟨Nat.le_refl _, _, h3, rfl⟩)
      have hlen : (done.map Int.ofNat).length < A.length := by
        rw [List.length_map]
        have h1 : (n :: done).length ≤ (A.map (·.1)).length := by
          refine nodup_le (List.nodup_cons.2 ⟨hnd, hrg.nodup⟩) (fun x hx => ?_)
          rcases List.mem_cons.1 hx with rfl | hx
          · exact List.mem_map.2 ⟨_, hmem, rfl⟩
          · exact hrg.keys x hx
        simp only [List.length_cons, List.length_map] at h1
        omega
      obtain ⟨fn, tmps, assign, body, hy, hR2⟩ := hY _ (n : Int) w2 hJ2 hlen
      gi_wp2
      refine hR2.mono ?_
      rintro e W3 ⟨rfl, hJ3, hk3⟩
      gi_wp2
      obtain ⟨g1, g2⟩ := hrg2.of_walks hk3
      go_roundw
      case rel => exact ⟨done ++ [n], g1, by rw [List.map_append]; exact hJ3⟩
      case measure => rw [g2]; exact hlt
theorem keys_gives (F : Fence) (r : Nat) (hf : F.fn 73) (hro : F.round = none) (hn : 1 ≤ r) (nb m : Nat) (A : List (Nat × Str)) (hA : A.Pairwise (fun p q => p.1 < q.1)) (w : World) (hnb : nb < w.heap.size)
    (hB : w.cell? ⟨nb, 0, none⟩ = some (.map (some m))) (es : Array MapEntry) (clock : Nat) (hm : w.heap[m]? = some (.map es clock)) (hR : MapRep es clock A) :
    SeqGives F r Try.prog 73 #[.pointer (some ⟨nb, 0, none⟩)] (Value.int .i64) (fun ss => ∃ k : List Nat, k.Perm (A.map (·.1)) ∧ ss = k.map Int.ofNat) A.length w := fun l J W hW hJ hY h0 =>
  keys1_in F r hf hro hn l nb m A hA J hY W hJ ((hW.cell (p := ⟨nb, 0, none⟩) hnb).trans hB) es clock ((hW.block m (Array.getElem?_eq_some_iff.1 hm).1).trans hm) hR h0
end Go.Proofs.Ytckopikeegegkaa
/-
  DERIVED: THE SHELF's CONTRACTS AT THIS DUMP, IN PLAIN WORDS (tools/lay-plain.mjs out of 'TryShelf.lean', which tools/lay-shelf.mjs wrote): THE SAME DECLARATIONS UNDER THE SAME NAMES: 'import', 'namespace', 'open', 'def', 'theorem' AND NOTHING ELSE: no command of the shelf's: FOR A HAND-IN. Each laying: the table of numbers ('.._ren') and one theorem, a field a fact of the dump's own or the kernel's comparison; each contract: ONE APPLICATION.
-/
namespace Go.Proofs
open Go.Shelf
def Try.lays189_ren : Go.Shelf.Ren := ⟨fun | 189 => 72 | 125 => 77 | 257 => 76 | 128 => 87 | 129 => 88 | 294 => 78 | 295 => 79 | 296 => 80 | 297 => 81 | 298 => 82 | 299 => 83 | 216 => 84 | 300 => 85 | 301 => 86 | 328 => 89 | 329 => 90 | 330 => 91 | 331 => 92 | 332 => 93 | 215 => 94 | 343 => 95 | n => n, fun | 28 => 47 | 3 => 3 | 46 => 51 | 0 => 0 | 51 => 130 | 53 => 91 | 4 => 4 | 183 => 123 | 182 => 122 | 131 => 127 | 5 => 5 | 9 => 9 | 218 => 132 | 222 => 136 | 228 => 138 | 229 => 139 | n => n, fun | n => n⟩
theorem Try.lays189 : Go.Proofs.Lays.n189 Try.prog Try.lays189_ren := {
  mixed := by kernel_rfl
  f125 := Try.func77.trans (congrArg some (by kernel_rfl))
  f128 := Try.func87.trans (congrArg some (by kernel_rfl))
  f129 := Try.func88.trans (congrArg some (by kernel_rfl))
  f189 := Try.func72.trans (congrArg some (by kernel_rfl))
  f215 := Try.func94.trans (congrArg some (by kernel_rfl))
  f216 := Try.func84.trans (congrArg some (by kernel_rfl))
  f257 := Try.func76.trans (congrArg some (by kernel_rfl))
  f294 := Try.func78.trans (congrArg some (by kernel_rfl))
  f295 := Try.func79.trans (congrArg some (by kernel_rfl))
  f296 := Try.func80.trans (congrArg some (by kernel_rfl))
  f297 := Try.func81.trans (congrArg some (by kernel_rfl))
  f298 := Try.func82.trans (congrArg some (by kernel_rfl))
  f299 := Try.func83.trans (congrArg some (by kernel_rfl))
  f300 := Try.func85.trans (congrArg some (by kernel_rfl))
  f301 := Try.func86.trans (congrArg some (by kernel_rfl))
  f328 := Try.func89.trans (congrArg some (by kernel_rfl))
  f329 := Try.func90.trans (congrArg some (by kernel_rfl))
  f330 := Try.func91.trans (congrArg some (by kernel_rfl))
  f331 := Try.func92.trans (congrArg some (by kernel_rfl))
  f332 := Try.func93.trans (congrArg some (by kernel_rfl))
  f343 := Try.func95.trans (congrArg some (by kernel_rfl))
  t0 := Try.underlying0
  a0 := Try.isAgg0
  z0 := Try.sizeOf0
  v0 := Try.zeroValue0
  t3 := Try.underlying3
  a3 := Try.isAgg3
  z3 := Try.sizeOf3
  v3 := Try.zeroValue3
  t4 := Try.underlying4
  a4 := Try.isAgg4
  z4 := Try.sizeOf4
  v4 := Try.zeroValue4
  t5 := Try.underlying5
  a5 := Try.isAgg5
  z5 := Try.sizeOf5
  v5 := Try.zeroValue5
  t9 := Try.underlying9
  a9 := Try.isAgg9
  z9 := Try.sizeOf9
  v9 := Try.zeroValue9
  t28 := Try.underlying47
  a28 := Try.isAgg47
  z28 := Try.sizeOf47
  v28 := Try.zeroValue47
  t46 := Try.underlying51
  a46 := Try.isAgg51
  z46 := Try.sizeOf51
  v46 := Try.zeroValue51
  t51 := Try.underlying130
  a51 := Try.isAgg130
  z51 := Try.sizeOf130
  v51 := Try.zeroValue130
  t53 := Try.underlying91
  a53 := Try.isAgg91
  z53 := Try.sizeOf91
  v53 := Try.zeroValue91
  t131 := Try.underlying127
  a131 := Try.isAgg127
  z131 := Try.sizeOf127
  v131 := Try.zeroValue127
  t182 := Try.underlying122
  a182 := Try.isAgg122
  z182 := Try.sizeOf122
  v182 := Try.zeroValue122
  t183 := Try.underlying123
  a183 := Try.isAgg123
  z183 := Try.sizeOf123
  v183 := Try.zeroValue123
  t218 := Try.underlying132
  a218 := Try.isAgg132
  z218 := Try.sizeOf132
  v218 := Try.zeroValue132
  t222 := Try.underlying136
  a222 := Try.isAgg136
  z222 := Try.sizeOf136
  v222 := Try.zeroValue136
  t228 := Try.underlying138
  a228 := Try.isAgg138
  z228 := Try.sizeOf138
  v228 := Try.zeroValue138
  t229 := Try.underlying139
  a229 := Try.isAgg139
  z229 := Try.sizeOf139
  v229 := Try.zeroValue139 }
open Go.Sort Go.RowKit in
theorem Try.slices_Sort_int (blk off cap : Nat) (zs : List Int) (w : World) (hH : Holds (Value.int .i64) w blk off zs.toArray) (hblk : blk < w.heap.size) (hsz : zs.length < 4611686018427387904) :
    Calls Try.prog 72 #[.slice (some ⟨blk, off, none⟩) zs.length cap] w fun e w' =>
      e = .returned (.tuple #[]) ∧ ∃ n os, w' = grow (putRow (Value.int .i64) (Sort.ahead w n) blk off (zs.mergeSort fun x y => decide (x ≤ y)).toArray) os := Any.slices_Sort_int Try.lays189 blk off cap zs w hH hblk hsz

open Go.RowKit Go.Sort in
/-- .. and plain. (LAID: no walk: one application.) -/
theorem Try.slices_Sort_int_none (p : Option Addr) (cap : Nat) (w : World) :
    Calls Try.prog 72 #[.slice p 0 cap] w fun e w' => e = .returned (.tuple #[]) ∧ w' = w := Any.slices_Sort_int_none Try.lays189 p cap w

end Go.Proofs
/-
  DERIVED: THE SHELF's CONTRACTS AT THIS DUMP, IN PLAIN WORDS (tools/lay-plain.mjs out of 'TryIter.lean', which tools/lay-shelf.mjs wrote): THE SAME DECLARATIONS UNDER THE SAME NAMES: 'import', 'namespace', 'open', 'def', 'theorem' AND NOTHING ELSE: no command of the shelf's: FOR A HAND-IN. Each laying: the table of numbers ('.._ren') and one theorem, a field a fact of the dump's own or the kernel's comparison; each contract: ONE APPLICATION.
-/
namespace Go.Proofs
open Go.Shelf
def Try.sortedA_ren : Go.Shelf.Ren := ⟨fun | 6 => 58 | 8 => 71 | 9 => 72 | 11 => 75 | 13 => 77 | 12 => 76 | 23 => 87 | 24 => 88 | 14 => 78 | 15 => 79 | 16 => 80 | 17 => 81 | 18 => 82 | 19 => 83 | 20 => 84 | 21 => 85 | 22 => 86 | 25 => 89 | 26 => 90 | 27 => 91 | 28 => 92 | 29 => 93 | 30 => 94 | 31 => 95 | n => n, fun | 26 => 3 | 28 => 100 | 24 => 47 | 0 => 0 | 3 => 3 | 37 => 51 | 48 => 130 | 50 => 91 | 4 => 4 | 40 => 123 | 39 => 122 | 45 => 127 | 5 => 5 | 9 => 9 | 51 => 132 | 55 => 136 | 57 => 138 | 58 => 139 | 33 => 116 | n => n, fun | n => n⟩
theorem Try.sortedA : Go.Proofs.SlLaysZI.n6 Try.prog Try.sortedA_ren := {
  mixed := by kernel_rfl
  f6 := ⟨Try.f58.name, by decide, Try.func58.trans (congrArg some (by kernel_rfl))⟩
  f8 := ⟨Try.f71.name, by decide, Try.func71.trans (congrArg some (by kernel_rfl))⟩
  f11 := ⟨Try.f75.name, by decide, Try.func75.trans (congrArg some (by kernel_rfl))⟩
  t0 := Try.underlying0
  a0 := Try.isAgg0
  z0 := Try.sizeOf0
  v0 := Try.zeroValue0
  t24 := Try.underlying47
  a24 := Try.isAgg47
  z24 := Try.sizeOf47
  v24 := Try.zeroValue47
  t26 := Try.underlying3
  a26 := Try.isAgg3
  z26 := Try.sizeOf3
  v26 := Try.zeroValue3
  t28 := Try.underlying100
  a28 := Try.isAgg100
  z28 := Try.sizeOf100
  v28 := Try.zeroValue100
  i26 := by kernel_rfl }
end Go.Proofs
/- DISK 6: the contract of Aside. -/
namespace Go.Proofs.Ytckopikeegegkaa
open Go.RowKit Go.MapKept Go.Maps Go.Shelf Go.Sort
set_option linter.unusedSimpArgs false
set_option linter.unusedVariables false
variable {p q m : Nat} {D : Dk}

theorem sortsA (k : Nat) : AnyZI.SortsIn Try.prog Try.sortedA_ren Fence.wide k :=
  ⟨fun blk off cap ss W hH hblk hsz => callsIn_wide.2 (Try.slices_Sort_int blk off cap ss W hH hblk hsz), fun p cap W => callsIn_wide.2 (Try.slices_Sort_int_none p cap W)⟩
set_option maxHeartbeats 1000000 in
theorem keysOf_calls (m : Nat) (w : World) : Calls Try.prog 59 #[.map (some m)] w fun e w' =>
    e = .returned (.func (.func 73) #[] #[.pointer (some ⟨w.heap.size, 0, none⟩)]) ∧ w.alloc (.cells #[.map (some m)] 86) = w' := by
  go_enter Try.func59, Try.ntmps59
  go_wp2
  go_ret
  exact ⟨rfl, rfl⟩
set_option maxHeartbeats 1000000 in
theorem aside_nil (w : World) : Calls Try.prog 27 #[.pointer none] w fun e w' => e = .returned (.slice none 0 0) ∧ w = w' := by
  go_enter Try.func27, Try.ntmps27
  go_wp2
  go_ret
  exact ⟨rfl, rfl⟩
def keysOf (A : List (Nat × Str)) : List Int := A.map (fun p => (p.1 : Int))
theorem sorted_keys {A : List (Nat × Str)} (hr : A.Pairwise (fun p q => p.1 < q.1)) {k : List Nat} (hk : k.Perm (A.map (·.1))) : (k.map Int.ofNat).mergeSort (fun x y => decide (x ≤ y)) = keysOf A := by
  have h1 : ((k.map Int.ofNat).mergeSort (fun x y => decide (x ≤ y))).Perm (keysOf A) := by
    refine (List.mergeSort_perm _ _).trans ?_
    have := hk.map Int.ofNat
    rw [List.map_map] at this
    exact this
  have h2 : ((k.map Int.ofNat).mergeSort (fun x y => decide (x ≤ y))).Pairwise (fun x y => x ≤ y) := by
    have := List.pairwise_mergeSort (le := fun x y : Int => decide (x ≤ y)) (fun a b c h1 h2 => by simp at *; omega) (fun a b => by simp; omega) (k.map Int.ofNat)
    exact this.imp (fun h => by simpa using h)
  have h3 : (keysOf A).Pairwise (fun x y => x ≤ y) := by
    unfold keysOf
    rw [List.pairwise_map]
    exact hr.imp (fun h => by omega)
  exact h1.eq_of_pairwise (fun a b _ _ h1 h2 => by omega) h2 h3
set_option maxHeartbeats 1000000 in
theorem aside_calls (w : World) (h : DiskAt w p q m D) : Calls Try.prog 27 #[.pointer (some ⟨p, 0, none⟩)] w fun e w' =>
    ∃ v, e = .returned v ∧ w'.ownsRow w.heap.size 3 1 v D.aside.length ((keysOf D.aside).map (Value.int .i64)) ∧ (v = .slice none 0 0 ↔ D.aside = []) ∧ Keeps noB w w' := by
  obtain ⟨cap, hc, c0, c1, c2, hf⟩ := h.cells
  obtain ⟨es, clock, hm, hR⟩ := h.kept
  have hr := h.wf.rises
  have lm := h.lt_m
  have hk := keysOf_calls m w
  have hl : D.aside.length ≤ 4096 := by
    have h1 := nodup_le (k := D.aside.map (·.1)) (l := List.range D.there.length) (keys_nodup hr) (fun n hn => by
      obtain ⟨x, hx, rfl⟩ := List.mem_map.1 hn
      exact List.mem_range.2 (h.wf.aside x hx).1)
    have := h.wf.small
    rw [List.length_map, List.length_range] at h1
    omega
  have hseq := keys_gives Fence.wide 2 trivial rfl (by omega) w.heap.size m D.aside hr (w.alloc (.cells #[.map (some m)] 86)) (by simp) (by simp) es clock ((heap_alloc_ne _ _ _ (by omega)).trans hm) hR
  have cS := AnyZI.sorted_in Try.sortedA Fence.wide 5 trivial trivial trivial trivial rfl (by omega) (sortsA _) (enters_of Try.func72 (by kernel_rfl) rfl) 73 #[.pointer (some ⟨w.heap.size, 0, none⟩)] trivial (enters_of Try.func73 (by kernel_rfl) rfl) _ D.aside.length (by unfold maxLen; omega) (by omega) _ hseq
  change CallsIn _ _ Try.prog 58 _ _ _ at cS
  have cS' := callsIn_wide.1 cS
  clear cS hseq
  go_enter Try.func27, Try.ntmps27
  go_wp2_with (first | (go_at_call 59; refine hk.mono ?_; rintro e w' ⟨rfl, rfl⟩) | (go_at_call 58; refine cS'.mono ?_; rintro e w1 ⟨v, ss, rfl, hS, hrow, hnil, hb⟩))
  go_ret
  obtain ⟨k, hk1, rfl⟩ := hS
  have e1 := sorted_keys hr hk1
  have e2 : (k.map Int.ofNat).length = D.aside.length := by rw [List.length_map, hk1.length_eq, List.length_map]
  rw [e1, e2] at hrow
  refine ⟨v, rfl, ?_, ?_, ?_⟩
  · obtain ⟨r1, r2⟩ := hrow
    refine ⟨r1, r2.imp (fun x => x) ?_⟩
    rintro ⟨g, cp, cur, a1, a2, a3, a4⟩
    exact ⟨g, cp, cur, a1, by simp at a2; omega, a3, a4⟩
  · rw [hnil, ← List.length_eq_zero_iff, e2, List.length_eq_zero_iff]
  · exact ((Keeps.refl noB w).alloc _).trans (Keeps.of_below hb)
end Go.Proofs.Ytckopikeegegkaa
/- LAWS 5: for Crash: a key that is there looked up; an array's first bytes; bytes copied from row to row; a slice of bools. -/
namespace Go.Proofs.Ytckopikeegegkaa
open Go.RowKit Go.MapKept
theorem run_lookup1 {w : World} {m : Nat} {es : Array MapEntry} {clock : Nat} {A : List (Nat × Str)} (hm : w.heap[m]? = some (.map es clock)) (hR : MapRep es clock A) (hr : A.Pairwise (fun p q => p.1 < q.1)) (n : Nat) {s : Str} (hl : Dk.look n A = some s) :
    (Instr.lookup 86 (.map (some m)) (.int .i64 n) false).run Try.prog w = .ok (arrB s) w := by
  have hc := run_checkKey (P := Try.prog) (w := w) Try.underlying3 (k := .int .i64 n) (by simp [IsKey]) es.isEmpty 9999
  rcases hR.find hr n with ⟨h1, _⟩ | ⟨s2, i, e, h1, h2, h3, h4, h5⟩
  · rw [hl] at h1; cases h1
  · rw [hl] at h1; cases h1
    have hf := run_findKey (P := Try.prog) (w := w) Try.underlying3 h2
    simp [Instr.lookup, run_underlying Try.underlying86, Go.MapKept.run_getObj_map hm, hc, hf]
theorem run_sliceArrHi {P : Program} (t et : TypeId) (n sz b off : Nat) (y : Int) (hi : Nat) (w : World) (hu : P.underlying t = some (.array n et)) (hs : ∀ w, (sizeOf et).run P w = .ok sz w) (ey : y = hi) (h0 : 0 < n) (h2 : hi ≤ n) :
    (Instr.sliceAt t (.pointer (some ⟨b, off, none⟩)) none (some (.int .i64 y)) none).run P w = .ok (.slice (some ⟨b, off, none⟩) hi n) w := by
  subst ey
  have e1 : (0 : Int) ≤ (hi : Int) ∧ (hi : Int) ≤ (n : Int) := ⟨by omega, by omega⟩
  have e4 : ¬ n < hi := by omega
  have e3 : ¬ n = 0 := by omega
  simp [Instr.sliceAt, run_underlying hu, Instr.sureAddr, Instr.sliceBounds, Instr.sliceBound, asIntOf, Result.andThen, e1, hs, addr_add, h2]
theorem run_copyRow {P : Program} {w : World} (dT sT et rT : TypeId) (b off c soff n cap cap2 : Nat) (L M : List Value) (t t2 : TypeId) (fr : Nat × Nat) (hu : P.underlying dT = some (.slice et)) (hs : ∀ w, (sizeOf et).run P w = .ok 1 w)
    (hb : w.heap[b]? = some (.cells L.toArray t (0, 0))) (hc : w.heap[c]? = some (.cells M.toArray t2 fr)) (hl : off + n ≤ L.length) (hm : soff + n ≤ M.length) (h1 : ∀ v ∈ M, v.oneCell' = true) :
    (Builtin.copy_ #[dT, sT] rT #[.slice (some ⟨b, off, none⟩) n cap, .slice (some ⟨c, soff, none⟩) n cap2]).run P w = .ok (.int .i64 n) (w.setRow b (L.take off ++ (M.drop soff).take n ++ L.drop (off + n)).toArray) := by
  have hld := run_loadCells_row (P := P) (w := w) c soff n M t2 fr hc hm
  have hlen : ((M.drop soff).take n).length = n := by simp; omega
  have hst := run_storeCells_at (P := P) b off t ((M.drop soff).take n) 0 L.toArray w hb (by rw [hlen]; simp; omega) (fun v hv => h1 v (List.mem_of_mem_drop (List.mem_of_mem_take hv)))
  rw [hlen] at hst
  simp only [Nat.add_zero] at hst
  simp [Builtin.copy_, run_underlying hu, Builtin.lenOf, Builtin.firstCells, hs, hld, goInt, Result.andThen] at hst ⊢
  rw [hst]

theorem wpl_copyRow {P : Program} {o : Oper} {ops : Array Oper} {rest : List Oper} {a : Act} {w : World} {Q : Exit → Act → World → Prop} (dT sT et : TypeId) (x y : Operand) (ho : o.op = .call { callee := .builtin .copy, args := #[x, y], argTypes := #[dT, sT] })
    (b off c soff n cap cap2 : Nat) (L M : List Value) (t t2 : TypeId) (fr : Nat × Nat) (hx : a.eval x = .slice (some ⟨b, off, none⟩) n cap) (hy : a.eval y = .slice (some ⟨c, soff, none⟩) n cap2) (hu : P.underlying dT = some (.slice et)) (hs : ∀ w, (sizeOf et).run P w = .ok 1 w)
    (hb : w.heap[b]? = some (.cells L.toArray t (0, 0))) (hc : w.heap[c]? = some (.cells M.toArray t2 fr)) (hl : off + n ≤ L.length) (hm : soff + n ≤ M.length) (h1 : ∀ v ∈ M, v.oneCell' = true) (hgd : o.guard = none)
    (h : wpList P ops Q rest (a.put o.dst (.int .i64 n)) (w.setRow b (L.take off ++ (M.drop soff).take n ++ L.drop (off + n)).toArray)) : wpList P ops Q (o :: rest) a w := by
  refine wpl_run (s := Builtin.copy_ #[dT, sT] o.type #[a.eval x, a.eval y]) ?_ ?_ hgd h
  · simp [execOp, ho, resolve, invoke, builtin]
  · rw [hx, hy]; exact run_copyRow dT sT et o.type b off c soff n cap cap2 L M t t2 fr hu hs hb hc hl hm h1
/-- What falls at one sector that was kept aside. -/
def fallStep (keep : List Bool) (torn : Int) (cut j : Nat) (p : Nat × Str) (t : List Str) : List Str :=
  if (j : Int) = torn then t.set p.1 (p.2.take cut ++ (t.getD p.1 []).drop cut) else if keep.getD j false then t.set p.1 p.2 else t
theorem fall_snoc (keep : List Bool) (torn : Int) (cut : Nat) (x : Nat × Str) : ∀ (A : List (Nat × Str)) (j : Nat) (t : List Str), Dk.fall keep torn cut j (A ++ [x]) t = fallStep keep torn cut (j + A.length) x (Dk.fall keep torn cut j A t)
  | [], j, t => rfl
  | p :: A, j, t => by
    simp only [List.cons_append, Dk.fall]
    rw [fall_snoc keep torn cut x A]
    simp only [List.length_cons]
    rw [show j + 1 + A.length = j + (A.length + 1) by omega]
theorem fall_length (keep : List Bool) (torn : Int) (cut : Nat) : ∀ (A : List (Nat × Str)) (j : Nat) (t : List Str), (Dk.fall keep torn cut j A t).length = t.length
  | [], j, t => rfl
  | p :: A, j, t => by
    simp only [Dk.fall]
    rw [fall_length keep torn cut A]
    split
    · rw [List.length_set]
    · split
      · rw [List.length_set]
      · rfl
theorem getD_64 {t : List Str} (ht : ∀ s ∈ t, s.length = 64) {n : Nat} (h : n < t.length) : (t.getD n []).length = 64 := by
  rw [List.getD_eq_getElem?_getD, List.getElem?_eq_getElem h]; exact ht _ (List.getElem_mem h)
theorem fall_64 (keep : List Bool) (torn : Int) {cut : Nat} (hcut : cut ≤ 64) : ∀ {A : List (Nat × Str)} {j : Nat} {t : List Str}, (∀ p ∈ A, p.1 < t.length ∧ p.2.length = 64) → (∀ s ∈ t, s.length = 64) → ∀ s ∈ Dk.fall keep torn cut j A t, s.length = 64
  | [], j, t, _, ht, s, hs => ht s hs
  | p :: A, j, t, hA, ht, s, hs => by
    obtain ⟨h1, h2⟩ := hA p List.mem_cons_self
    have hlen : ∀ x : Str, ∀ q ∈ A, q.1 < (t.set p.1 x).length ∧ q.2.length = 64 := fun x q hq => by rw [List.length_set]; exact hA q (List.mem_cons_of_mem _ hq)
    simp only [Dk.fall] at hs
    split at hs
    · refine fall_64 keep torn hcut (hlen _) (fun x hx => ?_) s hs
      rcases List.mem_or_eq_of_mem_set hx with hx | rfl
      · exact ht x hx
      · have := getD_64 ht h1
        rw [List.length_append, List.length_take, List.length_drop]; omega
    · split at hs
      · refine fall_64 keep torn hcut (hlen _) (fun x hx => ?_) s hs
        rcases List.mem_or_eq_of_mem_set hx with hx | rfl
        · exact ht x hx
        · exact h2
      · exact fall_64 keep torn hcut (fun q hq => hA q (List.mem_cons_of_mem _ hq)) ht s hs
/-- A slice of bools. -/
def BoolsAt (w : World) (v : Value) (l : List Bool) : Prop := (v = .slice none 0 0 ∧ l = []) ∨ ∃ a cap, v = .slice (some a) l.length cap ∧ ∀ i (h : i < l.length), w.cell? (a.add i) = some (.bool l[i])
end Go.Proofs.Ytckopikeegegkaa
