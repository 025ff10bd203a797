/- PAGE 5: the contract of Root. -/
import Derived.Test.YtckopikeegegkaaPage4
namespace Go.Proofs.Ytckopikeegegkaa
open Go.RowKit Go.MapKept Go.Shelf
set_option linter.unusedSimpArgs false
set_option linter.unusedVariables false
variable {p q m : Nat} {D : Dk}

theorem results_mark {P : Program} {fn : Func} {p q : Tmp} {ty : TypeId} (h : fn.results = #[.cell p ty, .tmp q]) (tmps : Array Value) (w : World) (b : Nat) (L : List Value) (t : TypeId) (fr : Nat × Nat) (n : Nat)
    (hp : tmps.getD p undef = .pointer (some ⟨b, 0, none⟩)) (hg : ∀ w, (isAgg ty).run P w = .ok true w) (hs : ∀ w, (sizeOf ty).run P w = .ok n w)
    (hb : w.heap[b]? = some (.cells L.toArray t fr)) (hl : L.length = n) : (results fn tmps).run P w = .ok (.tuple #[.agg L.toArray, tmps.getD q undef]) w := by
  have hp' : tmps[p]?.getD undef = .pointer (some ⟨b, 0, none⟩) := by simpa using hp
  have hr := run_loadCells_row (P := P) (w := w) b 0 n L t fr hb (by omega)
  rw [List.drop_zero, List.take_of_length_le (by omega)] at hr
  simp [results, h, hp', asAddr, loadVar, hg, hs, hr, Result.andThen]

set_option maxHeartbeats 1000000 in
theorem root_none (n : Int) (w : World) (h : DiskAt w p q m D) (hh : hasRoot D n = false) :
    Calls Try.prog 18 #[.pointer (some ⟨p, 0, none⟩), .int .i64 n] w fun e w' =>
      e = .returned (.tuple #[.agg #[.bool false, .int .i64 0, .int .i64 0], .int .i64 5]) ∧ Keeps noB w w' := by
  have lp := h.lt_p
  have hr := root_calls n (w.alloc (.cells #[.bool false, .int .i64 0, .int .i64 0] 23)) (h.keep ((Keeps.refl noB w).alloc _) (fun q => q) (fun q => q) (fun q => q))
  rw [hh] at hr
  clear hh
  go_enter Try.func18, Try.ntmps18
  go_wp2_with (go_at_call 53; refine hr.mono ?_; rintro e w' ⟨rfl, rfl⟩)
  refine bodyPost_ret (results_mark rfl _ _ w.heap.size [.bool false, .int .i64 0, .int .i64 0] 23 (0, 0) 3 rfl Try.isAgg23 Try.sizeOf23 (by simp (disch := (first | (simp only [World.size_alloc, World.size_setCell, World.size_drew, size_setRow, heap_drew, heap_drewN]; done) | ((try simp only [World.size_alloc, World.size_setCell, World.size_drew, size_setRow, heap_drew, heap_drewN]); omega))) only [heap_drew, heap_drewN, heap_alloc_ne, heap_alloc_eq, heap_setCell_ne, heap_setRow_ne]) rfl) rfl ⟨rfl, (Keeps.refl _ _).alloc _⟩
set_option maxHeartbeats 1000000 in
theorem root_nil0 (n : Int) (w : World) :
    Calls Try.prog 18 #[.pointer none, .int .i64 n] w fun e w' =>
      e = .returned (.tuple #[.agg #[.bool false, .int .i64 0, .int .i64 0], .int .i64 2]) ∧ Keeps noB w w' := by
  have hr := root_nil n (w.alloc (.cells #[.bool false, .int .i64 0, .int .i64 0] 23))
  go_enter Try.func18, Try.ntmps18
  go_wp2_with (go_at_call 53; refine hr.mono ?_; rintro e w' ⟨rfl, rfl⟩)
  refine bodyPost_ret (results_mark rfl _ _ w.heap.size [.bool false, .int .i64 0, .int .i64 0] 23 (0, 0) 3 rfl Try.isAgg23 Try.sizeOf23 (by simp (disch := (first | (simp only [World.size_alloc, World.size_setCell, World.size_drew, size_setRow, heap_drew, heap_drewN]; done) | ((try simp only [World.size_alloc, World.size_setCell, World.size_drew, size_setRow, heap_drew, heap_drewN]); omega))) only [heap_drew, heap_drewN, heap_alloc_ne, heap_alloc_eq, heap_setCell_ne, heap_setRow_ne]) rfl) rfl ⟨rfl, (Keeps.refl _ _).alloc _⟩

def bigTo (t : Str) : Nat → Nat
  | 0 => 0
  | i + 1 => bigTo t i * 256 + (t.getD (1 + i) 0).toNat
theorem bigTo_lt (t : Str) : ∀ i, bigTo t i < 256 ^ i
  | 0 => by simp [bigTo]
  | i + 1 => by
    have h1 := bigTo_lt t i
    have h2 := (t.getD (1 + i) 0).toNat_lt
    rw [bigTo, Nat.pow_succ]
    omega
theorem bs_get (l : Str) (k : Nat) (h : k < (bs l).size) : (bs l)[k] = l.getD k 0 := by
  have h' : k < l.length := by simpa using h
  rw [List.getD_eq_getElem?_getD, List.getElem?_eq_getElem h']; rfl
theorem or_byte (x : Nat) (b : UInt8) (hx : x < 256 ^ 7) : bits .or .u64 (IntKind.u64.wrap ((x : Int) * 256)) (IntKind.u64.wrap (b.toNat : Int)) = ((x * 256 + b.toNat : Nat) : Int) := by
  have hb := b.toNat_lt
  have e1 : IntKind.u64.wrap ((x : Int) * 256) = ((x * 256 : Nat) : Int) := by rw [IntKind.wrap_u64]; omega
  have e2 : IntKind.u64.wrap (b.toNat : Int) = ((b.toNat : Nat) : Int) := by rw [IntKind.wrap_u64]; omega
  rw [e1, e2, bits_or_u64_nat _ _ (by omega) (by omega)]
  have := Nat.shiftLeft_add_eq_or_of_lt (i := 8) (b := b.toNat) (by omega) x
  rw [Nat.shiftLeft_eq] at this
  rw [← this]
theorem cells3_set1 {W : World} {b t : Nat} {x y z v : Value} (h : W.heap[b]? = some (.cells (Array.mk [x, y, z]) t (0, 0))) : (W.setCell ⟨b, 1, none⟩ v).heap[b]? = some (.cells (Array.mk [x, v, z]) t (0, 0)) := heap_setCell_same W b 1 _ _ v h
theorem cells3_set2 {W : World} {b t : Nat} {x y z v : Value} (h : W.heap[b]? = some (.cells (Array.mk [x, y, z]) t (0, 0))) : (W.setCell ⟨b, 2, none⟩ v).heap[b]? = some (.cells (Array.mk [x, y, v]) t (0, 0)) := heap_setCell_same W b 2 _ _ v h
theorem byte_one (b : UInt8) : (((b.toNat : Nat) : Int) == 1) = (b == 1) := by
  rw [Bool.eq_iff_iff]
  simp only [beq_iff_eq]
  constructor
  · intro h; exact UInt8.toNat_inj.1 (by have : (1 : UInt8).toNat = 1 := rfl; omega)
  · rintro rfl; rfl
theorem or_two (a b : UInt8) : bits .or .i64 (IntKind.i64.wrap (IntKind.i64.wrap (a.toNat : Int) * 256)) (IntKind.i64.wrap (b.toNat : Int)) = ((a.toNat * 256 + b.toNat : Nat) : Int) := by
  have ha := a.toNat_lt
  have hb := b.toNat_lt
  rw [IntWalk.i64_in (a.toNat : Int) (by omega), IntWalk.i64_in (b.toNat : Int) (by omega), IntWalk.i64_in ((a.toNat : Int) * 256) (by omega)]
  have h1 : (BitVec.ofInt 64 ((a.toNat : Int) * 256)).toNat = a.toNat * 256 := by
    rw [show (a.toNat : Int) * 256 = ((a.toNat * 256 : Nat) : Int) by omega, BitVec.ofInt_natCast, BitVec.toNat_ofNat]; exact Nat.mod_eq_of_lt (by omega)
  have h2 : (BitVec.ofInt 64 (b.toNat : Int)).toNat = b.toNat := by
    rw [BitVec.ofInt_natCast, BitVec.toNat_ofNat]; exact Nat.mod_eq_of_lt (by omega)
  show IntKind.i64.wrap ((BitVec.ofInt 64 ((a.toNat : Int) * 256) ||| BitVec.ofInt 64 (b.toNat : Int)).toNat : Int) = _
  have := Nat.shiftLeft_add_eq_or_of_lt (i := 8) (b := b.toNat) (by omega) a.toNat
  rw [Nat.shiftLeft_eq] at this
  rw [BitVec.toNat_or, h1, h2, ← this, IntWalk.i64_in _ (by omega)]
theorem big_of (t : Str) (h : t.length = 64) : bigTo t 8 = big (sub t 1 9) := by
  obtain ⟨a0, t, rfl⟩ := List.exists_cons_of_length_eq_add_one (n := 63) h
  obtain ⟨a1, t, rfl⟩ := List.exists_cons_of_length_eq_add_one (n := 62) (by simpa using h)
  obtain ⟨a2, t, rfl⟩ := List.exists_cons_of_length_eq_add_one (n := 61) (by simpa using h)
  obtain ⟨a3, t, rfl⟩ := List.exists_cons_of_length_eq_add_one (n := 60) (by simpa using h)
  obtain ⟨a4, t, rfl⟩ := List.exists_cons_of_length_eq_add_one (n := 59) (by simpa using h)
  obtain ⟨a5, t, rfl⟩ := List.exists_cons_of_length_eq_add_one (n := 58) (by simpa using h)
  obtain ⟨a6, t, rfl⟩ := List.exists_cons_of_length_eq_add_one (n := 57) (by simpa using h)
  obtain ⟨a7, t, rfl⟩ := List.exists_cons_of_length_eq_add_one (n := 56) (by simpa using h)
  obtain ⟨a8, t, rfl⟩ := List.exists_cons_of_length_eq_add_one (n := 55) (by simpa using h)
  rfl
theorem big_of2 (t : Str) (h : t.length = 64) : (t.getD 9 0).toNat * 256 + (t.getD 10 0).toNat = big (sub t 9 11) := by
  have h9 : t.drop 9 = t[9] :: t[10] :: t.drop 11 := by
    rw [List.drop_eq_getElem_cons (by omega), List.drop_eq_getElem_cons (by omega)]
  have hs : sub t 9 11 = [t[9], t[10]] := by unfold sub; rw [h9]; rfl
  rw [hs]
  simp [big, List.getD_eq_getElem?_getD, h]
set_option maxHeartbeats 1000000 in
theorem root_good (n : Int) (w : World) (h : DiskAt w p q m D) (hh : hasRoot D n = true) :
    Calls Try.prog 18 #[.pointer (some ⟨p, 0, none⟩), .int .i64 n] w fun e w' =>
      e = .returned (.tuple #[.agg #[.bool (rootOf (D.now (4 * n.toNat))).on, .int .i64 (rootOf (D.now (4 * n.toNat))).epoch, .int .i64 (rootOf (D.now (4 * n.toNat))).page], .int .i64 0]) ∧ Keeps noB w w' := by
  have lp := h.lt_p
  have kA := (Keeps.refl noB w).alloc (.cells #[.bool false, .int .i64 0, .int .i64 0] 23)
  have hA := h.keep kA (fun q => q) (fun q => q) (fun q => q)
  have hr := root_calls n (w.alloc (.cells #[.bool false, .int .i64 0, .int .i64 0] 23)) hA
  rw [hh] at hr
  have nb : 0 ≤ n ∧ n ≤ 1 ∧ n * 4 < D.there.length := by
    simp only [hasRoot, hasPage, Bool.and_eq_true, decide_eq_true_eq] at hh
    obtain ⟨q1, q2, q3⟩ := hh
    unfold pages at q3
    omega
  obtain ⟨n0, n1, n2⟩ := nb
  have hrd := read_calls (n * 4) (w.alloc (.cells #[.bool false, .int .i64 0, .int .i64 0] 23)) hA
  have e1 : D.read (n * 4) = (D.now (4 * n.toNat), 0) := by
    have : D.has (n * 4) = true := by simp [Dk.has]; omega
    simp only [Dk.read, this, if_true]
    congr 2
    omega
  rw [e1] at hrd
  have tl : (D.now (4 * n.toNat)).length = 64 := now_length h.wf (by omega)
  clear hh e1
  generalize htt : D.now (4 * n.toNat) = tt at *
  have Htt := Lib.hid htt
  clear htt
  go_enter Try.func18, Try.ntmps18
  go_wp2_with (first | (go_at_call 53; refine hr.mono ?_; rintro e w' ⟨rfl, rfl⟩) | (go_at_call 24; refine hrd.mono ?_; rintro e w2 ⟨rfl, k2⟩))
  go_loopw [27, 7] (fun i x wr => ∃ k : Nat, k ≤ 8 ∧ i = .int .i64 k ∧ x = .int .u64 (bigTo tt k) ∧ w2 = wr) (fun i _ _ => 8 - (intOf i).toNat)
  case atStart => exact ⟨0, by omega, rfl, rfl, rfl⟩
  case round =>
    obtain ⟨k, hk, rfl, rfl, rfl⟩ := hrel
    by_cases hlt : k < 8
    · have b1 := bigTo_lt tt k
      have b2 : bigTo tt k < 256 ^ 7 := Nat.lt_of_lt_of_le b1 (Nat.pow_le_pow_right (by decide) (by omega))
      have bb := or_byte (bigTo tt k) ((bs tt)[1 + k]'(by simp; omega)) (by omega)
      have be : (bs tt)[1 + k]'(by simp; omega) = tt.getD (1 + k) 0 := bs_get tt (1 + k) _
      rw [be] at bb
      have Hbb := Lib.hid bb
      have Hbe := Lib.hid be
      clear bb be b1 b2
      go_wp2
      refine ⟨⟨k + 1, by omega, rfl, ?_, trivial⟩, by simp [intOf]; omega⟩
      rw [Hbe.out, Hbb.out]; rfl
    · obtain rfl : k = 8 := by omega
      have c4 : w2.heap[w.heap.size]? = some (.cells #[.bool false, .int .i64 0, .int .i64 0] 23) := (k2.block _ (by simp) (fun q => q)).trans (by simp (disch := (first | (simp only [World.size_alloc, World.size_setCell, World.size_drew, size_setRow, heap_drew, heap_drewN]; done) | ((try simp only [World.size_alloc, World.size_setCell, World.size_drew, size_setRow, heap_drew, heap_drewN]); omega))) only [heap_drew, heap_drewN, heap_alloc_ne, heap_alloc_eq, heap_setCell_ne, heap_setRow_ne])
      have e8 : bigTo tt 8 = big (sub tt 1 9) := big_of tt tl
      have e9 : (tt.getD 9 0).toNat * 256 + (tt.getD 10 0).toNat = big (sub tt 9 11) := big_of2 tt tl
      go_wp2
      refine wp_region_text [(0, true), (1, true), (2, true), (3, true), (4, true), (5, true), (6, true), (7, true), (8, true), (9, true), (10, true), (11, true), (12, true), (13, true), (14, false)] (fun _ => True) (by kernel_rfl) (by kernel_rfl) (fun d _ _ _ _ h => by cases d <;> exact h) trivial ?_
      iterate 14 (apply wpText_take; rfl; rfl; (intro W hS; (try dsimp only at hS); go_simp; exact rfl))
      simp only [Act.put, List.setIfInBounds_toArray, List.set_cons_succ, List.set_cons_zero]
      have x1 : ((↑((bs tt)[0]'(by simp; omega)).toNat : Int) == 1) = (tt.getD 0 0 == 1) := by
        rw [bs_get]; exact byte_one _
      have x2 := or_two ((bs tt)[9]'(by simp; omega)) ((bs tt)[10]'(by simp; omega))
      rw [bs_get tt 10, bs_get tt 9, e9] at x2
      rw [bs_get tt 10, bs_get tt 9, x2, x1]
      have b9 : big (sub tt 9 11) < 65536 := by rw [← e9]; have h1 := (tt.getD 9 0).toNat_lt; have h2 := (tt.getD 10 0).toNat_lt; omega
      have b8 : big (sub tt 1 9) < 2 ^ 64 := by rw [← e8]; exact bigTo_lt tt 8
      clear x1 x2 e9
      have er : rootOf tt = ⟨tt.getD 0 0 == 1, if 1099511627776 < big (sub tt 1 9) then 0 else big (sub tt 1 9), if 1024 ≤ big (sub tt 9 11) then 0 else big (sub tt 9 11)⟩ := rfl
      rw [e8]
      clear e8
      generalize big (sub tt 1 9) = E at *
      generalize big (sub tt 9 11) = G at *
      generalize (tt.getD 0 0 == 1) = on at *
      have Her := Lib.hid er
      clear er
      apply wpText_goL; rfl; intro K hK
      apply wpl_store_all 23 (n := 3) (vs := [.bool on, .int .i64 (IntKind.i64.wrap E), .int .i64 G]) (L := [.bool false, .int .i64 0, .int .i64 0]) (t := 23); rfl; rfl; rfl; exact Try.sizeOf23; exact c4; rfl; (intro v hv; simp at hv; rcases hv with rfl | rfl | rfl <;> rfl); rfl; rfl
      refine wpl_end (hK _ _ trivial ?_)
      clear hK K
      simp only [Act.put, List.setIfInBounds_toArray, List.set_cons_succ, List.set_cons_zero]
      apply wpText_done
      have f4 : (w2.drew.setRow w.heap.size (Array.mk [.bool on, .int .i64 (IntKind.i64.wrap E), .int .i64 G])).heap[w.heap.size]? = some (.cells (Array.mk [.bool on, .int .i64 (IntKind.i64.wrap E), .int .i64 G]) 23) := setRow_eq _ _ _ _ _ _ c4
      have kk : Keeps noB w (w2.drew.setRow w.heap.size (Array.mk [.bool on, .int .i64 (IntKind.i64.wrap E), .int .i64 G])) := (((Keeps.refl noB w).alloc _).trans k2).drew.setRow (fun q => by omega) _
      generalize w2.drew.setRow w.heap.size (Array.mk [.bool on, .int .i64 (IntKind.i64.wrap E), .int .i64 G]) = W3 at *
      have hfin : ∀ (W4 : World) (x y : Bool), decide (1099511627776 < (E : Int)) = x → decide (1024 ≤ (G : Int)) = y → W4.heap[w.heap.size]? = some (.cells (Array.mk [.bool on, .int .i64 (if x then 0 else IntKind.i64.wrap (E : Int)), .int .i64 (if y then 0 else (G : Int))]) 23) → Keeps (fun k => k = w.heap.size) W3 W4 →
          W4.heap[w.heap.size]? = some (.cells (Array.mk [.bool on, .int .i64 (if 1099511627776 < E then 0 else (E : Int)), .int .i64 (if 1024 ≤ G then 0 else (G : Int))]) 23) ∧ Keeps noB w W4 := by
        intro W4 x y h1 h2 h3 h4
        have e1 : (if 1099511627776 < E then (0 : Int) else (E : Int)) = (if x then 0 else IntKind.i64.wrap (E : Int)) := by
          rw [← h1]
          by_cases q : 1099511627776 < E
          · have : decide (1099511627776 < (E : Int)) = true := by simp; omega
            rw [this, if_pos q]; rfl
          · have : decide (1099511627776 < (E : Int)) = false := by simp; omega
            rw [this, if_neg q, IntWalk.i64_in _ (by omega)]; rfl
        have e2 : (if 1024 ≤ G then (0 : Int) else (G : Int)) = (if y then 0 else (G : Int)) := by
          rw [← h2]
          by_cases q : 1024 ≤ G
          · have : decide (1024 ≤ (G : Int)) = true := by simp; omega
            rw [this, if_pos q]; rfl
          · have : decide (1024 ≤ (G : Int)) = false := by simp; omega
            rw [this, if_neg q]; rfl
        exact ⟨by rw [e1, e2]; exact h3, kk.trans_new h4 (fun k hk q => by omega)⟩
      have Hfin := Lib.hid hfin
      have z1 : ∀ o, W3.frozen? ⟨w.heap.size, o, none⟩ = false := fun o => by simp [World.frozen?, f4]
      have z2 : W3.cell? ⟨w.heap.size, 1, none⟩ = some (.int .i64 (IntKind.i64.wrap E)) := by simp [World.cell?, f4]
      have z3 : W3.cell? ⟨w.heap.size, 2, none⟩ = some (.int .i64 G) := by simp [World.cell?, f4]
      have wE : ¬ 1099511627776 < E → IntKind.i64.wrap (E : Int) = E := fun h => IntWalk.i64_in _ (by omega)
      clear hr hrd hfin kk h kA hA lp c4 k2
      by_cases hE : 1099511627776 < E <;> by_cases hG : 1024 ≤ G
      · have d1 : decide (1099511627776 < (E : Int)) = true := by simp; omega
        have d2 : decide (1024 ≤ (G : Int)) = true := by simp; omega
        have f5 : ((W3.setCell ⟨w.heap.size, 1, none⟩ (.int .i64 0)).setCell ⟨w.heap.size, 2, none⟩ (.int .i64 0)).heap[w.heap.size]? = some (.cells (Array.mk [.bool on, .int .i64 0, .int .i64 0]) 23) := (cells3_set2 (cells3_set1 f4))
        clear hE hG
        go_wp2_with (first | ((with_reducible apply wpl_load_all 23 (n := 3) (hg := Try.isAgg23) (hs := Try.sizeOf23) (L := [.bool on, .int .i64 0, .int .i64 0]) (t := 23) (fr := (0, 0))); rfl; go_must (rfl; exact f5; rfl; rfl)) | ((with_reducible apply wpl_store_all 23 (n := 3) (vs := [.bool on, .int .i64 0, .int .i64 0]) (hs := Try.sizeOf23) (L := [.bool on, .int .i64 0, .int .i64 0]) (t := 23)); rfl; go_must (rfl; rfl; exact f5; rfl; (intro v hv; simp at hv; rcases hv with rfl | rfl | rfl <;> rfl); rfl; rfl)))
        obtain ⟨h1, h2⟩ := Hfin.out _ _ _ d1 d2 (setRow_eq ((W3.setCell ⟨w.heap.size, 1, none⟩ (.int .i64 0)).setCell ⟨w.heap.size, 2, none⟩ (.int .i64 0)) w.heap.size _ (Array.mk [.bool on, .int .i64 0, .int .i64 0]) _ _ f5) ((((Keeps.refl (fun k => k = w.heap.size) W3).setCell (a := ⟨w.heap.size, 1, none⟩) (fun _ => rfl) _).setCell (a := ⟨w.heap.size, 2, none⟩) (fun _ => rfl) _).setRow (fun _ => rfl) _)
        exact bodyPost_ret (results_mark rfl _ _ w.heap.size _ 23 (0, 0) 3 rfl Try.isAgg23 Try.sizeOf23 h1 rfl) rfl ⟨by rw [Her.out]; rfl, h2⟩
      · have d1 : decide (1099511627776 < (E : Int)) = true := by simp; omega
        have d2 : decide (1024 ≤ (G : Int)) = false := by simp; omega
        have f5 : (W3.setCell ⟨w.heap.size, 1, none⟩ (.int .i64 0)).heap[w.heap.size]? = some (.cells (Array.mk [.bool on, .int .i64 0, .int .i64 G]) 23) := (cells3_set1 f4)
        clear hE hG
        go_wp2_with (first | ((with_reducible apply wpl_load_all 23 (n := 3) (hg := Try.isAgg23) (hs := Try.sizeOf23) (L := [.bool on, .int .i64 0, .int .i64 G]) (t := 23) (fr := (0, 0))); rfl; go_must (rfl; exact f5; rfl; rfl)) | ((with_reducible apply wpl_store_all 23 (n := 3) (vs := [.bool on, .int .i64 0, .int .i64 G]) (hs := Try.sizeOf23) (L := [.bool on, .int .i64 0, .int .i64 G]) (t := 23)); rfl; go_must (rfl; rfl; exact f5; rfl; (intro v hv; simp at hv; rcases hv with rfl | rfl | rfl <;> rfl); rfl; rfl)))
        obtain ⟨h1, h2⟩ := Hfin.out _ _ _ d1 d2 (setRow_eq (W3.setCell ⟨w.heap.size, 1, none⟩ (.int .i64 0)) w.heap.size _ (Array.mk [.bool on, .int .i64 0, .int .i64 G]) _ _ f5) (((Keeps.refl (fun k => k = w.heap.size) W3).setCell (a := ⟨w.heap.size, 1, none⟩) (fun _ => rfl) _).setRow (fun _ => rfl) _)
        exact bodyPost_ret (results_mark rfl _ _ w.heap.size _ 23 (0, 0) 3 rfl Try.isAgg23 Try.sizeOf23 h1 rfl) rfl ⟨by rw [Her.out]; rfl, h2⟩
      · have d1 : decide (1099511627776 < (E : Int)) = false := by simp; omega
        have d2 : decide (1024 ≤ (G : Int)) = true := by simp; omega
        have hw := wE hE
        rw [hw] at f4 z2 Hfin ⊢
        have f5 : (W3.setCell ⟨w.heap.size, 2, none⟩ (.int .i64 0)).heap[w.heap.size]? = some (.cells (Array.mk [.bool on, .int .i64 E, .int .i64 0]) 23) := (cells3_set2 f4)
        clear hE hG
        go_wp2_with (first | ((with_reducible apply wpl_load_all 23 (n := 3) (hg := Try.isAgg23) (hs := Try.sizeOf23) (L := [.bool on, .int .i64 E, .int .i64 0]) (t := 23) (fr := (0, 0))); rfl; go_must (rfl; exact f5; rfl; rfl)) | ((with_reducible apply wpl_store_all 23 (n := 3) (vs := [.bool on, .int .i64 E, .int .i64 0]) (hs := Try.sizeOf23) (L := [.bool on, .int .i64 E, .int .i64 0]) (t := 23)); rfl; go_must (rfl; rfl; exact f5; rfl; (intro v hv; simp at hv; rcases hv with rfl | rfl | rfl <;> rfl); rfl; rfl)))
        obtain ⟨h1, h2⟩ := Hfin.out _ _ _ d1 d2 (setRow_eq (W3.setCell ⟨w.heap.size, 2, none⟩ (.int .i64 0)) w.heap.size _ (Array.mk [.bool on, .int .i64 E, .int .i64 0]) _ _ f5) (((Keeps.refl (fun k => k = w.heap.size) W3).setCell (a := ⟨w.heap.size, 2, none⟩) (fun _ => rfl) _).setRow (fun _ => rfl) _)
        exact bodyPost_ret (results_mark rfl _ _ w.heap.size _ 23 (0, 0) 3 rfl Try.isAgg23 Try.sizeOf23 h1 rfl) rfl ⟨by rw [Her.out]; rfl, h2⟩
      · have d1 : decide (1099511627776 < (E : Int)) = false := by simp; omega
        have d2 : decide (1024 ≤ (G : Int)) = false := by simp; omega
        have hw := wE hE
        rw [hw] at f4 z2 Hfin ⊢
        have f5 : W3.heap[w.heap.size]? = some (.cells (Array.mk [.bool on, .int .i64 E, .int .i64 G]) 23) := f4
        clear hE hG
        go_wp2_with (first | ((with_reducible apply wpl_load_all 23 (n := 3) (hg := Try.isAgg23) (hs := Try.sizeOf23) (L := [.bool on, .int .i64 E, .int .i64 G]) (t := 23) (fr := (0, 0))); rfl; go_must (rfl; exact f5; rfl; rfl)) | ((with_reducible apply wpl_store_all 23 (n := 3) (vs := [.bool on, .int .i64 E, .int .i64 G]) (hs := Try.sizeOf23) (L := [.bool on, .int .i64 E, .int .i64 G]) (t := 23)); rfl; go_must (rfl; rfl; exact f5; rfl; (intro v hv; simp at hv; rcases hv with rfl | rfl | rfl <;> rfl); rfl; rfl)))
        obtain ⟨h1, h2⟩ := Hfin.out _ _ _ d1 d2 (setRow_eq W3 w.heap.size _ (Array.mk [.bool on, .int .i64 E, .int .i64 G]) _ _ f5) (((Keeps.refl (fun k => k = w.heap.size) W3)).setRow (fun _ => rfl) _)
        exact bodyPost_ret (results_mark rfl _ _ w.heap.size _ 23 (0, 0) 3 rfl Try.isAgg23 Try.sizeOf23 h1 rfl) rfl ⟨by rw [Her.out]; rfl, h2⟩
theorem pgroot_calls (n : Int) (w : World) (h : DiskAt w p q m D) :
    Calls Try.prog 18 #[.pointer (some ⟨p, 0, none⟩), .int .i64 n] w fun e w' =>
      e = .returned (.tuple #[encM (pgRoot D n).1, .int .i64 (pgRoot D n).2]) ∧ Keeps noB w w' := by
  cases hh : hasRoot D n with
  | false =>
    have e : pgRoot D n = (⟨false, 0, 0⟩, 5) := by simp [pgRoot, hh]
    rw [e]; exact root_none n w h hh
  | true =>
    have e : pgRoot D n = (rootOf (D.now (4 * n.toNat)), 0) := by simp [pgRoot, hh]
    rw [e]; exact root_good n w h hh
end Go.Proofs.Ytckopikeegegkaa
