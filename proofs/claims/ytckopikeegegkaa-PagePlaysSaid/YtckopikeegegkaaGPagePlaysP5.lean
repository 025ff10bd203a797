/- Texts of one proof, one behind the other: Ref4c, Ref4d, Steps4, Ref3i, DiskPlays, PageTorn. No condition. -/
import Derived.Test.YtckopikeegegkaaGPagePlaysP4
/- REF4C: the reference's pages: Root. -/
namespace Go.Proofs.Ytckopikeegegkaa
open Go.RowKit Go.MapKept Go.Shelf
set_option linter.unusedSimpArgs false
set_option linter.unusedVariables false
section
variable {r lo hi : Nat} {D : Dk}
abbrev mk0 : List Value := [.bool false, .int .i64 0, .int .i64 0]
theorem hasRoot_test (D : Dk) (n : Int) : hasRoot D n = false → (n < 0 ∨ ¬ n < 0 ∧ 1 < n ∨ ¬ n < 0 ∧ ¬ 1 < n ∧ hasPage D n = false) := by
  intro h
  simp only [hasRoot, Bool.and_eq_false_iff, decide_eq_false_iff_not] at h
  by_cases h0 : n < 0
  · exact .inl h0
  · by_cases h1 : 1 < n
    · exact .inr (.inl ⟨h0, h1⟩)
    · refine .inr (.inr ⟨h0, h1, ?_⟩)
      rcases h with h | h
      · omega
      · exact h
theorem zero_mark (w : World) : (zeroValue 79).run Try.prog w = .ok (.agg mk0.toArray) w := by kernel_rfl
theorem build_mark0 (w : World) : (Instr.build 79 #[]).run Try.prog w = .ok (.agg mk0.toArray) w := by kernel_rfl
theorem bigTo_le (t : Str) : ∀ {i j : Nat}, i ≤ j → bigTo t i ≤ bigTo t j
  | i, 0, h => by have : i = 0 := by omega
                  subst this; exact Nat.le_refl _
  | i, j + 1, h => by
    by_cases e : i = j + 1
    · subst e; exact Nat.le_refl _
    · have := bigTo_le t (i := i) (j := j) (by omega)
      rw [bigTo]; omega
theorem big_step (E : Nat) (b : UInt8) (h : E ≤ 1099511627776) : IntKind.i64.wrap (IntKind.i64.wrap ((E : Int) * 256) + IntKind.i64.wrap (b.toNat : Int)) = ((E * 256 + b.toNat : Nat) : Int) := by
  have := b.toNat_lt
  rw [IntWalk.i64_in ((E : Int) * 256) (by omega), IntWalk.i64_in (b.toNat : Int) (by omega), IntWalk.i64_in _ (by omega)]
  omega
theorem run_idx {P : Program} {w : World} (t : TypeId) (s : Str) (i : Int) (k : Nat) (hk : k < s.length) (hi : i = k) (hu : P.underlying t = some .string) :
    (Instr.index t (.string (bs s)) (.int .i64 i)).run P w = .ok (.int .u8 (s.getD k 0).toNat) w := by
  subst hi
  rw [run_index_string w t (bs s) .i64 k hu, dif_pos (by rw [bs_size]; omega)]
  simp only [Int.toNat_natCast, bs_get s k (by rw [bs_size]; omega)]
set_option maxRecDepth 20000 in
set_option maxHeartbeats 4000000 in
theorem rproot_none (n : Int) (w : World) (h : RefAt w r lo hi D) (hw : D.Wf) (hh : hasRoot D n = false) : Calls Try.prog 45 #[.pointer (some ⟨r, 0, none⟩), .int .i64 n] w fun e w' =>
    e = .returned (.tuple #[.agg #[.bool false, .int .i64 0, .int .i64 0], .int .i64 5]) ∧ Keeps noB w w' := by
  have h0 := heap_alloc_eq w (.cells mk0.toArray 79) _ rfl
  have hk : Keeps noB w (w.alloc (.cells mk0.toArray 79)) := (Keeps.refl _ _).alloc _
  have hi1 := ris_calls n _ (h.alloc (.cells mk0.toArray 79)) hw
  rcases hasRoot_test D n hh with a | ⟨a, b⟩ | ⟨a, b, c⟩
  · have d1 : decide (n < 0) = true := by simpa using a
    clear hh hi1
    go_enter Try.func45, Try.ntmps45
    go_wp2_with ((with_reducible apply wpl_store_all 79 (n := 3) (vs := mk0) (hs := Try.sizeOf79) (L := mk0) (t := 79)); rfl; go_must (rfl; rfl; exact h0; rfl; (intro v hv; simp at hv; rcases hv with rfl | rfl | rfl <;> rfl); rfl; rfl))
    exact bodyPost_ret (results_mark rfl _ _ w.heap.size mk0 79 (0, 0) 3 rfl Try.isAgg79 Try.sizeOf79 (setRow_eq _ _ _ mk0.toArray _ _ h0) rfl) rfl ⟨rfl, hk.setRow (fun q => by omega) _⟩
  · have d1 : decide (n < 0) = false := by simpa using a
    have d2 : decide (1 < n) = true := by simpa using b
    clear hh hi1
    go_enter Try.func45, Try.ntmps45
    go_wp2_with ((with_reducible apply wpl_store_all 79 (n := 3) (vs := mk0) (hs := Try.sizeOf79) (L := mk0) (t := 79)); rfl; go_must (rfl; rfl; exact h0; rfl; (intro v hv; simp at hv; rcases hv with rfl | rfl | rfl <;> rfl); rfl; rfl))
    exact bodyPost_ret (results_mark rfl _ _ w.heap.size mk0 79 (0, 0) 3 rfl Try.isAgg79 Try.sizeOf79 (setRow_eq _ _ _ mk0.toArray _ _ h0) rfl) rfl ⟨rfl, hk.setRow (fun q => by omega) _⟩
  · have d1 : decide (n < 0) = false := by simpa using a
    have d2 : decide (1 < n) = false := by simpa using b
    rw [c] at hi1
    clear hh c
    go_enter Try.func45, Try.ntmps45
    go_wp2_with (first | (go_at_call 66; refine hi1.mono ?_; rintro e w' ⟨rfl, rfl⟩) | ((with_reducible apply wpl_store_all 79 (n := 3) (vs := mk0) (hs := Try.sizeOf79) (L := mk0) (t := 79)); rfl; go_must (rfl; rfl; exact h0; rfl; (intro v hv; simp at hv; rcases hv with rfl | rfl | rfl <;> rfl); rfl; rfl)))
    exact bodyPost_ret (results_mark rfl _ _ w.heap.size mk0 79 (0, 0) 3 rfl Try.isAgg79 Try.sizeOf79 (setRow_eq _ _ _ mk0.toArray _ _ h0) rfl) rfl ⟨rfl, hk.setRow (fun q => by omega) _⟩
set_option maxRecDepth 20000 in
set_option maxHeartbeats 8000000 in
theorem rproot_good (n : Nat) (w : World) (h : RefAt w r lo hi D) (hw : D.Wf) (hh : hasRoot D n = true) : Calls Try.prog 45 #[.pointer (some ⟨r, 0, none⟩), .int .i64 n] w fun e w' =>
    e = .returned (.tuple #[encM (rootOf (D.now (4 * n))), .int .i64 0]) ∧ Keeps noB w w' := by
  have h0 := heap_alloc_eq w (.cells mk0.toArray 79) _ rfl
  have hk : Keeps noB w (w.alloc (.cells mk0.toArray 79)) := (Keeps.refl _ _).alloc _
  have hR := h.alloc (.cells mk0.toArray 79)
  have hi1 := ris_calls n _ hR hw
  simp only [hasRoot, Bool.and_eq_true, decide_eq_true_eq] at hh
  obtain ⟨hn1, hp⟩ := hh
  rw [hp] at hi1
  have hn2 : n < D.there.length / 4 := by unfold hasPage pages at hp; simp at hp; omega
  clear hp
  have d1 : decide ((n : Int) < 0) = false := by rw [decide_eq_false_iff_not]; omega
  have d2 : decide (1 < (n : Int)) = false := by rw [decide_eq_false_iff_not]; omega
  have hr := rread_calls (4 * (n : Int)) _ hR hw
  have er : D.read (4 * (n : Int)) = (D.now (4 * n), 0) := by
    have : D.has (4 * (n : Int)) = true := by simp [Dk.has]; omega
    simp only [Dk.read, this, if_true]
    congr 2
  rw [er] at hr
  have tl := now_length hw (n := 4 * n) (by omega)
  generalize D.now (4 * n) = tt at *
  clear er
  have hb0 := Lib.hid (byte_one (tt.getD 0 0))
  have hg0 := Lib.hid (bs_get tt 0 (by simp; omega))
  go_enter Try.func45, Try.ntmps45
  go_wp2_with (first | (go_at_call 66; refine hi1.mono ?_; rintro e w' ⟨rfl, rfl⟩) | (go_at_call 52; refine hr.mono ?_; rintro e w' ⟨rfl, rfl⟩))
  rw [hg0.out, hb0.out]
  obtain ⟨on, hon⟩ : ∃ on, (tt.getD 0 0 == 1) = on := ⟨_, rfl⟩
  rw [hon]
  have her : rootOf tt = ⟨on, if 1099511627776 < bigTo tt 8 then 0 else bigTo tt 8, if 1024 ≤ (tt.getD 9 0).toNat * 256 + (tt.getD 10 0).toNat then 0 else ((tt.getD 9 0).toNat * 256 + (tt.getD 10 0).toNat : Nat)⟩ := by
    rw [← hon, big_of tt tl, big_of2 tt tl]; rfl
  have Her := Lib.hid her
  clear her hon hb0 hg0 d1 d2 hi1 hr hn1 hn2
  have f4 : ((w.alloc (.cells mk0.toArray 79)).alloc (.cells #[.bool on, .int .i64 0, .int .i64 0] 79)).heap[w.heap.size]? = some (.cells mk0.toArray 79) := by simp (disch := (first | (simp only [World.size_alloc, World.size_setCell, World.size_drew, size_setRow, heap_drew, heap_drewN]; done) | ((try simp only [World.size_alloc, World.size_setCell, World.size_drew, size_setRow, heap_drew, heap_drewN]); omega))) only [heap_drew, heap_drewN, heap_alloc_ne, heap_alloc_eq, heap_setCell_ne, heap_setRow_ne]
  have f8 : ((w.alloc (.cells mk0.toArray 79)).alloc (.cells #[.bool on, .int .i64 0, .int .i64 0] 79)).heap[w.heap.size + 1]? = some (.cells (Array.mk [.bool on, .int .i64 (bigTo tt 0 : Nat), .int .i64 0]) 79) := by
    simp (disch := (first | (simp only [World.size_alloc, World.size_setCell, World.size_drew, size_setRow, heap_drew, heap_drewN]; done) | ((try simp only [World.size_alloc, World.size_setCell, World.size_drew, size_setRow, heap_drew, heap_drewN]); omega))) only [heap_drew, heap_drewN, heap_alloc_ne, heap_alloc_eq, heap_setCell_ne, heap_setRow_ne]
    rfl
  have hk1 := hk.alloc (.cells #[.bool on, .int .i64 0, .int .i64 0] 79)
  generalize ((w.alloc (.cells mk0.toArray 79)).alloc (.cells #[.bool on, .int .i64 0, .int .i64 0] 79)) = W1 at *
  clear h0 hk hR
  go_loopw [9] (fun i wr => ∃ k : Nat, k ≤ 8 ∧ i = .int .i64 ((k : Int) + 1) ∧ bigTo tt k < 2 ^ 49 ∧ wr.heap[w.heap.size]? = some (.cells mk0.toArray 79) ∧ wr.heap[w.heap.size + 1]? = some (.cells (Array.mk [.bool on, .int .i64 (bigTo tt k : Nat), .int .i64 0]) 79) ∧ Keeps noB w wr) (fun i _ => 10 - (intOf i).toNat)
  case atStart => exact ⟨0, by omega, rfl, by simp [bigTo], f4, f8, hk1⟩
  case round =>
    clear f4 f8 hk1
    obtain ⟨k, hk8, rfl, hb, f4, f8, hk⟩ := hrel
    have c1 := cell_blk f8 1 (.int .i64 (bigTo tt k : Nat)) rfl
    have z1 := frozen_blk f8 1
    have tk := bs_get tt (k + 1)
    by_cases c : k < 8 ∧ bigTo tt k ≤ 1099511627776
    · obtain ⟨ck, cb⟩ := c
      have d1 : decide ((k : Int) + 1 ≤ 8) = true := by rw [decide_eq_true_eq]; omega
      have d2 : decide (1099511627776 < ((bigTo tt k : Nat) : Int)) = false := by rw [decide_eq_false_iff_not]; omega
      have hs := Lib.hid (show bigTo tt (k + 1) = bigTo tt k * 256 + (tt.getD (1 + k) 0).toNat from rfl)
      have hu := (tt.getD (1 + k) 0).toNat_lt
      have hix := fun W => run_idx (P := Try.prog) (w := W) 9 tt ((k : Int) + 1) (1 + k) (by omega) (by omega) Try.underlying9
      generalize bigTo tt k = E at *
      generalize tt.getD (1 + k) 0 = b at *
      have Hix := Lib.hid hix
      have hbs := Lib.hid (big_step E b cb)
      clear hix
      go_wp2_with fail
      refine wp_region_late [9] [(0, true), (1, true), (2, true), (3, true), (4, true), (5, true), (6, true), (7, true), (8, true), (9, false)] (fun W' => W'.cell? ⟨w.heap.size + 1, 1, none⟩ = some (.int .i64 (E : Nat))) (by kernel_rfl) (by kernel_rfl) (fun d _ _ _ _ h => by cases d <;> exact h) c1 ?_
      iterate 5 (apply wpLate_take; rfl; rfl; (intro W hS; (try dsimp only at hS); (try (have hS1 := hS.1; have hS2 := hS.2)); go_simp; exact rfl); try simp only [Act.put, List.setIfInBounds_toArray, List.set_cons_succ, List.set_cons_zero])
      (apply wpLate_take (v := .int .u8 b.toNat); rfl; rfl; (intro W hS; exact exec_run (s := Instr.index 9 (.string (bs tt)) (.int .i64 ((k : Int) + 1))) rfl (Hix.out W)); try simp only [Act.put, List.setIfInBounds_toArray, List.set_cons_succ, List.set_cons_zero])
      iterate 3 (apply wpLate_take; rfl; rfl; (intro W hS; (try dsimp only at hS); (try (have hS1 := hS.1; have hS2 := hS.2)); go_simp; exact rfl); try simp only [Act.put, List.setIfInBounds_toArray, List.set_cons_succ, List.set_cons_zero])
      rw [hbs.out, ← hs.out]
      apply wpLate_goL; rfl; intro K hK
      go_wp2_with fail
      refine hK _ _ (fun h => absurd h (by decide)) ?_
      clear hK K
      apply wpLate_done
      go_wp2_with fail
      refine ⟨⟨k + 1, by omega, by simp, by rw [hs.out]; omega, ?_, ?_, hk.drew.setCell (a := ⟨w.heap.size + 1, 1, none⟩) (fun q => by simp only [] at q; omega) _⟩, by simp [intOf]; omega⟩
      · exact (heap_setCell_ne wr _ _ _ _ (by omega)).trans f4
      · exact cells3_set1 f8
    · have hEE : (if 1099511627776 < bigTo tt 8 then (0 : Int) else (bigTo tt 8 : Nat)) = (if 1099511627776 < bigTo tt k then (0 : Int) else (bigTo tt k : Nat)) := by
        by_cases c8 : k = 8
        · rw [c8]
        · have := bigTo_le tt (i := k) (j := 8) hk8
          rw [if_pos (by omega), if_pos (by omega)]
      have her := Her.out
      rw [hEE] at her
      clear Her hEE
      have hix9 := Lib.hid (fun W => run_idx (P := Try.prog) (w := W) 9 tt 9 9 (by omega) rfl Try.underlying9)
      have hix10 := Lib.hid (fun W => run_idx (P := Try.prog) (w := W) 9 tt 10 10 (by omega) rfl Try.underlying9)
      have hbs := Lib.hid (big_step (tt.getD 9 0).toNat (tt.getD 10 0) (by have := (tt.getD 9 0).toNat_lt; omega))
      have hb9 := Lib.hid (IntWalk.i64_in ((tt.getD 9 0).toNat : Int) (by have := (tt.getD 9 0).toNat_lt; omega))
      have hc : k < 8 → 1099511627776 < bigTo tt k := by omega
      have hG16 : (tt.getD 9 0).toNat * 256 + (tt.getD 10 0).toNat < 65536 := by have := (tt.getD 9 0).toNat_lt; have := (tt.getD 10 0).toNat_lt; omega
      generalize bigTo tt k = E at *
      generalize tt.getD 9 0 = b9 at *
      generalize tt.getD 10 0 = b10 at *
      obtain ⟨G, hG⟩ : ∃ G : Nat, b9.toNat * 256 + b10.toNat = G := ⟨_, rfl⟩
      rw [hG] at her hbs hG16
      have HG := Lib.hid hG
      have Her := Lib.hid her
      clear hG her tk
      have z2 := frozen_blk f8 2
      have c2 := cell_blk f8 2 (.int .i64 0) rfl
      by_cases ck : k < 8
      · have d1 : decide ((k : Int) + 1 ≤ 8) = true := by rw [decide_eq_true_eq]; omega
        have d2 : decide (1099511627776 < ((E : Nat) : Int)) = true := by rw [decide_eq_true_eq]; have := hc ck; omega
        clear hc c
        go_wp2_with fail
        refine wp_region_text [(0, true), (1, true), (2, true), (3, true), (4, true), (5, true), (6, true), (7, true), (8, true), (9, false)] (fun _ => True) (by kernel_rfl) (by kernel_rfl) (fun d _ _ _ _ h => by cases d <;> exact h) trivial ?_
        iterate 1 (apply wpText_take; rfl; rfl; (intro W hS; (try dsimp only at hS); (try (have hS1 := hS.1; have hS2 := hS.2)); go_simp; exact rfl); try simp only [Act.put, List.setIfInBounds_toArray, List.set_cons_succ, List.set_cons_zero])
        (apply wpText_take (v := .int .u8 b9.toNat); rfl; rfl; (intro W hS; exact exec_run (s := Instr.index 9 (.string (bs tt)) (.int .i64 9)) rfl (hix9.out W)); try simp only [Act.put, List.setIfInBounds_toArray, List.set_cons_succ, List.set_cons_zero])
        iterate 3 (apply wpText_take; rfl; rfl; (intro W hS; (try dsimp only at hS); (try (have hS1 := hS.1; have hS2 := hS.2)); go_simp; exact rfl); try simp only [Act.put, List.setIfInBounds_toArray, List.set_cons_succ, List.set_cons_zero])
        (apply wpText_take (v := .int .u8 b10.toNat); rfl; rfl; (intro W hS; exact exec_run (s := Instr.index 9 (.string (bs tt)) (.int .i64 10)) rfl (hix10.out W)); try simp only [Act.put, List.setIfInBounds_toArray, List.set_cons_succ, List.set_cons_zero])
        iterate 3 (apply wpText_take; rfl; rfl; (intro W hS; (try dsimp only at hS); (try (have hS1 := hS.1; have hS2 := hS.2)); go_simp; exact rfl); try simp only [Act.put, List.setIfInBounds_toArray, List.set_cons_succ, List.set_cons_zero])
        rw [hb9.out, hbs.out]
        apply wpText_goL; rfl; intro K hK
        go_wp2_with fail
        refine hK _ _ trivial ?_
        clear hK K
        apply wpText_done
        have f3 : (wr.setCell ⟨w.heap.size + 1, 2, none⟩ (.int .i64 (G : Nat))).drew.heap[w.heap.size + 1]? = some (.cells (Array.mk [.bool on, .int .i64 (E : Nat), .int .i64 (G : Nat)]) 79) := cells3_set2 f8
        replace f4 : (wr.setCell ⟨w.heap.size + 1, 2, none⟩ (.int .i64 (G : Nat))).drew.heap[w.heap.size]? = some (.cells mk0.toArray 79) := (heap_setCell_ne wr _ _ _ _ (by omega)).trans f4
        have k3 : Keeps noB w (wr.setCell ⟨w.heap.size + 1, 2, none⟩ (.int .i64 (G : Nat))).drew := (hk.setCell (a := ⟨w.heap.size + 1, 2, none⟩) (fun q => by simp only [] at q; omega) _).drew
        generalize (wr.setCell ⟨w.heap.size + 1, 2, none⟩ (.int .i64 (G : Nat))).drew = W3 at *
        have z1' := frozen_blk f3 1
        have z2' := frozen_blk f3 2
        have c1' := cell_blk f3 1 (.int .i64 (E : Nat)) rfl
        have c2' := cell_blk f3 2 (.int .i64 (G : Nat)) rfl
        have her := Her.out
        clear Her f8 c1 z1 z2 c2 hk d1 hbs hb9 hix9 hix10
        (try clear d2)
        by_cases q5 : 1099511627776 < E <;> by_cases q6 : 1024 ≤ G
        · have d5 : decide (1099511627776 < ((E : Nat) : Int)) = true := by simp; omega
          have d6 : decide (1023 < ((G : Nat) : Int)) = true := by simp; omega
          have e5 : (if 1099511627776 < E then (0 : Int) else (E : Nat)) = 0 := by rw [if_pos q5]
          have e6 : (if 1024 ≤ G then (0 : Int) else (G : Nat)) = 0 := by rw [if_pos q6]
          rw [e5, e6] at her
          have Her := Lib.hid her
          clear her e5 e6 q5 q6
          have f5 : ((W3.setCell ⟨w.heap.size + 1, 1, none⟩ (.int .i64 0)).setCell ⟨w.heap.size + 1, 2, none⟩ (.int .i64 0)).heap[w.heap.size + 1]? = some (.cells (Array.mk [.bool on, .int .i64 0, .int .i64 0]) 79) := (cells3_set2 (cells3_set1 f3))
          have f6 : ((W3.setCell ⟨w.heap.size + 1, 1, none⟩ (.int .i64 0)).setCell ⟨w.heap.size + 1, 2, none⟩ (.int .i64 0)).heap[w.heap.size]? = some (.cells mk0.toArray 79) := ((heap_setCell_ne _ _ _ _ _ (by omega)).trans ((heap_setCell_ne _ _ _ _ _ (by omega)).trans f4))
          have k5 : Keeps noB w ((W3.setCell ⟨w.heap.size + 1, 1, none⟩ (.int .i64 0)).setCell ⟨w.heap.size + 1, 2, none⟩ (.int .i64 0)) := ((k3.setCell (a := ⟨w.heap.size + 1, 1, none⟩) (fun q => by simp only [] at q; omega) _).setCell (a := ⟨w.heap.size + 1, 2, none⟩) (fun q => by simp only [] at q; omega) _)
          go_wp2_with (first | ((with_reducible apply wpl_load_all 79 (n := 3) (hg := Try.isAgg79) (hs := Try.sizeOf79) (L := [.bool on, .int .i64 0, .int .i64 0]) (t := 79) (fr := (0, 0))); rfl; go_must (rfl; exact f5; rfl; rfl)) | ((with_reducible apply wpl_store_all 79 (n := 3) (vs := [.bool on, .int .i64 0, .int .i64 0]) (hs := Try.sizeOf79) (L := mk0) (t := 79)); rfl; go_must (rfl; rfl; exact f6; rfl; (intro v hv; simp at hv; rcases hv with rfl | rfl | rfl <;> rfl); rfl; rfl)))
          exact bodyPost_ret (results_mark rfl _ _ w.heap.size [.bool on, .int .i64 0, .int .i64 0] 79 (0, 0) 3 rfl Try.isAgg79 Try.sizeOf79 (setRow_eq _ _ _ _ _ _ f6) rfl) rfl ⟨by rw [Her.out]; rfl, k5.setRow (fun q => by omega) _⟩
        · have d5 : decide (1099511627776 < ((E : Nat) : Int)) = true := by simp; omega
          have d6 : decide (1023 < ((G : Nat) : Int)) = false := by simp; omega
          have e5 : (if 1099511627776 < E then (0 : Int) else (E : Nat)) = 0 := by rw [if_pos q5]
          have e6 : (if 1024 ≤ G then (0 : Int) else (G : Nat)) = (G : Nat) := by rw [if_neg q6]
          rw [e5, e6] at her
          have Her := Lib.hid her
          clear her e5 e6 q5 q6
          have f5 : (W3.setCell ⟨w.heap.size + 1, 1, none⟩ (.int .i64 0)).heap[w.heap.size + 1]? = some (.cells (Array.mk [.bool on, .int .i64 0, .int .i64 (G : Nat)]) 79) := (cells3_set1 f3)
          have f6 : (W3.setCell ⟨w.heap.size + 1, 1, none⟩ (.int .i64 0)).heap[w.heap.size]? = some (.cells mk0.toArray 79) := ((heap_setCell_ne _ _ _ _ _ (by omega)).trans f4)
          have k5 : Keeps noB w (W3.setCell ⟨w.heap.size + 1, 1, none⟩ (.int .i64 0)) := (k3.setCell (a := ⟨w.heap.size + 1, 1, none⟩) (fun q => by simp only [] at q; omega) _)
          go_wp2_with (first | ((with_reducible apply wpl_load_all 79 (n := 3) (hg := Try.isAgg79) (hs := Try.sizeOf79) (L := [.bool on, .int .i64 0, .int .i64 (G : Nat)]) (t := 79) (fr := (0, 0))); rfl; go_must (rfl; exact f5; rfl; rfl)) | ((with_reducible apply wpl_store_all 79 (n := 3) (vs := [.bool on, .int .i64 0, .int .i64 (G : Nat)]) (hs := Try.sizeOf79) (L := mk0) (t := 79)); rfl; go_must (rfl; rfl; exact f6; rfl; (intro v hv; simp at hv; rcases hv with rfl | rfl | rfl <;> rfl); rfl; rfl)))
          exact bodyPost_ret (results_mark rfl _ _ w.heap.size [.bool on, .int .i64 0, .int .i64 (G : Nat)] 79 (0, 0) 3 rfl Try.isAgg79 Try.sizeOf79 (setRow_eq _ _ _ _ _ _ f6) rfl) rfl ⟨by rw [Her.out]; rfl, k5.setRow (fun q => by omega) _⟩
        · have d5 : decide (1099511627776 < ((E : Nat) : Int)) = false := by simp; omega
          have d6 : decide (1023 < ((G : Nat) : Int)) = true := by simp; omega
          have e5 : (if 1099511627776 < E then (0 : Int) else (E : Nat)) = (E : Nat) := by rw [if_neg q5]
          have e6 : (if 1024 ≤ G then (0 : Int) else (G : Nat)) = 0 := by rw [if_pos q6]
          rw [e5, e6] at her
          have Her := Lib.hid her
          clear her e5 e6 q5 q6
          have f5 : (W3.setCell ⟨w.heap.size + 1, 2, none⟩ (.int .i64 0)).heap[w.heap.size + 1]? = some (.cells (Array.mk [.bool on, .int .i64 (E : Nat), .int .i64 0]) 79) := (cells3_set2 f3)
          have f6 : (W3.setCell ⟨w.heap.size + 1, 2, none⟩ (.int .i64 0)).heap[w.heap.size]? = some (.cells mk0.toArray 79) := ((heap_setCell_ne _ _ _ _ _ (by omega)).trans f4)
          have k5 : Keeps noB w (W3.setCell ⟨w.heap.size + 1, 2, none⟩ (.int .i64 0)) := (k3.setCell (a := ⟨w.heap.size + 1, 2, none⟩) (fun q => by simp only [] at q; omega) _)
          go_wp2_with (first | ((with_reducible apply wpl_load_all 79 (n := 3) (hg := Try.isAgg79) (hs := Try.sizeOf79) (L := [.bool on, .int .i64 (E : Nat), .int .i64 0]) (t := 79) (fr := (0, 0))); rfl; go_must (rfl; exact f5; rfl; rfl)) | ((with_reducible apply wpl_store_all 79 (n := 3) (vs := [.bool on, .int .i64 (E : Nat), .int .i64 0]) (hs := Try.sizeOf79) (L := mk0) (t := 79)); rfl; go_must (rfl; rfl; exact f6; rfl; (intro v hv; simp at hv; rcases hv with rfl | rfl | rfl <;> rfl); rfl; rfl)))
          exact bodyPost_ret (results_mark rfl _ _ w.heap.size [.bool on, .int .i64 (E : Nat), .int .i64 0] 79 (0, 0) 3 rfl Try.isAgg79 Try.sizeOf79 (setRow_eq _ _ _ _ _ _ f6) rfl) rfl ⟨by rw [Her.out]; rfl, k5.setRow (fun q => by omega) _⟩
        · have d5 : decide (1099511627776 < ((E : Nat) : Int)) = false := by simp; omega
          have d6 : decide (1023 < ((G : Nat) : Int)) = false := by simp; omega
          have e5 : (if 1099511627776 < E then (0 : Int) else (E : Nat)) = (E : Nat) := by rw [if_neg q5]
          have e6 : (if 1024 ≤ G then (0 : Int) else (G : Nat)) = (G : Nat) := by rw [if_neg q6]
          rw [e5, e6] at her
          have Her := Lib.hid her
          clear her e5 e6 q5 q6
          have f5 : W3.heap[w.heap.size + 1]? = some (.cells (Array.mk [.bool on, .int .i64 (E : Nat), .int .i64 (G : Nat)]) 79) := f3
          have f6 : W3.heap[w.heap.size]? = some (.cells mk0.toArray 79) := f4
          have k5 : Keeps noB w W3 := k3
          go_wp2_with (first | ((with_reducible apply wpl_load_all 79 (n := 3) (hg := Try.isAgg79) (hs := Try.sizeOf79) (L := [.bool on, .int .i64 (E : Nat), .int .i64 (G : Nat)]) (t := 79) (fr := (0, 0))); rfl; go_must (rfl; exact f5; rfl; rfl)) | ((with_reducible apply wpl_store_all 79 (n := 3) (vs := [.bool on, .int .i64 (E : Nat), .int .i64 (G : Nat)]) (hs := Try.sizeOf79) (L := mk0) (t := 79)); rfl; go_must (rfl; rfl; exact f6; rfl; (intro v hv; simp at hv; rcases hv with rfl | rfl | rfl <;> rfl); rfl; rfl)))
          exact bodyPost_ret (results_mark rfl _ _ w.heap.size [.bool on, .int .i64 (E : Nat), .int .i64 (G : Nat)] 79 (0, 0) 3 rfl Try.isAgg79 Try.sizeOf79 (setRow_eq _ _ _ _ _ _ f6) rfl) rfl ⟨by rw [Her.out]; rfl, k5.setRow (fun q => by omega) _⟩
      · have d1 : decide ((k : Int) + 1 ≤ 8) = false := by rw [decide_eq_false_iff_not]; omega
        clear hc c
        go_wp2_with fail
        refine wp_region_text [(0, true), (1, true), (2, true), (3, true), (4, true), (5, true), (6, true), (7, true), (8, true), (9, false)] (fun _ => True) (by kernel_rfl) (by kernel_rfl) (fun d _ _ _ _ h => by cases d <;> exact h) trivial ?_
        iterate 1 (apply wpText_take; rfl; rfl; (intro W hS; (try dsimp only at hS); (try (have hS1 := hS.1; have hS2 := hS.2)); go_simp; exact rfl); try simp only [Act.put, List.setIfInBounds_toArray, List.set_cons_succ, List.set_cons_zero])
        (apply wpText_take (v := .int .u8 b9.toNat); rfl; rfl; (intro W hS; exact exec_run (s := Instr.index 9 (.string (bs tt)) (.int .i64 9)) rfl (hix9.out W)); try simp only [Act.put, List.setIfInBounds_toArray, List.set_cons_succ, List.set_cons_zero])
        iterate 3 (apply wpText_take; rfl; rfl; (intro W hS; (try dsimp only at hS); (try (have hS1 := hS.1; have hS2 := hS.2)); go_simp; exact rfl); try simp only [Act.put, List.setIfInBounds_toArray, List.set_cons_succ, List.set_cons_zero])
        (apply wpText_take (v := .int .u8 b10.toNat); rfl; rfl; (intro W hS; exact exec_run (s := Instr.index 9 (.string (bs tt)) (.int .i64 10)) rfl (hix10.out W)); try simp only [Act.put, List.setIfInBounds_toArray, List.set_cons_succ, List.set_cons_zero])
        iterate 3 (apply wpText_take; rfl; rfl; (intro W hS; (try dsimp only at hS); (try (have hS1 := hS.1; have hS2 := hS.2)); go_simp; exact rfl); try simp only [Act.put, List.setIfInBounds_toArray, List.set_cons_succ, List.set_cons_zero])
        rw [hb9.out, hbs.out]
        apply wpText_goL; rfl; intro K hK
        go_wp2_with fail
        refine hK _ _ trivial ?_
        clear hK K
        apply wpText_done
        have f3 : (wr.setCell ⟨w.heap.size + 1, 2, none⟩ (.int .i64 (G : Nat))).drew.heap[w.heap.size + 1]? = some (.cells (Array.mk [.bool on, .int .i64 (E : Nat), .int .i64 (G : Nat)]) 79) := cells3_set2 f8
        replace f4 : (wr.setCell ⟨w.heap.size + 1, 2, none⟩ (.int .i64 (G : Nat))).drew.heap[w.heap.size]? = some (.cells mk0.toArray 79) := (heap_setCell_ne wr _ _ _ _ (by omega)).trans f4
        have k3 : Keeps noB w (wr.setCell ⟨w.heap.size + 1, 2, none⟩ (.int .i64 (G : Nat))).drew := (hk.setCell (a := ⟨w.heap.size + 1, 2, none⟩) (fun q => by simp only [] at q; omega) _).drew
        generalize (wr.setCell ⟨w.heap.size + 1, 2, none⟩ (.int .i64 (G : Nat))).drew = W3 at *
        have z1' := frozen_blk f3 1
        have z2' := frozen_blk f3 2
        have c1' := cell_blk f3 1 (.int .i64 (E : Nat)) rfl
        have c2' := cell_blk f3 2 (.int .i64 (G : Nat)) rfl
        have her := Her.out
        clear Her f8 c1 z1 z2 c2 hk d1 hbs hb9 hix9 hix10
        (try clear d2)
        by_cases q5 : 1099511627776 < E <;> by_cases q6 : 1024 ≤ G
        · have d5 : decide (1099511627776 < ((E : Nat) : Int)) = true := by simp; omega
          have d6 : decide (1023 < ((G : Nat) : Int)) = true := by simp; omega
          have e5 : (if 1099511627776 < E then (0 : Int) else (E : Nat)) = 0 := by rw [if_pos q5]
          have e6 : (if 1024 ≤ G then (0 : Int) else (G : Nat)) = 0 := by rw [if_pos q6]
          rw [e5, e6] at her
          have Her := Lib.hid her
          clear her e5 e6 q5 q6
          have f5 : ((W3.setCell ⟨w.heap.size + 1, 1, none⟩ (.int .i64 0)).setCell ⟨w.heap.size + 1, 2, none⟩ (.int .i64 0)).heap[w.heap.size + 1]? = some (.cells (Array.mk [.bool on, .int .i64 0, .int .i64 0]) 79) := (cells3_set2 (cells3_set1 f3))
          have f6 : ((W3.setCell ⟨w.heap.size + 1, 1, none⟩ (.int .i64 0)).setCell ⟨w.heap.size + 1, 2, none⟩ (.int .i64 0)).heap[w.heap.size]? = some (.cells mk0.toArray 79) := ((heap_setCell_ne _ _ _ _ _ (by omega)).trans ((heap_setCell_ne _ _ _ _ _ (by omega)).trans f4))
          have k5 : Keeps noB w ((W3.setCell ⟨w.heap.size + 1, 1, none⟩ (.int .i64 0)).setCell ⟨w.heap.size + 1, 2, none⟩ (.int .i64 0)) := ((k3.setCell (a := ⟨w.heap.size + 1, 1, none⟩) (fun q => by simp only [] at q; omega) _).setCell (a := ⟨w.heap.size + 1, 2, none⟩) (fun q => by simp only [] at q; omega) _)
          go_wp2_with (first | ((with_reducible apply wpl_load_all 79 (n := 3) (hg := Try.isAgg79) (hs := Try.sizeOf79) (L := [.bool on, .int .i64 0, .int .i64 0]) (t := 79) (fr := (0, 0))); rfl; go_must (rfl; exact f5; rfl; rfl)) | ((with_reducible apply wpl_store_all 79 (n := 3) (vs := [.bool on, .int .i64 0, .int .i64 0]) (hs := Try.sizeOf79) (L := mk0) (t := 79)); rfl; go_must (rfl; rfl; exact f6; rfl; (intro v hv; simp at hv; rcases hv with rfl | rfl | rfl <;> rfl); rfl; rfl)))
          exact bodyPost_ret (results_mark rfl _ _ w.heap.size [.bool on, .int .i64 0, .int .i64 0] 79 (0, 0) 3 rfl Try.isAgg79 Try.sizeOf79 (setRow_eq _ _ _ _ _ _ f6) rfl) rfl ⟨by rw [Her.out]; rfl, k5.setRow (fun q => by omega) _⟩
        · have d5 : decide (1099511627776 < ((E : Nat) : Int)) = true := by simp; omega
          have d6 : decide (1023 < ((G : Nat) : Int)) = false := by simp; omega
          have e5 : (if 1099511627776 < E then (0 : Int) else (E : Nat)) = 0 := by rw [if_pos q5]
          have e6 : (if 1024 ≤ G then (0 : Int) else (G : Nat)) = (G : Nat) := by rw [if_neg q6]
          rw [e5, e6] at her
          have Her := Lib.hid her
          clear her e5 e6 q5 q6
          have f5 : (W3.setCell ⟨w.heap.size + 1, 1, none⟩ (.int .i64 0)).heap[w.heap.size + 1]? = some (.cells (Array.mk [.bool on, .int .i64 0, .int .i64 (G : Nat)]) 79) := (cells3_set1 f3)
          have f6 : (W3.setCell ⟨w.heap.size + 1, 1, none⟩ (.int .i64 0)).heap[w.heap.size]? = some (.cells mk0.toArray 79) := ((heap_setCell_ne _ _ _ _ _ (by omega)).trans f4)
          have k5 : Keeps noB w (W3.setCell ⟨w.heap.size + 1, 1, none⟩ (.int .i64 0)) := (k3.setCell (a := ⟨w.heap.size + 1, 1, none⟩) (fun q => by simp only [] at q; omega) _)
          go_wp2_with (first | ((with_reducible apply wpl_load_all 79 (n := 3) (hg := Try.isAgg79) (hs := Try.sizeOf79) (L := [.bool on, .int .i64 0, .int .i64 (G : Nat)]) (t := 79) (fr := (0, 0))); rfl; go_must (rfl; exact f5; rfl; rfl)) | ((with_reducible apply wpl_store_all 79 (n := 3) (vs := [.bool on, .int .i64 0, .int .i64 (G : Nat)]) (hs := Try.sizeOf79) (L := mk0) (t := 79)); rfl; go_must (rfl; rfl; exact f6; rfl; (intro v hv; simp at hv; rcases hv with rfl | rfl | rfl <;> rfl); rfl; rfl)))
          exact bodyPost_ret (results_mark rfl _ _ w.heap.size [.bool on, .int .i64 0, .int .i64 (G : Nat)] 79 (0, 0) 3 rfl Try.isAgg79 Try.sizeOf79 (setRow_eq _ _ _ _ _ _ f6) rfl) rfl ⟨by rw [Her.out]; rfl, k5.setRow (fun q => by omega) _⟩
        · have d5 : decide (1099511627776 < ((E : Nat) : Int)) = false := by simp; omega
          have d6 : decide (1023 < ((G : Nat) : Int)) = true := by simp; omega
          have e5 : (if 1099511627776 < E then (0 : Int) else (E : Nat)) = (E : Nat) := by rw [if_neg q5]
          have e6 : (if 1024 ≤ G then (0 : Int) else (G : Nat)) = 0 := by rw [if_pos q6]
          rw [e5, e6] at her
          have Her := Lib.hid her
          clear her e5 e6 q5 q6
          have f5 : (W3.setCell ⟨w.heap.size + 1, 2, none⟩ (.int .i64 0)).heap[w.heap.size + 1]? = some (.cells (Array.mk [.bool on, .int .i64 (E : Nat), .int .i64 0]) 79) := (cells3_set2 f3)
          have f6 : (W3.setCell ⟨w.heap.size + 1, 2, none⟩ (.int .i64 0)).heap[w.heap.size]? = some (.cells mk0.toArray 79) := ((heap_setCell_ne _ _ _ _ _ (by omega)).trans f4)
          have k5 : Keeps noB w (W3.setCell ⟨w.heap.size + 1, 2, none⟩ (.int .i64 0)) := (k3.setCell (a := ⟨w.heap.size + 1, 2, none⟩) (fun q => by simp only [] at q; omega) _)
          go_wp2_with (first | ((with_reducible apply wpl_load_all 79 (n := 3) (hg := Try.isAgg79) (hs := Try.sizeOf79) (L := [.bool on, .int .i64 (E : Nat), .int .i64 0]) (t := 79) (fr := (0, 0))); rfl; go_must (rfl; exact f5; rfl; rfl)) | ((with_reducible apply wpl_store_all 79 (n := 3) (vs := [.bool on, .int .i64 (E : Nat), .int .i64 0]) (hs := Try.sizeOf79) (L := mk0) (t := 79)); rfl; go_must (rfl; rfl; exact f6; rfl; (intro v hv; simp at hv; rcases hv with rfl | rfl | rfl <;> rfl); rfl; rfl)))
          exact bodyPost_ret (results_mark rfl _ _ w.heap.size [.bool on, .int .i64 (E : Nat), .int .i64 0] 79 (0, 0) 3 rfl Try.isAgg79 Try.sizeOf79 (setRow_eq _ _ _ _ _ _ f6) rfl) rfl ⟨by rw [Her.out]; rfl, k5.setRow (fun q => by omega) _⟩
        · have d5 : decide (1099511627776 < ((E : Nat) : Int)) = false := by simp; omega
          have d6 : decide (1023 < ((G : Nat) : Int)) = false := by simp; omega
          have e5 : (if 1099511627776 < E then (0 : Int) else (E : Nat)) = (E : Nat) := by rw [if_neg q5]
          have e6 : (if 1024 ≤ G then (0 : Int) else (G : Nat)) = (G : Nat) := by rw [if_neg q6]
          rw [e5, e6] at her
          have Her := Lib.hid her
          clear her e5 e6 q5 q6
          have f5 : W3.heap[w.heap.size + 1]? = some (.cells (Array.mk [.bool on, .int .i64 (E : Nat), .int .i64 (G : Nat)]) 79) := f3
          have f6 : W3.heap[w.heap.size]? = some (.cells mk0.toArray 79) := f4
          have k5 : Keeps noB w W3 := k3
          go_wp2_with (first | ((with_reducible apply wpl_load_all 79 (n := 3) (hg := Try.isAgg79) (hs := Try.sizeOf79) (L := [.bool on, .int .i64 (E : Nat), .int .i64 (G : Nat)]) (t := 79) (fr := (0, 0))); rfl; go_must (rfl; exact f5; rfl; rfl)) | ((with_reducible apply wpl_store_all 79 (n := 3) (vs := [.bool on, .int .i64 (E : Nat), .int .i64 (G : Nat)]) (hs := Try.sizeOf79) (L := mk0) (t := 79)); rfl; go_must (rfl; rfl; exact f6; rfl; (intro v hv; simp at hv; rcases hv with rfl | rfl | rfl <;> rfl); rfl; rfl)))
          exact bodyPost_ret (results_mark rfl _ _ w.heap.size [.bool on, .int .i64 (E : Nat), .int .i64 (G : Nat)] 79 (0, 0) 3 rfl Try.isAgg79 Try.sizeOf79 (setRow_eq _ _ _ _ _ _ f6) rfl) rfl ⟨by rw [Her.out]; rfl, k5.setRow (fun q => by omega) _⟩
theorem rproot_calls (n : Int) (w : World) (h : RefAt w r lo hi D) (hw : D.Wf) : Calls Try.prog 45 #[.pointer (some ⟨r, 0, none⟩), .int .i64 n] w fun e w' =>
    e = .returned (.tuple #[encM (pgRoot D n).1, .int .i64 (pgRoot D n).2]) ∧ Keeps noB w w' := by
  cases hh : hasRoot D n with
  | false =>
    have e : pgRoot D n = (⟨false, 0, 0⟩, 5) := by simp [pgRoot, hh]
    rw [e]; exact rproot_none n w h hw hh
  | true =>
    have h0 : 0 ≤ n := by
      unfold hasRoot hasPage at hh
      simp at hh; omega
    obtain ⟨m, rfl⟩ : ∃ m : Nat, n = m := ⟨n.toNat, by omega⟩
    have e : pgRoot D m = (rootOf (D.now (4 * m)), 0) := by simp [pgRoot, hh]
    rw [e]; exact rproot_good m w h hw hh
end
end Go.Proofs.Ytckopikeegegkaa
/- REF4D: the reference's pages: SetRoot. -/
namespace Go.Proofs.Ytckopikeegegkaa
open Go.RowKit Go.MapKept Go.Shelf
set_option linter.unusedSimpArgs false
set_option linter.unusedVariables false
section
variable {r lo hi : Nat} {D : Dk}
set_option maxRecDepth 20000 in
set_option maxHeartbeats 4000000 in
theorem rsetRoot_none (n : Int) (k : Mk) (w : World) (h : RefAt w r lo hi D) (hw : D.Wf) (hh : hasRoot D n = false) : Calls Try.prog 46 #[.pointer (some ⟨r, 0, none⟩), .int .i64 n, .agg #[.bool k.on, .int .i64 k.epoch, .int .i64 k.page]] w fun e w' =>
    e = .returned (.int .i64 5) ∧ RefAt w' r lo hi D ∧ Keeps noB w w' := by
  have hR := h.alloc (.cells #[.bool k.on, .int .i64 k.epoch, .int .i64 k.page] 79)
  have hk : Keeps noB w (w.alloc (.cells #[.bool k.on, .int .i64 k.epoch, .int .i64 k.page] 79)) := (Keeps.refl _ _).alloc _
  have hi1 := ris_calls n _ hR hw
  rcases hasRoot_test D n hh with a | ⟨a, b⟩ | ⟨a, b, c⟩
  · have d1 : decide (n < 0) = true := by simpa using a
    clear hh hi1
    go_enter Try.func46, Try.ntmps46
    go_wp2
    go_ret
    exact ⟨rfl, hR, hk⟩
  · have d1 : decide (n < 0) = false := by simpa using a
    have d2 : decide (1 < n) = true := by simpa using b
    clear hh hi1
    go_enter Try.func46, Try.ntmps46
    go_wp2
    go_ret
    exact ⟨rfl, hR, hk⟩
  · have d1 : decide (n < 0) = false := by simpa using a
    have d2 : decide (1 < n) = false := by simpa using b
    rw [c] at hi1
    clear hh c
    go_enter Try.func46, Try.ntmps46
    go_wp2_with (go_at_call 66; refine hi1.mono ?_; rintro e w' ⟨rfl, rfl⟩)
    go_ret
    exact ⟨rfl, hR, hk⟩
set_option maxRecDepth 20000 in
set_option maxHeartbeats 4000000 in
theorem rsetRoot_bad (n : Int) (k : Mk) (w : World) (h : RefAt w r lo hi D) (hw : D.Wf) (hh : hasRoot D n = true) (hm : mayRoot k = false) : Calls Try.prog 46 #[.pointer (some ⟨r, 0, none⟩), .int .i64 n, .agg #[.bool k.on, .int .i64 k.epoch, .int .i64 k.page]] w fun e w' =>
    e = .returned (.int .i64 1) ∧ RefAt w' r lo hi D ∧ Keeps noB w w' := by
  have hR := h.alloc (.cells #[.bool k.on, .int .i64 k.epoch, .int .i64 k.page] 79)
  have hk : Keeps noB w (w.alloc (.cells #[.bool k.on, .int .i64 k.epoch, .int .i64 k.page] 79)) := (Keeps.refl _ _).alloc _
  have hi1 := ris_calls n _ hR hw
  have f0 := heap_alloc_eq w (.cells #[.bool k.on, .int .i64 k.epoch, .int .i64 k.page] 79) _ rfl
  simp only [hasRoot, Bool.and_eq_true, decide_eq_true_eq] at hh
  obtain ⟨hn1, hp⟩ := hh
  rw [hp] at hi1
  have hn2 : 0 ≤ n := by unfold hasPage at hp; simp at hp; omega
  clear hp
  have d1 : decide (n < 0) = false := by rw [decide_eq_false_iff_not]; omega
  have d2 : decide (1 < n) = false := by rw [decide_eq_false_iff_not]; omega
  obtain ⟨on, ep, pg⟩ := k
  dsimp only at *
  have c1 := cell_blk f0 1 (.int .i64 ep) rfl
  have c2 := cell_blk f0 2 (.int .i64 pg) rfl
  have hm' : ep < 0 ∨ ¬ ep < 0 ∧ 1099511627776 < ep ∨ ¬ ep < 0 ∧ ¬ 1099511627776 < ep ∧ pg < 0 ∨ ¬ ep < 0 ∧ ¬ 1099511627776 < ep ∧ ¬ pg < 0 ∧ 1023 < pg := by
    simp [mayRoot] at hm
    omega
  clear hm f0
  rcases hm' with a1 | ⟨a1, a2⟩ | ⟨a1, a2, a3⟩ | ⟨a1, a2, a3, a4⟩
  · have k1 : decide (ep < 0) = true := by simpa using a1
    go_enter Try.func46, Try.ntmps46
    go_wp2_with (go_at_call 66; refine hi1.mono ?_; rintro e w' ⟨rfl, rfl⟩)
    go_ret
    exact ⟨rfl, hR, hk⟩
  · have k1 : decide (ep < 0) = false := by simpa using a1
    have k2 : decide (1099511627776 < ep) = true := by simpa using a2
    go_enter Try.func46, Try.ntmps46
    go_wp2_with (go_at_call 66; refine hi1.mono ?_; rintro e w' ⟨rfl, rfl⟩)
    go_ret
    exact ⟨rfl, hR, hk⟩
  · have k1 : decide (ep < 0) = false := by simpa using a1
    have k2 : decide (1099511627776 < ep) = false := by simpa using a2
    have k3 : decide (pg < 0) = true := by simpa using a3
    go_enter Try.func46, Try.ntmps46
    go_wp2_with (go_at_call 66; refine hi1.mono ?_; rintro e w' ⟨rfl, rfl⟩)
    go_ret
    exact ⟨rfl, hR, hk⟩
  · have k1 : decide (ep < 0) = false := by simpa using a1
    have k2 : decide (1099511627776 < ep) = false := by simpa using a2
    have k3 : decide (pg < 0) = false := by simpa using a3
    have k4 : decide (1023 < pg) = true := by simpa using a4
    go_enter Try.func46, Try.ntmps46
    go_wp2_with (go_at_call 66; refine hi1.mono ?_; rintro e w' ⟨rfl, rfl⟩)
    go_ret
    exact ⟨rfl, hR, hk⟩
theorem page_vals (pg : Nat) (h : pg ≤ 1023) : IntKind.u8.wrap (IntKind.i64.wrap ((pg : Int) / 256)) = ((UInt8.ofNat (pg / 256)).toNat : Int) ∧ IntKind.u8.wrap ((pg : Int).tmod 256) = ((UInt8.ofNat (pg % 256)).toNat : Int) := by
  rw [IntWalk.i64_in _ (by omega), Int.tmod_eq_emod_of_nonneg (by omega)]
  simp [IntKind.wrap, IntKind.bits, IntKind.signed]
theorem div_256 (e k : Nat) : e / 256 ^ k / 256 = e / 256 ^ (k + 1) := by rw [Nat.div_div_eq_div_mul, Nat.pow_succ]
set_option maxRecDepth 20000 in
set_option maxHeartbeats 8000000 in
theorem rsetRoot_good (n : Nat) (on : Bool) (ep pg : Nat) (w : World) (h : RefAt w r lo hi D) (hw : D.Wf) (hh : hasRoot D n = true) (a1 : ep ≤ 1099511627776) (a2 : pg ≤ 1023) : Calls Try.prog 46 #[.pointer (some ⟨r, 0, none⟩), .int .i64 n, .agg #[.bool on, .int .i64 ep, .int .i64 pg]] w fun e w' =>
    e = .returned (.int .i64 (D.write (4 * n) (rootText ⟨on, ep, pg⟩)).1) ∧ RefAt w' r lo w'.heap.size (D.write (4 * n) (rootText ⟨on, ep, pg⟩)).2 ∧ Keeps (fun k => k = r) w w' := by
  have hR := h.alloc (.cells #[.bool on, .int .i64 ep, .int .i64 pg] 79)
  have hk : Keeps noB w (w.alloc (.cells #[.bool on, .int .i64 ep, .int .i64 pg] 79)) := (Keeps.refl _ _).alloc _
  have hi1 := ris_calls n _ hR hw
  have f0 := heap_alloc_eq w (.cells #[.bool on, .int .i64 ep, .int .i64 pg] 79) _ rfl
  simp only [hasRoot, Bool.and_eq_true, decide_eq_true_eq] at hh
  obtain ⟨hn1, hp⟩ := hh
  rw [hp] at hi1
  clear hp
  have d1 : decide ((n : Int) < 0) = false := by rw [decide_eq_false_iff_not]; omega
  have d2 : decide (1 < (n : Int)) = false := by rw [decide_eq_false_iff_not]; omega
  have c1 := cell_blk f0 1 (.int .i64 ep) rfl
  have c2 := cell_blk f0 2 (.int .i64 pg) rfl
  have k1 : decide ((ep : Int) < 0) = false := by rw [decide_eq_false_iff_not]; omega
  have k2 : decide (1099511627776 < (ep : Int)) = false := by rw [decide_eq_false_iff_not]; omega
  have k3 : decide ((pg : Int) < 0) = false := by rw [decide_eq_false_iff_not]; omega
  have k4 : decide (1023 < (pg : Int)) = false := by rw [decide_eq_false_iff_not]; omega
  cases on with
  | true =>
    go_enter Try.func46, Try.ntmps46
    go_wp2_with (first | (go_at_call 66; refine hi1.mono ?_; rintro e w' ⟨rfl, rfl⟩) | (with_reducible refine wpl_alloc 90 Z64 rfl zero_row64 rfl ?_))
    have f0' : ((w.alloc (.cells #[.bool true, .int .i64 ep, .int .i64 pg] 79)).alloc (.cells (Z64.set 0 (.int .u8 1)).toArray 90)).heap[w.heap.size]? = some (.cells #[.bool true, .int .i64 ep, .int .i64 pg] 79) := by simp (disch := (first | (simp only [World.size_alloc, World.size_setCell, World.size_drew, size_setRow, heap_drew, heap_drewN]; done) | ((try simp only [World.size_alloc, World.size_setCell, World.size_drew, size_setRow, heap_drew, heap_drewN]); omega))) only [heap_drew, heap_drewN, heap_alloc_ne, heap_alloc_eq, heap_setCell_ne, heap_setRow_ne]
    have f1 : ((w.alloc (.cells #[.bool true, .int .i64 ep, .int .i64 pg] 79)).alloc (.cells (Z64.set 0 (.int .u8 1)).toArray 90)).heap[w.heap.size + 1]? = some (.cells (encB (tx 1 ep (8 - 8))).toArray 90) := by
      simp (disch := (first | (simp only [World.size_alloc, World.size_setCell, World.size_drew, size_setRow, heap_drew, heap_drewN]; done) | ((try simp only [World.size_alloc, World.size_setCell, World.size_drew, size_setRow, heap_drew, heap_drewN]); omega))) only [heap_drew, heap_drewN, heap_alloc_ne, heap_alloc_eq, heap_setCell_ne, heap_setRow_ne]
      rfl
    have kw := hk.alloc (.cells (Z64.set 0 (.int .u8 1)).toArray 90)
    generalize ((w.alloc (.cells #[.bool true, .int .i64 ep, .int .i64 pg] 79)).alloc (.cells (Z64.set 0 (.int .u8 1)).toArray 90)) = W1 at *
    clear hi1 hk f0 c1 c2 hR d1 d2
    go_loopw [8, 9] (fun x i wr => ∃ j : Nat, j ≤ 8 ∧ i = .int .i64 (j : Nat) ∧ x = .int .i64 ((ep / 256 ^ (8 - j) : Nat) : Int) ∧ wr.heap[w.heap.size + 1]? = some (.cells (encB (tx 1 ep (8 - j))).toArray 90) ∧ wr.heap[w.heap.size]? = some (.cells #[.bool true, .int .i64 ep, .int .i64 pg] 79) ∧ Keeps noB w wr) (fun _ i _ => (intOf i).toNat)
    case atStart => exact ⟨8, by omega, rfl, by simp, f1, f0', kw⟩
    case round =>
      clear f0' f1 kw
      obtain ⟨j, hj, rfl, rfl, g1, g0, kr⟩ := hrel
      have tl := tx_length 1 ep (8 - j)
      by_cases hlt : 1 ≤ j
      · have d3 : decide (1 ≤ (j : Int)) = true := by rw [decide_eq_true_eq]; omega
        have c8 : wr.cell? ⟨w.heap.size + 1, j, none⟩ = (encB (tx 1 ep (8 - j)))[j]? := by simp [World.cell?, g1]
        have q8 : wr.frozen? ⟨w.heap.size + 1, j, none⟩ = false := by simp [World.frozen?, g1]
        rw [List.getElem?_eq_getElem (by rw [encB_length, tl]; omega)] at c8
        have e8 : 8 - (j - 1) = (8 - j) + 1 := by omega
        have ex : ep / 256 ^ (8 - j) ≤ 1099511627776 := Nat.le_trans (Nat.div_le_self _ _) a1
        have hb : ((ep / 256 ^ (8 - j) : Nat) : Int) % 256 = ((UInt8.ofNat (ep / 256 ^ (8 - j) % 256)).toNat : Int) := by
          simp
        have hdv : ((ep / 256 ^ (8 - j) : Nat) : Int) / 256 = ((ep / 256 ^ (8 - (j - 1)) : Nat) : Int) := by
          rw [e8, ← div_256]; omega
        have ht : tx 1 ep (8 - (j - 1)) = (tx 1 ep (8 - j)).set j (UInt8.ofNat (ep / 256 ^ (8 - j) % 256)) := by
          rw [e8, tx]; congr 1; omega
        have Hb := Lib.hid hb
        have Hdv := Lib.hid hdv
        have Ht := Lib.hid ht
        clear hb hdv ht e8
        generalize ep / 256 ^ (8 - j) = X at *
        go_wp2_with fail
        refine ⟨⟨j - 1, by omega, by congr 1; omega, by rw [← Hdv.out], ?_, ?_, kr.setCell (a := ⟨w.heap.size + 1, j, none⟩) (fun q => by simp only [] at q; omega) _⟩, by simp [intOf]; omega⟩
        · rw [heap_setCell_same wr _ _ _ _ _ g1, List.setIfInBounds_toArray, Hb.out, encB_set, Ht.out]
        · rw [heap_setCell_ne _ _ _ _ _ (by omega)]; exact g0
      · obtain rfl : j = 0 := by omega
        have d3 : decide (1 ≤ ((0 : Nat) : Int)) = false := by decide
        have c5 : wr.cell? ⟨w.heap.size, 2, none⟩ = some (.int .i64 pg) := by simp [World.cell?, g0]
        go_wp2_with fail
        refine wp_region_text [(0, true), (1, true), (2, true), (3, true), (4, true), (5, true), (6, true), (7, true), (8, true), (9, false), (10, true), (11, false)] (fun W' => W'.cell? ⟨w.heap.size, 2, none⟩ = some (.int .i64 pg)) (by kernel_rfl) (by kernel_rfl) (fun d _ _ _ _ h => by cases d <;> exact h) (by simpa using c5) ?_
        repeat (apply wpText_take; rfl; rfl; (intro W hS; (try dsimp only at hS); (try (have hS1 := hS.1; have hS2 := hS.2)); go_simp; exact rfl); try simp only [Act.put, List.setIfInBounds_toArray, List.set_cons_succ, List.set_cons_zero])
        obtain ⟨e1, e2⟩ := page_vals pg a2
        rw [e1, e2]
        apply wpText_goL; rfl; intro K hK
        apply wpl_store1 5 (v := .int .u8 (UInt8.ofNat (pg / 256)).toNat) (L := encB (tx 1 ep 8)) (t := 90); rfl; rfl; rfl; exact Try.sizeOf5; exact g1; rfl; rfl; (rw [encB_length, tx_length]; decide); rfl
        refine wpl_end (hK _ _ (by rw [cell_setRow_other _ _ _ _ (by simp only []; omega)]; simpa using c5) ?_)
        clear hK K
        try simp only [Act.put, List.setIfInBounds_toArray, List.set_cons_succ, List.set_cons_zero]
        repeat (apply wpText_take; rfl; rfl; (intro W hS; (try dsimp only at hS); (try (have hS1 := hS.1; have hS2 := hS.2)); go_simp; exact rfl); try simp only [Act.put, List.setIfInBounds_toArray, List.set_cons_succ, List.set_cons_zero])
        apply wpText_goL; rfl; intro K hK
        apply wpl_store1 5 (v := .int .u8 (UInt8.ofNat (pg % 256)).toNat) (L := (encB (tx 1 ep 8)).set 9 (.int .u8 (UInt8.ofNat (pg / 256)).toNat)) (t := 90); rfl; rfl; rfl; exact Try.sizeOf5; exact setRow_eq _ _ _ _ _ _ g1; rfl; rfl; (rw [List.length_set, encB_length, tx_length]; decide); rfl
        refine wpl_end (hK _ _ (by rw [cell_setRow_other _ _ _ _ (by simp only []; omega), cell_setRow_other _ _ _ _ (by simp only []; omega)]; simpa using c5) ?_)
        clear hK K
        try simp only [Act.put, List.setIfInBounds_toArray, List.set_cons_succ, List.set_cons_zero]
        apply wpText_done
        rw [setRow_setRow]
        have et : ((encB (tx 1 ep 8)).set 9 (.int .u8 (UInt8.ofNat (pg / 256)).toNat)).set 10 (.int .u8 (UInt8.ofNat (pg % 256)).toNat) = encB (rootText ⟨true, ep, pg⟩) := by
          rw [encB_set, encB_set]
          exact congrArg encB (tx_done true ep pg)
        rw [et]
        have g8 : (wr.drew.setRow (w.heap.size + 1) (encB (rootText ⟨true, ep, pg⟩)).toArray).heap[w.heap.size + 1]? = some (.cells (encB (rootText ⟨true, ep, pg⟩)).toArray 90) := setRow_eq _ _ _ _ _ _ g1
        have k8 : Keeps noB w (wr.drew.setRow (w.heap.size + 1) (encB (rootText ⟨true, ep, pg⟩)).toArray) := kr.drew.setRow (fun q => by omega) _
        have tl : (rootText ⟨true, ep, pg⟩).length = 64 := rootText_length _
        generalize htt : rootText ⟨true, ep, pg⟩ = tt at *
        have Htt := Lib.hid htt
        clear htt
        generalize wr.drew.setRow (w.heap.size + 1) (encB tt).toArray = W2 at *
        have hwr := rwrite_calls (4 * (n : Int)) tt W2 (h.held k8) hw
        clear et e1 e2
        have Hk := Lib.hid k8
        clear k8
        go_wp2_with (first | ((with_reducible apply wpl_bytes_all 35 9 5 (t := 90) (fr := (0, 0)) (s := tt) (hs := Try.underlying35) (he := Try.underlying5) (hd := Try.underlying9)); rfl; go_must (rfl; exact g8; exact tl; rfl)) | (go_at_call 47; refine hwr.mono ?_; rintro e w' ⟨rfl, d2, k2⟩))
        go_ret
        rw [Htt.out]
        exact ⟨rfl, d2, (Hk.out.mono (fun _ _ q => q.elim)).trans k2⟩
  | false =>
    go_enter Try.func46, Try.ntmps46
    go_wp2_with (first | (go_at_call 66; refine hi1.mono ?_; rintro e w' ⟨rfl, rfl⟩) | (with_reducible refine wpl_alloc 90 Z64 rfl zero_row64 rfl ?_))
    have f0' : ((w.alloc (.cells #[.bool false, .int .i64 ep, .int .i64 pg] 79)).alloc (.cells Z64.toArray 90)).heap[w.heap.size]? = some (.cells #[.bool false, .int .i64 ep, .int .i64 pg] 79) := by simp (disch := (first | (simp only [World.size_alloc, World.size_setCell, World.size_drew, size_setRow, heap_drew, heap_drewN]; done) | ((try simp only [World.size_alloc, World.size_setCell, World.size_drew, size_setRow, heap_drew, heap_drewN]); omega))) only [heap_drew, heap_drewN, heap_alloc_ne, heap_alloc_eq, heap_setCell_ne, heap_setRow_ne]
    have f1 : ((w.alloc (.cells #[.bool false, .int .i64 ep, .int .i64 pg] 79)).alloc (.cells Z64.toArray 90)).heap[w.heap.size + 1]? = some (.cells (encB (tx 0 ep (8 - 8))).toArray 90) := by
      simp (disch := (first | (simp only [World.size_alloc, World.size_setCell, World.size_drew, size_setRow, heap_drew, heap_drewN]; done) | ((try simp only [World.size_alloc, World.size_setCell, World.size_drew, size_setRow, heap_drew, heap_drewN]); omega))) only [heap_drew, heap_drewN, heap_alloc_ne, heap_alloc_eq, heap_setCell_ne, heap_setRow_ne]
      rfl
    have kw := hk.alloc (.cells Z64.toArray 90)
    generalize ((w.alloc (.cells #[.bool false, .int .i64 ep, .int .i64 pg] 79)).alloc (.cells Z64.toArray 90)) = W1 at *
    clear hi1 hk f0 c1 c2 hR d1 d2
    go_loopw [8, 9] (fun x i wr => ∃ j : Nat, j ≤ 8 ∧ i = .int .i64 (j : Nat) ∧ x = .int .i64 ((ep / 256 ^ (8 - j) : Nat) : Int) ∧ wr.heap[w.heap.size + 1]? = some (.cells (encB (tx 0 ep (8 - j))).toArray 90) ∧ wr.heap[w.heap.size]? = some (.cells #[.bool false, .int .i64 ep, .int .i64 pg] 79) ∧ Keeps noB w wr) (fun _ i _ => (intOf i).toNat)
    case atStart => exact ⟨8, by omega, rfl, by simp, f1, f0', kw⟩
    case round =>
      clear f0' f1 kw
      obtain ⟨j, hj, rfl, rfl, g1, g0, kr⟩ := hrel
      have tl := tx_length 0 ep (8 - j)
      by_cases hlt : 1 ≤ j
      · have d3 : decide (1 ≤ (j : Int)) = true := by rw [decide_eq_true_eq]; omega
        have c8 : wr.cell? ⟨w.heap.size + 1, j, none⟩ = (encB (tx 0 ep (8 - j)))[j]? := by simp [World.cell?, g1]
        have q8 : wr.frozen? ⟨w.heap.size + 1, j, none⟩ = false := by simp [World.frozen?, g1]
        rw [List.getElem?_eq_getElem (by rw [encB_length, tl]; omega)] at c8
        have e8 : 8 - (j - 1) = (8 - j) + 1 := by omega
        have ex : ep / 256 ^ (8 - j) ≤ 1099511627776 := Nat.le_trans (Nat.div_le_self _ _) a1
        have hb : ((ep / 256 ^ (8 - j) : Nat) : Int) % 256 = ((UInt8.ofNat (ep / 256 ^ (8 - j) % 256)).toNat : Int) := by
          simp
        have hdv : ((ep / 256 ^ (8 - j) : Nat) : Int) / 256 = ((ep / 256 ^ (8 - (j - 1)) : Nat) : Int) := by
          rw [e8, ← div_256]; omega
        have ht : tx 0 ep (8 - (j - 1)) = (tx 0 ep (8 - j)).set j (UInt8.ofNat (ep / 256 ^ (8 - j) % 256)) := by
          rw [e8, tx]; congr 1; omega
        have Hb := Lib.hid hb
        have Hdv := Lib.hid hdv
        have Ht := Lib.hid ht
        clear hb hdv ht e8
        generalize ep / 256 ^ (8 - j) = X at *
        go_wp2_with fail
        refine ⟨⟨j - 1, by omega, by congr 1; omega, by rw [← Hdv.out], ?_, ?_, kr.setCell (a := ⟨w.heap.size + 1, j, none⟩) (fun q => by simp only [] at q; omega) _⟩, by simp [intOf]; omega⟩
        · rw [heap_setCell_same wr _ _ _ _ _ g1, List.setIfInBounds_toArray, Hb.out, encB_set, Ht.out]
        · rw [heap_setCell_ne _ _ _ _ _ (by omega)]; exact g0
      · obtain rfl : j = 0 := by omega
        have d3 : decide (1 ≤ ((0 : Nat) : Int)) = false := by decide
        have c5 : wr.cell? ⟨w.heap.size, 2, none⟩ = some (.int .i64 pg) := by simp [World.cell?, g0]
        go_wp2_with fail
        refine wp_region_text [(0, true), (1, true), (2, true), (3, true), (4, true), (5, true), (6, true), (7, true), (8, true), (9, false), (10, true), (11, false)] (fun W' => W'.cell? ⟨w.heap.size, 2, none⟩ = some (.int .i64 pg)) (by kernel_rfl) (by kernel_rfl) (fun d _ _ _ _ h => by cases d <;> exact h) (by simpa using c5) ?_
        repeat (apply wpText_take; rfl; rfl; (intro W hS; (try dsimp only at hS); (try (have hS1 := hS.1; have hS2 := hS.2)); go_simp; exact rfl); try simp only [Act.put, List.setIfInBounds_toArray, List.set_cons_succ, List.set_cons_zero])
        obtain ⟨e1, e2⟩ := page_vals pg a2
        rw [e1, e2]
        apply wpText_goL; rfl; intro K hK
        apply wpl_store1 5 (v := .int .u8 (UInt8.ofNat (pg / 256)).toNat) (L := encB (tx 0 ep 8)) (t := 90); rfl; rfl; rfl; exact Try.sizeOf5; exact g1; rfl; rfl; (rw [encB_length, tx_length]; decide); rfl
        refine wpl_end (hK _ _ (by rw [cell_setRow_other _ _ _ _ (by simp only []; omega)]; simpa using c5) ?_)
        clear hK K
        try simp only [Act.put, List.setIfInBounds_toArray, List.set_cons_succ, List.set_cons_zero]
        repeat (apply wpText_take; rfl; rfl; (intro W hS; (try dsimp only at hS); (try (have hS1 := hS.1; have hS2 := hS.2)); go_simp; exact rfl); try simp only [Act.put, List.setIfInBounds_toArray, List.set_cons_succ, List.set_cons_zero])
        apply wpText_goL; rfl; intro K hK
        apply wpl_store1 5 (v := .int .u8 (UInt8.ofNat (pg % 256)).toNat) (L := (encB (tx 0 ep 8)).set 9 (.int .u8 (UInt8.ofNat (pg / 256)).toNat)) (t := 90); rfl; rfl; rfl; exact Try.sizeOf5; exact setRow_eq _ _ _ _ _ _ g1; rfl; rfl; (rw [List.length_set, encB_length, tx_length]; decide); rfl
        refine wpl_end (hK _ _ (by rw [cell_setRow_other _ _ _ _ (by simp only []; omega), cell_setRow_other _ _ _ _ (by simp only []; omega)]; simpa using c5) ?_)
        clear hK K
        try simp only [Act.put, List.setIfInBounds_toArray, List.set_cons_succ, List.set_cons_zero]
        apply wpText_done
        rw [setRow_setRow]
        have et : ((encB (tx 0 ep 8)).set 9 (.int .u8 (UInt8.ofNat (pg / 256)).toNat)).set 10 (.int .u8 (UInt8.ofNat (pg % 256)).toNat) = encB (rootText ⟨false, ep, pg⟩) := by
          rw [encB_set, encB_set]
          exact congrArg encB (tx_done false ep pg)
        rw [et]
        have g8 : (wr.drew.setRow (w.heap.size + 1) (encB (rootText ⟨false, ep, pg⟩)).toArray).heap[w.heap.size + 1]? = some (.cells (encB (rootText ⟨false, ep, pg⟩)).toArray 90) := setRow_eq _ _ _ _ _ _ g1
        have k8 : Keeps noB w (wr.drew.setRow (w.heap.size + 1) (encB (rootText ⟨false, ep, pg⟩)).toArray) := kr.drew.setRow (fun q => by omega) _
        have tl : (rootText ⟨false, ep, pg⟩).length = 64 := rootText_length _
        generalize htt : rootText ⟨false, ep, pg⟩ = tt at *
        have Htt := Lib.hid htt
        clear htt
        generalize wr.drew.setRow (w.heap.size + 1) (encB tt).toArray = W2 at *
        have hwr := rwrite_calls (4 * (n : Int)) tt W2 (h.held k8) hw
        clear et e1 e2
        have Hk := Lib.hid k8
        clear k8
        go_wp2_with (first | ((with_reducible apply wpl_bytes_all 35 9 5 (t := 90) (fr := (0, 0)) (s := tt) (hs := Try.underlying35) (he := Try.underlying5) (hd := Try.underlying9)); rfl; go_must (rfl; exact g8; exact tl; rfl)) | (go_at_call 47; refine hwr.mono ?_; rintro e w' ⟨rfl, d2, k2⟩))
        go_ret
        rw [Htt.out]
        exact ⟨rfl, d2, (Hk.out.mono (fun _ _ q => q.elim)).trans k2⟩
theorem rsetRoot_calls (n : Int) (k : Mk) (w : World) (h : RefAt w r lo hi D) (hw : D.Wf) : Calls Try.prog 46 #[.pointer (some ⟨r, 0, none⟩), .int .i64 n, .agg #[.bool k.on, .int .i64 k.epoch, .int .i64 k.page]] w fun e w' =>
    e = .returned (.int .i64 (pgSetRoot D n k).1) ∧ RefAt w' r lo w'.heap.size (pgSetRoot D n k).2 ∧ Keeps (fun k => k = r) w w' := by
  cases hh : hasRoot D n with
  | false =>
    have e : pgSetRoot D n k = (5, D) := by simp [pgSetRoot, hh]
    rw [e]
    exact (rsetRoot_none n k w h hw hh).mono (fun e w' ⟨h1, h2, h3⟩ => ⟨h1, h2.raise h2.lt.2.2.2 (Nat.le_refl _), h3.mono (fun _ _ q => q.elim)⟩)
  | true =>
    cases hm : mayRoot k with
    | false =>
      have e : pgSetRoot D n k = (1, D) := by simp [pgSetRoot, hh, hm]
      rw [e]
      exact (rsetRoot_bad n k w h hw hh hm).mono (fun e w' ⟨h1, h2, h3⟩ => ⟨h1, h2.raise h2.lt.2.2.2 (Nat.le_refl _), h3.mono (fun _ _ q => q.elim)⟩)
    | true =>
      have e : pgSetRoot D n k = D.write (4 * n) (rootText k) := by simp [pgSetRoot, hh, hm]
      rw [e]
      obtain ⟨on, ep, pg⟩ := k
      have hm' : 0 ≤ ep ∧ ep ≤ 1099511627776 ∧ 0 ≤ pg ∧ pg < 1024 := by simp [mayRoot] at hm; omega
      obtain ⟨a1, a2, a3, a4⟩ := hm'
      have h0 : 0 ≤ n := by
        unfold hasRoot hasPage at hh
        simp at hh; omega
      obtain ⟨m, rfl⟩ : ∃ m : Nat, n = m := ⟨n.toNat, by omega⟩
      obtain ⟨ep, rfl⟩ : ∃ m : Nat, ep = m := ⟨ep.toNat, by omega⟩
      obtain ⟨pg, rfl⟩ : ∃ m : Nat, pg = m := ⟨pg.toNat, by omega⟩
      exact rsetRoot_good m on ep pg w h hw hh (by omega) (by omega)
end
end Go.Proofs.Ytckopikeegegkaa
/- STEPS4: the steps of the pages' law, in memory; the contract of large. -/
namespace Go.Proofs.Ytckopikeegegkaa
open Go.RowKit Go.MapKept Go.Shelf
set_option linter.unusedSimpArgs false
set_option linter.unusedVariables false
structure Stp4 where
  kind : Int
  n : Int
  s : Str
  on : Bool
  ep : Int
  pg : Int
  keep : List Bool
  torn : Int
  cut : Int
  deriving Inhabited
def doStep4 (x : Stp4) (d : Dk) : Dk :=
  if x.kind = 0 then (pgWrite d x.n x.s).2 else if x.kind = 3 then (pgSetRoot d x.n ⟨x.on, x.ep, x.pg⟩).2 else if x.kind = 4 then (d.write x.n x.s).2 else if x.kind = 5 then d.flush.2 else if x.kind = 6 then (d.fuse x.n).2
  else if x.kind = 1 ∨ x.kind = 2 then d else (d.crash x.keep x.torn x.cut).2
def cells4 (x : Stp4) (kv : Value) : List Value := [.int .u8 x.kind, .int .i64 x.n, .string (bs x.s), .bool x.on, .int .i64 x.ep, .int .i64 x.pg, kv, .int .i64 x.torn, .int .i64 x.cut]
def StepAt4V (W : World) (b : Addr) (x : Stp4) (kv : Value) : Prop := BoolsAt W kv x.keep ∧ ∀ (j : Nat) (v : Value), (cells4 x kv)[j]? = some v → W.cell? (b.add j) = some v
def StepAt4 (W : World) (b : Addr) (x : Stp4) : Prop := ∃ kv, StepAt4V W b x kv
theorem add_block (b : Addr) (j : Nat) : (b.add j).block = b.block := by unfold Addr.add; split <;> rfl
theorem StepAt4V.keep {w W : World} {b : Addr} {x : Stp4} {kv : Value} (h : StepAt4V w b x kv) (hk : Keeps noB w W) : StepAt4V W b x kv :=
  ⟨h.1.carry hk, fun j v hj => cell_keeps hk (h.2 j v hj) (fun q => q)⟩
theorem StepAt4.keep {w W : World} {b : Addr} {x : Stp4} (h : StepAt4 w b x) (hk : Keeps noB w W) : StepAt4 W b x := by
  obtain ⟨kv, h⟩ := h
  exact ⟨kv, h.keep hk⟩
def StepsAt4 (W : World) (v : Value) (l : List Stp4) : Prop := (v = .slice none 0 0 ∧ l = []) ∨ ∃ a cap, v = .slice (some a) l.length cap ∧ ∀ i (h : i < l.length), StepAt4 W (a.add (i * 9)) l[i]
theorem StepsAt4.form {w : World} {v : Value} {l : List Stp4} (h : StepsAt4 w v l) : ∃ ad cap, v = .slice ad l.length cap := by
  rcases h with ⟨rfl, rfl⟩ | ⟨a, cap, rfl, _⟩
  · exact ⟨none, 0, rfl⟩
  · exact ⟨some a, cap, rfl⟩
theorem StepsAt4.at_ {w : World} {l : List Stp4} {ad : Option Addr} {n c : Nat} (h : StepsAt4 w (.slice ad n c) l) (i : Nat) (hi : i < l.length) : ∃ a, ad = some a ∧ StepAt4 w (a.add (i * 9)) l[i] := by
  rcases h with ⟨h, rfl⟩ | ⟨b, cap, h, hc⟩
  · simp at hi
  · cases h; exact ⟨b, rfl, hc i hi⟩
theorem StepsAt4.keep {w W : World} {v : Value} {l : List Stp4} (h : StepsAt4 w v l) (hk : Keeps noB w W) : StepsAt4 W v l := by
  rcases h with h | ⟨a, cap, rfl, hc⟩
  · exact .inl h
  · exact .inr ⟨a, cap, rfl, fun i hi => (hc i hi).keep hk⟩
theorem run_load4 {P : Program} {w : World} (ty : TypeId) (b : Addr) (hg : ∀ w, (isAgg ty).run P w = .ok true w) (hs : ∀ w, (sizeOf ty).run P w = .ok 9 w) (s : Stp4) (kv : Value) (h : StepAt4V w b s kv) : (Instr.loadAt ty (.pointer (some b))).run P w = .ok (.agg (cells4 s kv).toArray) w := by
  have := run_loadCells_list (P := P) (w := w) b (cells4 s kv) (fun j v hv => h.2 j v hv)
  have hl : (cells4 s kv).length = 9 := rfl
  rw [hl] at this
  simp [Instr.loadAt, Instr.sureAddr, loadVar, hg, hs, this, Result.andThen]
/-- A step is loaded. -/
theorem wpl_load4 {P : Program} {o : Oper} {ops : Array Oper} {rest : List Oper} {a : Act} {w : World} {Q : Exit → Act → World → Prop} (ty : TypeId) (x : Operand) (ho : o.op = .load ty x) (b : Addr) (hx : a.eval x = .pointer (some b))
    (hg : ∀ w, (isAgg ty).run P w = .ok true w) (hs : ∀ w, (sizeOf ty).run P w = .ok 9 w) (s : Stp4) (kv : Value) (h4 : StepAt4V w b s kv) (hgd : o.guard = none)
    (h : wpList P ops Q rest (a.put o.dst (.agg (cells4 s kv).toArray)) w) : wpList P ops Q (o :: rest) a w := by
  refine wpl_run (s := Instr.loadAt ty (a.eval x)) (by simp only [execOp, ho]) ?_ hgd h
  rw [hx]
  exact run_load4 ty b hg hs s kv h4
set_option maxHeartbeats 2000000 in
theorem large4_calls (sv : Value) (l : List Stp4) (w : World) (hs : StepsAt4 w sv l) (hl : l.length ≤ maxLen) : Calls Try.prog 42 #[sv] w fun e w' => (e = .returned (.bool false) ∨ e = .returned (.bool true)) ∧ Keeps noB w w' := by
  obtain ⟨ad, cap, rfl⟩ := hs.form
  have hm : (l.length : Int) ≤ 9223372036854775807 := by unfold maxLen at hl; omega
  by_cases c0 : 200 < l.length
  · have d0 : decide (200 < (l.length : Int)) = true := by rw [decide_eq_true_eq]; omega
    go_enter Try.func42, Try.ntmps42
    go_wp2
    go_ret
    exact ⟨by simp, Keeps.refl _ _⟩
  have d0 : decide (200 < (l.length : Int)) = false := by rw [decide_eq_false_iff_not]; omega
  go_enter Try.func42, Try.ntmps42
  go_wp2_with fail
  go_loopw [3] (fun i wr => ∃ (k : Nat), k ≤ l.length ∧ i = .int .i64 k ∧ w = wr) (fun i _ => l.length - (intOf i).toNat)
  case atStart => exact ⟨0, by omega, rfl, rfl⟩
  case round =>
    obtain ⟨k, hk1, rfl, rfl⟩ := hrel
    by_cases c : k < l.length
    · have d1 : decide ((k : Int) < (l.length : Int)) = true := by rw [decide_eq_true_eq]; omega
      obtain ⟨a, rfl, hst⟩ := hs.at_ k c
      obtain ⟨kv, hb, hc⟩ := hst
      obtain ⟨akk, ckk, rfl⟩ := hb.form
      generalize l[k] = st at *
      have h2 := hc 2 _ rfl
      have h6 := hc 6 _ rfl
      rw [add1_add] at h2 h6
      clear hc
      by_cases c2 : 600 < st.s.length
      · have d2 : decide (600 < (st.s.length : Int)) = true := by rw [decide_eq_true_eq]; omega
        go_wp2_with fail
        all_goals go_ret
        all_goals exact ⟨by simp, Keeps.refl _ _⟩
      · have d2 : decide (600 < (st.s.length : Int)) = false := by rw [decide_eq_false_iff_not]; omega
        by_cases c3 : 400 < st.keep.length
        · have d3 : decide (400 < (st.keep.length : Int)) = true := by rw [decide_eq_true_eq]; omega
          go_wp2_with fail
          all_goals go_ret
          all_goals exact ⟨by simp, Keeps.refl _ _⟩
        · have d3 : decide (400 < (st.keep.length : Int)) = false := by rw [decide_eq_false_iff_not]; omega
          go_wp2_with fail
          exact ⟨⟨k + 1, by omega, by simp, trivial⟩, by simp [intOf]; omega⟩
    · have d1 : decide ((k : Int) < (l.length : Int)) = false := by rw [decide_eq_false_iff_not]; omega
      go_wp2
      go_ret
      exact ⟨by simp, Keeps.refl _ _⟩
end Go.Proofs.Ytckopikeegegkaa
/- REF3I: the disk is like the reference. -/
namespace Go.Proofs.Ytckopikeegegkaa
open Go.RowKit Go.MapKept Go.Shelf
set_option linter.unusedSimpArgs false
set_option linter.unusedVariables false
set_option maxRecDepth 20000 in
set_option maxHeartbeats 4000000 in
theorem like_calls {p q m r lo hi : Nat} {D : Dk} (w : World) (hA : DiskAt w p q m D) (hR : RefAt w r lo hi D) : Calls Try.prog 37 #[.pointer (some ⟨p, 0, none⟩), .pointer (some ⟨r, 0, none⟩)] w fun e w' => e = .returned (.bool true) ∧ Keeps noB w w' := by
  have hw := hA.wf
  have hal := aside_len hw
  have hsm := hw.small
  go_enter Try.func37, Try.ntmps37
  go_wp2_with (go_at_call 27; (refine (dAside hA).mono ?_); rintro e Wx ⟨vas, rfl, hrow, hnil, hx, kx⟩; obtain ⟨ada, capa, rfl, hkeys⟩ := keys_row hrow)
  clear hrow hnil hA
  obtain ⟨g, hK, gb⟩ := keysAt_of hkeys
  clear hkeys gb
  have hR1 := hR.held kx
  clear hR
  obtain ⟨vt, va, hv⟩ := hR1
  obtain ⟨gt, ct, rt, rfl, l1, l2, hgt⟩ := hv.there
  obtain ⟨ad, ca, rfl⟩ := hv.aside.form
  have c0 := cell_blk hv.box 0 (.slice (some ⟨gt, 0, none⟩) D.there.length ct) rfl
  have c1 := cell_blk hv.box 1 (.slice ad D.aside.length ca) rfl
  have hl : (D.there.length : Int) = D.there.length := rfl
  refine wp_region_text [(0, true), (2, true), (3, true), (4, true), (5, true), (6, true), (1, false), (7, true), (8, true), (9, true), (11, true), (10, false), (12, false), (13, true), (14, true), (15, true), (16, true), (17, true), (18, true), (19, true), (20, true), (21, true), (22, true), (23, true), (24, true)] (fun W' => W'.cell? ⟨r, 0, none⟩ = some (.slice (some ⟨gt, 0, none⟩) D.there.length ct) ∧ W'.cell? ⟨r, 1, none⟩ = some (.slice ad D.aside.length ca)) (by kernel_rfl) (by kernel_rfl) (fun d _ _ _ _ h => by cases d <;> exact h) ⟨c0, c1⟩ ?_
  repeat (first | (apply wpText_take; rfl; rfl; (intro W hS; have s1 := hS.1; have s2 := hS.2; go_simp; exact rfl); try simp only [Act.put, List.setIfInBounds_toArray, List.set_cons_succ, List.set_cons_zero]) | (apply wpText_takeG; rfl; rfl; (intro W hS; have s1 := hS.1; have s2 := hS.2; go_simp; exact rfl); try simp only [Act.put, List.setIfInBounds_toArray, List.set_cons_succ, List.set_cons_zero]) | (apply wpText_skip; rfl; rfl; try simp only [Act.put, List.setIfInBounds_toArray, List.set_cons_succ, List.set_cons_zero]) | (apply wpText_goL; rfl; intro K hK; go_wp2_with (first | (go_at_call 39; (refine (dSectors hx.drew rfl).mono ?_); rintro e Wx ⟨rfl, rfl⟩) | (go_at_call 30; (refine (dDead hx.drew rfl).mono ?_); rintro e Wx ⟨rfl, rfl⟩) | (go_at_call 63; (refine (rdead_calls _ (RefAt.drew ⟨_, _, hv⟩)).mono ?_); rintro e Wx ⟨rfl, rfl⟩)); (refine hK _ _ ⟨c0, c1⟩ ?_); clear hK K; try simp only [Act.put, List.setIfInBounds_toArray, List.set_cons_succ, List.set_cons_zero]))
  apply wpText_done
  go_wp2_with fail
  have hk : Keeps noB w Wx.drew := kx.drew
  replace hx := hx.drew
  replace hv := hv.drew
  have hK' : KeysAt Wx.drew ada D.aside g := hK
  clear hK c0 c1 kx hgt
  go_loopw [6] (fun i wr => ∃ k : Nat, k ≤ D.aside.length ∧ i = .int .i64 k ∧ DiskAt wr p q m D ∧ RefV wr r lo hi D (.slice (some ⟨gt, 0, none⟩) D.there.length ct) (.slice ad D.aside.length ca) ∧ KeysAt wr ada D.aside g ∧ Keeps noB w wr) (fun i _ => D.aside.length - (intOf i).toNat)
  case atStart => exact ⟨0, by omega, rfl, hx, hv, hK', hk⟩
  case round =>
    clear hx hv hK' hk
    obtain ⟨k, hk1, rfl, hA, hv, hK, hk⟩ := hrel
    by_cases c : k < D.aside.length
    · have d1 : decide ((k : Int) < (D.aside.length : Int)) = true := by rw [decide_eq_true_eq]; omega
      obtain ⟨rfl, hck⟩ := hK k c
      obtain ⟨g2, rfl, _, _, e0, e1⟩ := hv.aside.at_ k c
      have c1 := cell_blk hv.box 1 (.slice (some ⟨g2, 0, none⟩) D.aside.length ca) rfl
      generalize D.aside[k] = x at *
      go_wp2_with fail
      refine wp_region_text [(0, true), (1, true), (2, true), (3, true), (4, true), (5, true), (6, true), (7, true), (8, true), (9, true), (10, true), (11, true), (12, true)] (fun W' => W'.cell? ⟨g, k, none⟩ = some (.int .i64 (x.1 : Nat)) ∧ W'.cell? ⟨r, 1, none⟩ = some (.slice (some ⟨g2, 0, none⟩) D.aside.length ca) ∧ W'.cell? ⟨g2, k * 2, none⟩ = some (.int .i64 (x.1 : Nat))) (by kernel_rfl) (by kernel_rfl) (fun d _ _ _ _ h => by cases d <;> exact h) ⟨hck, c1, e0⟩ ?_
      repeat (apply wpText_take; rfl; rfl; (intro W hS; have s1 := hS.1; have s2 := hS.2.1; have s3 := hS.2.2; go_simp; exact rfl); try simp only [Act.put, List.setIfInBounds_toArray, List.set_cons_succ, List.set_cons_zero])
      apply wpText_done
      go_wp2_with fail
      exact ⟨⟨k + 1, by omega, by simp, hA.drew, hv.drew, hK, hk.drew⟩, by simp [intOf]; omega⟩
    · have d1 : decide ((k : Int) < (D.aside.length : Int)) = false := by rw [decide_eq_false_iff_not]; omega
      go_wp2_with fail
      clear hK
      go_loopw [7] (fun i wr => ∃ n : Int, -1 ≤ n ∧ n ≤ D.there.length + 1 ∧ i = .int .i64 n ∧ DiskAt wr p q m D ∧ RefV wr r lo hi D (.slice (some ⟨gt, 0, none⟩) D.there.length ct) (.slice ad D.aside.length ca) ∧ Keeps noB w wr) (fun i _ => ((D.there.length : Int) + 1 - intOf i).toNat)
      case atStart => exact ⟨-1, by omega, by omega, rfl, hA, hv, hk⟩
      case round =>
        clear hA hv hk
        obtain ⟨n, hn0, hn1, rfl, hA, hv, hk⟩ := hrel
        have c0 := cell_blk hv.box 0 (.slice (some ⟨gt, 0, none⟩) D.there.length ct) rfl
        by_cases c2 : n ≤ D.there.length
        · have d2 : decide (n ≤ (D.there.length : Int)) = true := by rw [decide_eq_true_eq]; omega
          obtain ⟨s, e, he⟩ : ∃ s e, D.read n = (s, e) := ⟨_, _, rfl⟩
          have hR : RefAt wr r lo hi D := ⟨_, _, hv⟩
          have hr2 := fun W (h : RefAt W r lo hi D) => rread_calls n W h hw
          rw [he] at hr2
          go_wp2_with (first | (go_at_call 24; (refine (dRead hA he).mono ?_); rintro e Wx ⟨rfl, hx, kx⟩) | (go_at_call 52; ((refine (hr2 _ (hR.held kx)).mono ?_); rintro e Wx2 ⟨rfl, rfl⟩)))
          exact ⟨⟨n + 1, by omega, by omega, by simp, hx, hv.keep kx (fun _ _ _ q => q), hk.trans kx⟩, by simp [intOf]; omega⟩
        · have d2 : decide (n ≤ (D.there.length : Int)) = false := by rw [decide_eq_false_iff_not]; omega
          go_wp2_with fail
          go_ret
          exact ⟨rfl, hk⟩
end Go.Proofs.Ytckopikeegegkaa
/- DISKPLAYS: the walk of the law. -/
namespace Go.Proofs.Ytckopikeegegkaa
open Go.RowKit Go.MapKept Go.Shelf
set_option linter.unusedSimpArgs false
set_option linter.unusedVariables false
theorem run_loadStep {P : Program} {w : World} (ty : TypeId) (b : Addr) (hg : ∀ w, (isAgg ty).run P w = .ok true w) (hs : ∀ w, (sizeOf ty).run P w = .ok 5 w) (s : Stp) (kv : Value) (h : StepAtV w b s kv) : (Instr.loadAt ty (.pointer (some b))).run P w = .ok (stpV s kv) w := by
  obtain ⟨_, h0, h1, h2, h3, h4⟩ := h
  have := run_loadCells_at (P := P) h0 h1 h2 h3 h4
  simp [Instr.loadAt, Instr.sureAddr, loadVar, hg, hs, this, Result.andThen, stpV]
set_option maxRecDepth 20000 in
set_option maxHeartbeats 20000000 in
theorem diskPlays_walk (sectors : Int) (sv : Value) (l : List Stp) (w : World) (hs : StepsAt w sv l) (hl : l.length ≤ maxLen) (hok : ∀ x ∈ l, StpOk x) :
    Calls Try.prog 8 #[.int .i64 sectors, sv] w fun e w' => e = .returned (.bool true) ∧ Keeps noB w w' := by
  have hlg := fun W h => large_calls sv l W h hl
  obtain ⟨ad, cap, rfl⟩ := hs.form
  have hm : (l.length : Int) ≤ 9223372036854775807 := by unfold maxLen at hl; omega
  by_cases hc : 40 < sectors
  · have d0 : decide (40 < sectors) = true := by simpa using hc
    go_enter Try.func8, Try.ntmps8
    go_wp2_with (go_at_call 23; refine (hlg _ hs).mono ?_; rintro e W2 ⟨rfl | rfl, q2⟩)
    all_goals go_ret
    all_goals exact ⟨rfl, q2⟩
  · have d0 : decide (40 < sectors) = false := by simpa using hc
    by_cases hc1 : sectors < 1
    · have hn := fun W => new_bad sectors W (make_none hc1)
      have hn2 := fun W => rnew_bad sectors W (.inl hc1)
      go_enter Try.func8, Try.ntmps8
      go_wp2_with (first | (go_at_call 23; refine (hlg _ hs).mono ?_; rintro e W2 ⟨rfl | rfl, q2⟩) | (go_at_call 16; refine (hn _).mono ?_; rintro e W3 ⟨rfl, rfl⟩) | (go_at_call 34; refine (hn2 _).mono ?_; rintro e W3 ⟨rfl, rfl⟩))
      all_goals go_ret
      all_goals exact ⟨rfl, q2⟩
    · have hmk := make_some (n := sectors) (by omega) (by omega)
      obtain ⟨S, hS⟩ : ∃ S : Nat, sectors = S := ⟨sectors.toNat, by omega⟩
      subst hS
      rw [Int.toNat_natCast] at hmk
      have hrn := fun W => rnew_good S W (by omega) (by omega)
      generalize Dk.zero S = D0 at *
      go_enter Try.func8, Try.ntmps8
      go_wp2_with (first | (go_at_call 23; refine (hlg _ hs).mono ?_; rintro e W2 ⟨rfl | rfl, q2⟩) | (go_at_call 16; (refine (dNew hmk).mono ?_); rintro e W3 ⟨p, q, j, rfl, hA, q3, lp, lq, lm⟩) | (go_at_call 34; refine (hrn _).mono ?_; rintro e W4 ⟨r, rfl, hR, q4⟩))
      · have z2 := q2.size
        have z3 := q3.size
        have z4 := q4.size
        have y1 := hA.lt_p; have y2 := hA.lt_q; have y3 := hA.lt_m
        replace hA := hA.held q4
        have hk := (q2.trans q3).trans q4
        replace lp : w.heap.size ≤ p := (by omega); replace lq : w.heap.size ≤ q := (by omega); replace lm : w.heap.size ≤ j := (by omega)
        have hlo : w.heap.size ≤ W3.heap.size := (by omega)
        obtain ⟨hi, hhi⟩ : ∃ hi, hi = W4.heap.size := ⟨_, rfl⟩
        rw [← hhi] at hR
        generalize W3.heap.size = lo at *
        clear q2 q3 q4 z2 z3 z4 hlg hrn hmk
        go_loopw [9] (fun i wr => ∃ (k hi : Nat) (D : Dk), k ≤ l.length ∧ i = .int .i64 k ∧ DiskAt wr p q j D ∧ RefAt wr r lo hi D ∧ Keeps noB w wr) (fun i _ => l.length - (intOf i).toNat)
        case atStart => exact ⟨0, hi, D0, by omega, rfl, hA, hR, hk⟩
        case round =>
          clear hhi hA hR hk
          obtain ⟨k, hi, D, hk1, rfl, hA, hR, hk⟩ := hrel
          replace hR := hR.raise hR.lt.2.2.2 (Nat.le_refl _)
          by_cases c : k < l.length
          · have d3 : decide ((k : Int) < (l.length : Int)) = true := by rw [decide_eq_true_eq]; omega
            obtain ⟨a, rfl, hst⟩ := hs.at_ k c
            have ho := hok _ (List.getElem_mem c)
            generalize l[k] = st at *
            obtain ⟨kv, hsv⟩ := hst
            have hz64 := Lib.hid (zeros64 0)
            generalize hi = hi0 at *
            obtain ⟨hi, hhi⟩ : ∃ hi, hi = wr.heap.size := ⟨_, rfl⟩
            rw [← hhi] at hR
            go_wp2_with (first | (go_at_call 28; (refine (copy_calls _ hA).mono ?_); rintro e Wx ⟨p2, q2, m2, rfl, hB, kx, x1, x2, x3⟩; have y1 := hA.lt_p; have y2 := hA.lt_q; have y3 := hA.lt_m; replace hA := hA.held kx; replace hR := hR.held kx; have zx := kx.size; (try simp only [World.size_alloc, World.size_drew] at zx); replace hk := Keeps.trans_new (by first | exact hk | exact hk.alloc _ | exact (hk.alloc _).alloc _ | exact hk.drew | exact hk.drew.alloc _ | exact (hk.alloc _).drew | exact ((hk.alloc _).alloc _).drew) kx (fun k hk q => by first | exact q.elim | (simp only [dset] at q; omega) | omega); clear zx; clear kx) | (go_at_call 35; (with_reducible refine (dFuse hB (by decide) rfl).mono ?_); rintro e Wx ⟨rfl, hx, kx⟩; replace hA := ((by first | exact hA | exact hA.alloc _ | exact (hA.alloc _).alloc _ | exact hA.drew | exact hA.drew.alloc _ | exact (hA.alloc _).drew | exact ((hA.alloc _).alloc _).drew) : DiskAt _ _ _ _ _).keep kx (by first | exact (fun q => q) | (simp only [dset]; omega) | omega | (dsimp only; omega)) (by first | exact (fun q => q) | (simp only [dset]; omega) | omega | (dsimp only; omega)) (by first | exact (fun q => q) | (simp only [dset]; omega) | omega | (dsimp only; omega)); replace hR := (by first | exact hR.keep kx (fun b q1 q2 => by simp only [dset]; omega) | exact (hR.alloc _).keep kx (fun b q1 q2 => by simp only [dset]; omega) : RefAt Wx r lo hi D); have zx := kx.size; (try simp only [World.size_alloc, World.size_drew] at zx); replace hk := Keeps.trans_new (by first | exact hk | exact hk.alloc _ | exact (hk.alloc _).alloc _ | exact hk.drew | exact hk.drew.alloc _ | exact (hk.alloc _).drew | exact ((hk.alloc _).alloc _).drew) kx (fun k hk q => by first | exact q.elim | (simp only [dset] at q; omega) | omega); clear zx; replace hB := hx; clear hx kx) | (go_at_call 31; (with_reducible refine (dFlush hB rfl).mono ?_); rintro e Wx ⟨rfl, hx, kx⟩; replace hA := ((by first | exact hA | exact hA.alloc _ | exact (hA.alloc _).alloc _ | exact hA.drew | exact hA.drew.alloc _ | exact (hA.alloc _).drew | exact ((hA.alloc _).alloc _).drew) : DiskAt _ _ _ _ _).keep kx (by first | exact (fun q => q) | (simp only [dset]; omega) | omega | (dsimp only; omega)) (by first | exact (fun q => q) | (simp only [dset]; omega) | omega | (dsimp only; omega)) (by first | exact (fun q => q) | (simp only [dset]; omega) | omega | (dsimp only; omega)); replace hR := (by first | exact hR.keep kx (fun b q1 q2 => by simp only [dset]; omega) | exact (hR.alloc _).keep kx (fun b q1 q2 => by simp only [dset]; omega) : RefAt Wx r lo hi D); have zx := kx.size; (try simp only [World.size_alloc, World.size_drew] at zx); replace hk := Keeps.trans_new (by first | exact hk | exact hk.alloc _ | exact (hk.alloc _).alloc _ | exact hk.drew | exact hk.drew.alloc _ | exact (hk.alloc _).drew | exact ((hk.alloc _).alloc _).drew) kx (fun k hk q => by first | exact q.elim | (simp only [dset] at q; omega) | omega); clear zx; replace hB := hx; clear hx kx) | (go_at_call 32; (with_reducible refine (dWrite (by first | exact hB | exact hB.alloc _ : DiskAt _ _ _ _ _) rfl).mono ?_); rintro e Wx ⟨rfl, hx, kx⟩; replace hA := ((by first | exact hA | exact hA.alloc _ | exact (hA.alloc _).alloc _ | exact hA.drew | exact hA.drew.alloc _ | exact (hA.alloc _).drew | exact ((hA.alloc _).alloc _).drew) : DiskAt _ _ _ _ _).keep kx (by first | exact (fun q => q) | (simp only [dset]; omega) | omega | (dsimp only; omega)) (by first | exact (fun q => q) | (simp only [dset]; omega) | omega | (dsimp only; omega)) (by first | exact (fun q => q) | (simp only [dset]; omega) | omega | (dsimp only; omega)); replace hR := (by first | exact hR.keep kx (fun b q1 q2 => by simp only [dset]; omega) | exact (hR.alloc _).keep kx (fun b q1 q2 => by simp only [dset]; omega) : RefAt Wx r lo hi D); have zx := kx.size; (try simp only [World.size_alloc, World.size_drew] at zx); replace hk := Keeps.trans_new (by first | exact hk | exact hk.alloc _ | exact (hk.alloc _).alloc _ | exact hk.drew | exact hk.drew.alloc _ | exact (hk.alloc _).drew | exact ((hk.alloc _).alloc _).drew) kx (fun k hk q => by first | exact q.elim | (simp only [dset] at q; omega) | omega); clear zx; replace hB := hx; clear hx kx) | (go_at_call 26; (refine (whole_calls [99, 111, 112, 121] 0 _).mono ?_); rintro e Wx ⟨rfl, kx⟩; replace hA := ((by first | exact hA | exact hA.alloc _ | exact (hA.alloc _).alloc _ | exact hA.drew | exact hA.drew.alloc _ | exact (hA.alloc _).drew | exact ((hA.alloc _).alloc _).drew) : DiskAt _ _ _ _ _).held kx; replace hB := (by first | exact hB | exact hB.alloc _ : DiskAt _ _ _ _ _).held kx; replace hR := (by first | exact hR | exact hR.alloc _ : RefAt _ r lo hi D).held kx; have zx := kx.size; (try simp only [World.size_alloc, World.size_drew] at zx); replace hk := Keeps.trans_new (by first | exact hk | exact hk.alloc _ | exact (hk.alloc _).alloc _ | exact hk.drew | exact hk.drew.alloc _ | exact (hk.alloc _).drew | exact ((hk.alloc _).alloc _).drew) kx (fun k hk q => by first | exact q.elim | (simp only [dset] at q; omega) | omega); clear zx; clear kx) | ((with_reducible apply wpl_make 35 5 (n := 64) (k := 1) (by_ := 1) (Z := [.int .u8 0]) (z := .int .u8 0) (hu := Try.underlying35) (hi := info_byte)); rfl; rfl; rfl; rfl; rfl; omega; omega; omega; rfl; rw [hz64.out]) | ((with_reducible apply wpl_bytes_all 35 9 5 (t := 5) (fr := (0, 0)) (s := ofTo 0 0) (hs := Try.underlying35) (he := Try.underlying5) (hd := Try.underlying9)); rfl; rfl; exact heap_alloc_eq _ _ _ rfl; exact ofTo_length 0 (by omega); rfl))
            obtain ⟨f, D', he⟩ : ∃ f D', doStep st D = (f, D') := ⟨_, _, rfl⟩
            have wfD := hA.wf
            have hap : 0 < st.keep.length → ∀ a n c, kv = .slice (some a) n c → ¬ dset p q j a.block := hsv.1.apart lp lq lm
            have xr := hR.lt
            have hap2 : 0 < st.keep.length → ∀ a n c, kv = .slice (some a) n c → a.block ≠ r := fun h0 a n c e => by
              subst e; have := hsv.1.lt h0; omega
            have hS0 := hsv.keep hk.drew
            clear hB x1 x2 x3
            refine wp_region_text [(0, true), (1, true), (2, true), (3, true), (4, true), (6, true), (7, true), (8, true), (9, true), (10, true), (5, false), (11, false), (12, true), (13, true), (14, true), (15, true), (16, false), (17, true), (18, true)] (fun W' => StepAtV W' (a.add (k * 5)) st kv) (by kernel_rfl) (by kernel_rfl) (fun d _ _ _ _ h => by cases d <;> exact h) hS0 ?_
            iterate 3 (apply wpText_take; rfl; rfl; (intro W hS; (try dsimp only at hS); (try (have hS1 := hS.1; have hS2 := hS.2)); go_simp; exact rfl); try simp only [Act.put, List.setIfInBounds_toArray, List.set_cons_succ, List.set_cons_zero])
            (apply wpText_take (v := stpV st kv); rfl; rfl; (intro W hS; exact exec_run (s := Instr.loadAt 42 (.pointer (some (a.add (k * 5))))) rfl (run_loadStep 42 _ Try.isAgg42 Try.sizeOf42 st kv hS)); try simp only [Act.put, List.setIfInBounds_toArray, List.set_cons_succ, List.set_cons_zero])
            iterate 1 (apply wpText_take; rfl; rfl; (intro W hS; (try dsimp only at hS); (try (have hS1 := hS.1; have hS2 := hS.2)); go_simp; exact rfl); try simp only [Act.put, List.setIfInBounds_toArray, List.set_cons_succ, List.set_cons_zero])
            iterate 3 (apply wpText_take; rfl; rfl; (intro W hS; (try dsimp only at hS); (try (have hS1 := hS.1; have hS2 := hS.2)); go_simp; exact rfl); try simp only [Act.put, List.setIfInBounds_toArray, List.set_cons_succ, List.set_cons_zero])
            (apply wpText_take (v := stpV st kv); rfl; rfl; (intro W hS; exact exec_run (s := Instr.loadAt 42 (.pointer (some (a.add (k * 5))))) rfl (run_loadStep 42 _ Try.isAgg42 Try.sizeOf42 st kv hS)); try simp only [Act.put, List.setIfInBounds_toArray, List.set_cons_succ, List.set_cons_zero])
            iterate 1 (apply wpText_take; rfl; rfl; (intro W hS; (try dsimp only at hS); (try (have hS1 := hS.1; have hS2 := hS.2)); go_simp; exact rfl); try simp only [Act.put, List.setIfInBounds_toArray, List.set_cons_succ, List.set_cons_zero])
            apply wpText_goL; rfl; intro K hK
            go_wp2_with (go_at_call 25; (refine (do_calls _ hA.drew hS0.1 hap ho.n1 he).mono ?_); rintro e Wy ⟨rfl, hx, kx⟩)
            replace hR := hR.drew.keep kx (fun b q1 q2 => by simp only [dset]; omega)
            replace hk := Keeps.trans_new hk.drew kx (fun k hk q => by simp only [dset] at q; omega)
            replace hA := hx
            refine hK _ _ (hsv.keep hk) ?_
            clear hK K hx kx
            try simp only [Act.put, List.setIfInBounds_toArray, List.set_cons_succ, List.set_cons_zero]
            apply wpText_goL; rfl; intro K hK
            go_wp2_with (go_at_call 36; (refine (rstep_calls _ hR wfD (hsv.keep hk).1 hap2 he).mono ?_); rintro e Wz ⟨rfl, hx, kx⟩)
            replace hA := hA.keep kx (by omega) (by omega) (by omega)
            replace hk := Keeps.trans_new hk kx (fun k hk q => by omega)
            replace hR := hx
            refine hK _ _ (hsv.keep hk) ?_
            clear hK K hx kx
            try simp only [Act.put, List.setIfInBounds_toArray, List.set_cons_succ, List.set_cons_zero]
            repeat (first | (apply wpText_take; rfl; rfl; (intro W hS; (try dsimp only at hS); (try (have hS1 := hS.1; have hS2 := hS.2)); go_simp; exact rfl); try simp only [Act.put, List.setIfInBounds_toArray, List.set_cons_succ, List.set_cons_zero]) | (apply wpText_takeG; rfl; rfl; (intro W hS; (try dsimp only at hS); (try have hS1 := hS.2.2); go_simp; exact rfl); try simp only [Act.put, List.setIfInBounds_toArray, List.set_cons_succ, List.set_cons_zero]) | (apply wpText_skip; rfl; rfl; try simp only [Act.put, List.setIfInBounds_toArray, List.set_cons_succ, List.set_cons_zero]) | (apply wpText_goL; rfl; intro K hK; go_wp2_with (go_at_call 37; (refine (like_calls _ hA hR).mono ?_); rintro e Wx ⟨rfl, kx⟩; replace hA := hA.held kx; replace hR := hR.held kx; replace hk := hk.trans kx); (refine hK _ _ (hsv.keep hk) ?_); clear hK K; try simp only [Act.put, List.setIfInBounds_toArray, List.set_cons_succ, List.set_cons_zero]))
            apply wpText_done
            go_wp2
            exact ⟨⟨k + 1, _, D', by omega, by simp, hA, hR, hk⟩, by simp [intOf]; omega⟩
          · have d3 : decide ((k : Int) < (l.length : Int)) = false := by rw [decide_eq_false_iff_not]; omega
            have hz : 0 ≤ wr.heap.size := Nat.zero_le _
            go_wp2_with (first | (go_at_call 28; (refine (copy_calls _ hA).mono ?_); rintro e Wx ⟨p2, q2, m2, rfl, hB, kx, x1, x2, x3⟩) | (go_at_call 37; (refine (like_calls _ hB (hR.held kx)).mono ?_); rintro e Wx2 ⟨rfl, kx2⟩))
            go_ret
            exact ⟨rfl, (hk.trans kx).trans kx2⟩
      · go_ret
        exact ⟨rfl, q2⟩
end Go.Proofs.Ytckopikeegegkaa
/- PAGETORN: the walk of the law. -/
namespace Go.Proofs.Ytckopikeegegkaa
open Go.RowKit Go.MapKept Go.Shelf
set_option linter.unusedSimpArgs false
set_option linter.unusedVariables false
theorem pt_make : Dk.make 8 = some (Dk.zero 8) := by kernel_rfl
theorem pt_has (a : Nat) (h : a ≤ 1) : hasRoot (Dk.zero 8) a = true := by
  rcases Nat.le_one_iff_eq_zero_or_eq_one.1 h with rfl | rfl <;> kernel_rfl
abbrev mkCells (m : Mk) : List Value := [.bool m.on, .int .i64 m.epoch, .int .i64 m.page]
def mayM (m : Mk) : Mk := ⟨m.on, mayE m.epoch, mayG m.page⟩
theorem mayRoot_mayM (m : Mk) : mayRoot (mayM m) = true := by
  have h1 := mayE_bounds m.epoch
  have h2 := mayG_bounds m.page
  show mayRoot ⟨m.on, mayE m.epoch, mayG m.page⟩ = true
  simp only [mayRoot, Bool.and_eq_true, decide_eq_true_eq]
  exact ⟨h1.1, h1.2, h2.1, h2.2⟩
set_option maxRecDepth 20000 in
set_option maxHeartbeats 20000000 in
theorem pageTorn_walk (old other next : Mk) (k : Int) (a b : Nat) (hk0 : 0 ≤ k ∧ k ≤ 255) (hp : k % 2 = a) (hb : 1 - (a : Int) = b) (hab : a ≠ b) (kv : Value) (keep : List Bool) (torn cut : Int) (w : World) (hkv : BoolsAt w kv keep) :
    Calls Try.prog 12 #[.agg (mkCells old).toArray, .agg (mkCells other).toArray, .agg (mkCells next).toArray, .int .u8 k, kv, .int .i64 torn, .int .i64 cut] w fun e w' => e = .returned (.bool true) ∧ Keeps noB w w' := by
  obtain ⟨k0, k1⟩ := hk0
  have a1 : (a : Int) ≤ 1 := by omega
  have b1 : (b : Int) ≤ 1 := by omega
  have haw := fun W => awake4_calls W
  have hkv0 := hkv
  obtain ⟨ad, cap, rfl⟩ := hkv.form
  by_cases hlen : 400 < keep.length
  · have g0 : decide (400 < (keep.length : Int)) = true := by simp; omega
    go_enter Try.func12, Try.ntmps12
    go_wp2_with (go_at_call 15; refine (haw _).mono ?_; rintro e W1 ⟨rfl, q1⟩)
    go_ret
    exact ⟨rfl, (((Keeps.refl _ _).alloc _).alloc _).alloc _ |>.trans q1⟩
  have g0 : decide (400 < (keep.length : Int)) = false := by simp; omega
  have cb := cutE_bounds cut
  obtain ⟨D1, D2, D3, D4, D5, x, e1, e2, e3, e4, e5, e6, e7, hx⟩ := torn_all (Dk.zero 8) a b hab (pt_has a (by omega)) (pt_has b (by omega)) rfl (zero_wf (by decide) (by decide)) (mayM old) (mayM other) ⟨false, mayE next.epoch, mayG next.page⟩ (mayRoot_mayM _) (mayRoot_mayM _) (mayRoot_mayM ⟨false, next.epoch, next.page⟩) rfl keep torn (cutE cut).toNat (by omega)
  rw [show (((cutE cut).toNat : Nat) : Int) = cutE cut by omega] at e5
  have hce := Lib.hid (cutE_eq cut)
  simp only [mayM] at e1 e2 e7 hx
  obtain ⟨xo, xe, xg⟩ := x
  have hmk := pt_make
  generalize Dk.zero 8 = D0 at *
  obtain ⟨B, hB⟩ : ∃ B, B = w.heap.size + 3 := ⟨_, rfl⟩
  go_enter Try.func12, Try.ntmps12
  go_wp2_with (first | (go_at_call 15; refine (haw _).mono ?_; rintro e W1 ⟨rfl, q1⟩) | (go_at_call 16; refine (dNew hmk).mono ?_; rintro e W2 ⟨p, q, m, rfl, hA, q2, lp, lq, lm⟩))
  have z1 := q1.size
  simp only [World.size_alloc] at z1
  have f1 : W2.heap[w.heap.size]? = some (.cells (mkCells old).toArray 23) := (q2.block w.heap.size (by omega) (fun q => q)).trans ((q1.block w.heap.size (by simp; omega) (fun q => q)).trans (by simp (disch := (first | (simp only [World.size_alloc, World.size_setCell, World.size_drew, size_setRow, heap_drew, heap_drewN]; done) | ((try simp only [World.size_alloc, World.size_setCell, World.size_drew, size_setRow, heap_drew, heap_drewN]); omega))) only [heap_drew, heap_drewN, heap_alloc_ne, heap_alloc_eq, heap_setCell_ne, heap_setRow_ne]))
  have f2 : W2.heap[w.heap.size + 1]? = some (.cells (mkCells other).toArray 23) := (q2.block _ (by omega) (fun q => q)).trans ((q1.block _ (by simp) (fun q => q)).trans (by simp (disch := (first | (simp only [World.size_alloc, World.size_setCell, World.size_drew, size_setRow, heap_drew, heap_drewN]; done) | ((try simp only [World.size_alloc, World.size_setCell, World.size_drew, size_setRow, heap_drew, heap_drewN]); omega))) only [heap_drew, heap_drewN, heap_alloc_ne, heap_alloc_eq, heap_setCell_ne, heap_setRow_ne]))
  have f3 : W2.heap[w.heap.size + 1 + 1]? = some (.cells (mkCells next).toArray 23) := (q2.block _ (by omega) (fun q => q)).trans ((q1.block _ (by simp) (fun q => q)).trans (by simp (disch := (first | (simp only [World.size_alloc, World.size_setCell, World.size_drew, size_setRow, heap_drew, heap_drewN]; done) | ((try simp only [World.size_alloc, World.size_setCell, World.size_drew, size_setRow, heap_drew, heap_drewN]); omega))) only [heap_drew, heap_drewN, heap_alloc_ne, heap_alloc_eq, heap_setCell_ne, heap_setRow_ne]))
  have hk : Keeps noB w W2 := (((((Keeps.refl _ _).alloc _).alloc _).alloc _).trans q1).trans q2
  have hz : B ≤ W2.heap.size := by have := q2.size; omega
  replace lp : B ≤ p := by omega
  replace lq : B ≤ q := by omega
  replace lm : B ≤ m := by omega
  clear q1 q2 z1 haw hmk
  refine wp_region_late [6, 7, 8] [(0, true), (2, true), (4, true), (1, false), (3, false), (5, false), (6, false), (7, false), (8, false)] (fun W' => W'.heap[w.heap.size]? = some (.cells (mkCells old).toArray 23) ∧ W'.heap[w.heap.size + 1]? = some (.cells (mkCells other).toArray 23) ∧ W'.heap[w.heap.size + 1 + 1]? = some (.cells (mkCells next).toArray 23)) (by kernel_rfl) (by kernel_rfl) (fun d _ _ _ _ h => by cases d <;> exact h) ⟨f1, f2, f3⟩ ?_
  iterate 3 ((with_reducible apply wpLate_load 23 (n := 3) (t := 23) (fr := (0, 0)) (hg := Try.isAgg23) (hs := Try.sizeOf23)); rfl; rfl; rfl; rfl; (intro W hS; first | exact hS | exact hS.1 | exact hS.2 | exact hS.2.1 | exact hS.2.2 | exact hS.2.2.1); rfl; try simp only [Act.put, List.setIfInBounds_toArray, List.set_cons_succ, List.set_cons_zero])
  iterate 3 (apply wpLate_goL; rfl; intro K hK; go_wp2_with (go_at_call 41; refine (may_calls _ _ _ _).mono ?_; rintro e Wx ⟨rfl, kx⟩; replace hA := ((by first | exact hA | exact hA.alloc _ | exact (hA.alloc _).alloc _ | exact hA.drew | exact hA.drew.alloc _ | exact (hA.alloc _).drew | exact ((hA.alloc _).alloc _).drew) : DiskAt _ _ _ _ _).held kx; have zx := kx.size; (try simp only [World.size_alloc, World.size_drew] at zx); (first | replace f1 := carry kx f1 (by first | exact (fun q => q) | (simp only [dset]; omega) | omega | (dsimp only; omega)) | replace f1 := carry kx (blk_alloc f1 _) (by first | exact (fun q => q) | (simp only [dset]; omega) | omega | (dsimp only; omega)) | replace f1 := carry kx (blk_alloc (blk_alloc f1 _) _) (by first | exact (fun q => q) | (simp only [dset]; omega) | omega | (dsimp only; omega))); (first | replace f2 := carry kx f2 (by first | exact (fun q => q) | (simp only [dset]; omega) | omega | (dsimp only; omega)) | replace f2 := carry kx (blk_alloc f2 _) (by first | exact (fun q => q) | (simp only [dset]; omega) | omega | (dsimp only; omega)) | replace f2 := carry kx (blk_alloc (blk_alloc f2 _) _) (by first | exact (fun q => q) | (simp only [dset]; omega) | omega | (dsimp only; omega))); (first | replace f3 := carry kx f3 (by first | exact (fun q => q) | (simp only [dset]; omega) | omega | (dsimp only; omega)) | replace f3 := carry kx (blk_alloc f3 _) (by first | exact (fun q => q) | (simp only [dset]; omega) | omega | (dsimp only; omega)) | replace f3 := carry kx (blk_alloc (blk_alloc f3 _) _) (by first | exact (fun q => q) | (simp only [dset]; omega) | omega | (dsimp only; omega))); replace hk := Keeps.trans_new (by first | exact hk | exact hk.alloc _ | exact (hk.alloc _).alloc _ | exact hk.drew | exact hk.drew.alloc _ | exact (hk.alloc _).drew | exact ((hk.alloc _).alloc _).drew) kx (fun k hk q => by first | exact q.elim | (simp only [dset] at q; omega) | omega | (dsimp only at q; omega)); replace hz := Nat.le_trans hz (Nat.le_trans (by omega) zx); clear kx zx); (refine hK _ _ (fun _ => ⟨f1, f2, f3⟩) ?_; clear hK K))
  apply wpLate_goL; rfl; intro K hK; ((with_reducible apply wpl_store_all 23 (n := 3) (vs := mkCells (mayM old)) (hs := Try.sizeOf23) (L := mkCells old) (t := 23)); rfl; rfl; rfl; exact f1; rfl; (intro v hv; simp at hv; rcases hv with rfl | rfl | rfl <;> rfl); rfl; rfl); have kx := keepsSet f1 (mkCells (mayM old)); have fn := setBox f1 (mkCells (mayM old)); have zx := kx.size; (try simp only [World.size_alloc, World.size_drew] at zx); (first | replace f2 := carry kx f2 (by first | exact (fun q => q) | (simp only [dset]; omega) | omega | (dsimp only; omega)) | replace f2 := carry kx (blk_alloc f2 _) (by first | exact (fun q => q) | (simp only [dset]; omega) | omega | (dsimp only; omega)) | replace f2 := carry kx (blk_alloc (blk_alloc f2 _) _) (by first | exact (fun q => q) | (simp only [dset]; omega) | omega | (dsimp only; omega))); (first | replace f3 := carry kx f3 (by first | exact (fun q => q) | (simp only [dset]; omega) | omega | (dsimp only; omega)) | replace f3 := carry kx (blk_alloc f3 _) (by first | exact (fun q => q) | (simp only [dset]; omega) | omega | (dsimp only; omega)) | replace f3 := carry kx (blk_alloc (blk_alloc f3 _) _) (by first | exact (fun q => q) | (simp only [dset]; omega) | omega | (dsimp only; omega))); replace hk := Keeps.trans_new (by first | exact hk | exact hk.alloc _ | exact (hk.alloc _).alloc _ | exact hk.drew | exact hk.drew.alloc _ | exact (hk.alloc _).drew | exact ((hk.alloc _).alloc _).drew) kx (fun k hk q => by first | exact q.elim | (simp only [dset] at q; omega) | omega | (dsimp only at q; omega)); replace hz := Nat.le_trans hz (Nat.le_trans (by omega) zx); replace hA := ((by first | exact hA | exact hA.alloc _ | exact (hA.alloc _).alloc _ | exact hA.drew | exact hA.drew.alloc _ | exact (hA.alloc _).drew | exact ((hA.alloc _).alloc _).drew) : DiskAt _ _ _ _ _).keep kx (by first | exact (fun q => q) | (simp only [dset]; omega) | omega | (dsimp only; omega)) (by first | exact (fun q => q) | (simp only [dset]; omega) | omega | (dsimp only; omega)) (by first | exact (fun q => q) | (simp only [dset]; omega) | omega | (dsimp only; omega)); replace f1 := fn; clear kx zx fn; refine wpl_end (hK _ _ (fun h => absurd h (by decide)) ?_); clear hK K; try simp only [Act.put, List.setIfInBounds_toArray, List.set_cons_succ, List.set_cons_zero]
  apply wpLate_goL; rfl; intro K hK; ((with_reducible apply wpl_store_all 23 (n := 3) (vs := mkCells (mayM other)) (hs := Try.sizeOf23) (L := mkCells other) (t := 23)); rfl; rfl; rfl; exact f2; rfl; (intro v hv; simp at hv; rcases hv with rfl | rfl | rfl <;> rfl); rfl; rfl); have kx := keepsSet f2 (mkCells (mayM other)); have fn := setBox f2 (mkCells (mayM other)); have zx := kx.size; (try simp only [World.size_alloc, World.size_drew] at zx); (first | replace f1 := carry kx f1 (by first | exact (fun q => q) | (simp only [dset]; omega) | omega | (dsimp only; omega)) | replace f1 := carry kx (blk_alloc f1 _) (by first | exact (fun q => q) | (simp only [dset]; omega) | omega | (dsimp only; omega)) | replace f1 := carry kx (blk_alloc (blk_alloc f1 _) _) (by first | exact (fun q => q) | (simp only [dset]; omega) | omega | (dsimp only; omega))); (first | replace f3 := carry kx f3 (by first | exact (fun q => q) | (simp only [dset]; omega) | omega | (dsimp only; omega)) | replace f3 := carry kx (blk_alloc f3 _) (by first | exact (fun q => q) | (simp only [dset]; omega) | omega | (dsimp only; omega)) | replace f3 := carry kx (blk_alloc (blk_alloc f3 _) _) (by first | exact (fun q => q) | (simp only [dset]; omega) | omega | (dsimp only; omega))); replace hk := Keeps.trans_new (by first | exact hk | exact hk.alloc _ | exact (hk.alloc _).alloc _ | exact hk.drew | exact hk.drew.alloc _ | exact (hk.alloc _).drew | exact ((hk.alloc _).alloc _).drew) kx (fun k hk q => by first | exact q.elim | (simp only [dset] at q; omega) | omega | (dsimp only at q; omega)); replace hz := Nat.le_trans hz (Nat.le_trans (by omega) zx); replace hA := ((by first | exact hA | exact hA.alloc _ | exact (hA.alloc _).alloc _ | exact hA.drew | exact hA.drew.alloc _ | exact (hA.alloc _).drew | exact ((hA.alloc _).alloc _).drew) : DiskAt _ _ _ _ _).keep kx (by first | exact (fun q => q) | (simp only [dset]; omega) | omega | (dsimp only; omega)) (by first | exact (fun q => q) | (simp only [dset]; omega) | omega | (dsimp only; omega)) (by first | exact (fun q => q) | (simp only [dset]; omega) | omega | (dsimp only; omega)); replace f2 := fn; clear kx zx fn; refine wpl_end (hK _ _ (fun h => absurd h (by decide)) ?_); clear hK K; try simp only [Act.put, List.setIfInBounds_toArray, List.set_cons_succ, List.set_cons_zero]
  apply wpLate_goL; rfl; intro K hK; ((with_reducible apply wpl_store_all 23 (n := 3) (vs := mkCells (mayM next)) (hs := Try.sizeOf23) (L := mkCells next) (t := 23)); rfl; rfl; rfl; exact f3; rfl; (intro v hv; simp at hv; rcases hv with rfl | rfl | rfl <;> rfl); rfl; rfl); have kx := keepsSet f3 (mkCells (mayM next)); have fn := setBox f3 (mkCells (mayM next)); have zx := kx.size; (try simp only [World.size_alloc, World.size_drew] at zx); (first | replace f1 := carry kx f1 (by first | exact (fun q => q) | (simp only [dset]; omega) | omega | (dsimp only; omega)) | replace f1 := carry kx (blk_alloc f1 _) (by first | exact (fun q => q) | (simp only [dset]; omega) | omega | (dsimp only; omega)) | replace f1 := carry kx (blk_alloc (blk_alloc f1 _) _) (by first | exact (fun q => q) | (simp only [dset]; omega) | omega | (dsimp only; omega))); (first | replace f2 := carry kx f2 (by first | exact (fun q => q) | (simp only [dset]; omega) | omega | (dsimp only; omega)) | replace f2 := carry kx (blk_alloc f2 _) (by first | exact (fun q => q) | (simp only [dset]; omega) | omega | (dsimp only; omega)) | replace f2 := carry kx (blk_alloc (blk_alloc f2 _) _) (by first | exact (fun q => q) | (simp only [dset]; omega) | omega | (dsimp only; omega))); replace hk := Keeps.trans_new (by first | exact hk | exact hk.alloc _ | exact (hk.alloc _).alloc _ | exact hk.drew | exact hk.drew.alloc _ | exact (hk.alloc _).drew | exact ((hk.alloc _).alloc _).drew) kx (fun k hk q => by first | exact q.elim | (simp only [dset] at q; omega) | omega | (dsimp only at q; omega)); replace hz := Nat.le_trans hz (Nat.le_trans (by omega) zx); replace hA := ((by first | exact hA | exact hA.alloc _ | exact (hA.alloc _).alloc _ | exact hA.drew | exact hA.drew.alloc _ | exact (hA.alloc _).drew | exact ((hA.alloc _).alloc _).drew) : DiskAt _ _ _ _ _).keep kx (by first | exact (fun q => q) | (simp only [dset]; omega) | omega | (dsimp only; omega)) (by first | exact (fun q => q) | (simp only [dset]; omega) | omega | (dsimp only; omega)) (by first | exact (fun q => q) | (simp only [dset]; omega) | omega | (dsimp only; omega)); replace f3 := fn; clear kx zx fn; refine wpl_end (hK _ _ (fun h => absurd h (by decide)) ?_); clear hK K; try simp only [Act.put, List.setIfInBounds_toArray, List.set_cons_succ, List.set_cons_zero]
  apply wpLate_done
  have ce := hce.out
  simp only [mayM, mkCells] at f1 f2 f3 hk hz hA
  simp only [mayM, mkCells]
  generalize (((Wx.setRow w.heap.size _).setRow (w.heap.size + 1) _).setRow (w.heap.size + 1 + 1) _) = W6 at *
  by_cases hxe : (⟨xo, xe, xg⟩ : Mk) = ⟨old.on, mayE old.epoch, mayG old.page⟩
  · cases hxe
    clear hx
    go_wp2_with (first | ((with_reducible apply wpl_store1 4 (t := 23)); rfl; rfl; rfl; exact Try.sizeOf4; exact f3; rfl; rfl; (simp only [List.length_cons]; omega); rfl; simp only [List.set_cons_zero, List.set_cons_succ]; have kx := keepsSet f3 [.bool false, .int .i64 (mayE next.epoch), .int .i64 (mayG next.page)]; have fn := setBox f3 [.bool false, .int .i64 (mayE next.epoch), .int .i64 (mayG next.page)]; have zx := kx.size; (try simp only [World.size_alloc, World.size_drew] at zx); (first | replace f1 := carry kx f1 (by first | exact (fun q => q) | (simp only [dset]; omega) | omega | (dsimp only; omega)) | replace f1 := carry kx (blk_alloc f1 _) (by first | exact (fun q => q) | (simp only [dset]; omega) | omega | (dsimp only; omega)) | replace f1 := carry kx (blk_alloc (blk_alloc f1 _) _) (by first | exact (fun q => q) | (simp only [dset]; omega) | omega | (dsimp only; omega))); (first | replace f2 := carry kx f2 (by first | exact (fun q => q) | (simp only [dset]; omega) | omega | (dsimp only; omega)) | replace f2 := carry kx (blk_alloc f2 _) (by first | exact (fun q => q) | (simp only [dset]; omega) | omega | (dsimp only; omega)) | replace f2 := carry kx (blk_alloc (blk_alloc f2 _) _) (by first | exact (fun q => q) | (simp only [dset]; omega) | omega | (dsimp only; omega))); replace hk := Keeps.trans_new (by first | exact hk | exact hk.alloc _ | exact (hk.alloc _).alloc _ | exact hk.drew | exact hk.drew.alloc _ | exact (hk.alloc _).drew | exact ((hk.alloc _).alloc _).drew) kx (fun k hk q => by first | exact q.elim | (simp only [dset] at q; omega) | omega | (dsimp only at q; omega)); replace hz := Nat.le_trans hz (Nat.le_trans (by omega) zx); replace hA := ((by first | exact hA | exact hA.alloc _ | exact (hA.alloc _).alloc _ | exact hA.drew | exact hA.drew.alloc _ | exact (hA.alloc _).drew | exact ((hA.alloc _).alloc _).drew) : DiskAt _ _ _ _ _).keep kx (by first | exact (fun q => q) | (simp only [dset]; omega) | omega | (dsimp only; omega)) (by first | exact (fun q => q) | (simp only [dset]; omega) | omega | (dsimp only; omega)) (by first | exact (fun q => q) | (simp only [dset]; omega) | omega | (dsimp only; omega)); replace f3 := fn; clear kx zx fn) | ((with_reducible apply wplg_load_all 23 (n := 3) (t := 23) (fr := (0, 0)) (hg := Try.isAgg23) (hs := Try.sizeOf23)); rfl; rfl; (first | exact f1 | exact blk_alloc f1 _ | exact blk_alloc (blk_alloc f1 _) _ | exact f2 | exact blk_alloc f2 _ | exact blk_alloc (blk_alloc f2 _) _ | exact f3 | exact blk_alloc f3 _ | exact blk_alloc (blk_alloc f3 _) _ | exact f4 | exact blk_alloc f4 _ | exact blk_alloc (blk_alloc f4 _) _ | (simp (disch := (first | (simp only [World.size_alloc, World.size_setCell, World.size_drew, size_setRow, heap_drew, heap_drewN]; done) | ((try simp only [World.size_alloc, World.size_setCell, World.size_drew, size_setRow, heap_drew, heap_drewN]); omega))) only [heap_drew, heap_drewN, heap_alloc_ne, heap_alloc_eq, heap_setCell_ne, heap_setRow_ne]; rfl)); rfl; rfl) | (go_at_call 17; refine (dSetRoot (by first | exact hA | exact hA.alloc _ | exact (hA.alloc _).alloc _ | exact hA.drew | exact hA.drew.alloc _ | exact (hA.alloc _).drew | exact ((hA.alloc _).alloc _).drew) (by assumption)).mono ?_; rintro e Wx ⟨rfl, hx, kx⟩; have zx := kx.size; (try simp only [World.size_alloc, World.size_drew] at zx); (first | replace f1 := carry kx f1 (by first | exact (fun q => q) | (simp only [dset]; omega) | omega | (dsimp only; omega)) | replace f1 := carry kx (blk_alloc f1 _) (by first | exact (fun q => q) | (simp only [dset]; omega) | omega | (dsimp only; omega)) | replace f1 := carry kx (blk_alloc (blk_alloc f1 _) _) (by first | exact (fun q => q) | (simp only [dset]; omega) | omega | (dsimp only; omega))); (first | replace f2 := carry kx f2 (by first | exact (fun q => q) | (simp only [dset]; omega) | omega | (dsimp only; omega)) | replace f2 := carry kx (blk_alloc f2 _) (by first | exact (fun q => q) | (simp only [dset]; omega) | omega | (dsimp only; omega)) | replace f2 := carry kx (blk_alloc (blk_alloc f2 _) _) (by first | exact (fun q => q) | (simp only [dset]; omega) | omega | (dsimp only; omega))); (first | replace f3 := carry kx f3 (by first | exact (fun q => q) | (simp only [dset]; omega) | omega | (dsimp only; omega)) | replace f3 := carry kx (blk_alloc f3 _) (by first | exact (fun q => q) | (simp only [dset]; omega) | omega | (dsimp only; omega)) | replace f3 := carry kx (blk_alloc (blk_alloc f3 _) _) (by first | exact (fun q => q) | (simp only [dset]; omega) | omega | (dsimp only; omega))); replace hk := Keeps.trans_new (by first | exact hk | exact hk.alloc _ | exact (hk.alloc _).alloc _ | exact hk.drew | exact hk.drew.alloc _ | exact (hk.alloc _).drew | exact ((hk.alloc _).alloc _).drew) kx (fun k hk q => by first | exact q.elim | (simp only [dset] at q; omega) | omega | (dsimp only at q; omega)); replace hz := Nat.le_trans hz (Nat.le_trans (by omega) zx); replace hA := hx; clear hx kx zx) | (go_at_call 31; refine (dFlush (by first | exact hA | exact hA.alloc _ | exact (hA.alloc _).alloc _ | exact hA.drew | exact hA.drew.alloc _ | exact (hA.alloc _).drew | exact ((hA.alloc _).alloc _).drew) (by assumption)).mono ?_; rintro e Wx ⟨rfl, hx, kx⟩; have zx := kx.size; (try simp only [World.size_alloc, World.size_drew] at zx); (first | replace f1 := carry kx f1 (by first | exact (fun q => q) | (simp only [dset]; omega) | omega | (dsimp only; omega)) | replace f1 := carry kx (blk_alloc f1 _) (by first | exact (fun q => q) | (simp only [dset]; omega) | omega | (dsimp only; omega)) | replace f1 := carry kx (blk_alloc (blk_alloc f1 _) _) (by first | exact (fun q => q) | (simp only [dset]; omega) | omega | (dsimp only; omega))); (first | replace f2 := carry kx f2 (by first | exact (fun q => q) | (simp only [dset]; omega) | omega | (dsimp only; omega)) | replace f2 := carry kx (blk_alloc f2 _) (by first | exact (fun q => q) | (simp only [dset]; omega) | omega | (dsimp only; omega)) | replace f2 := carry kx (blk_alloc (blk_alloc f2 _) _) (by first | exact (fun q => q) | (simp only [dset]; omega) | omega | (dsimp only; omega))); (first | replace f3 := carry kx f3 (by first | exact (fun q => q) | (simp only [dset]; omega) | omega | (dsimp only; omega)) | replace f3 := carry kx (blk_alloc f3 _) (by first | exact (fun q => q) | (simp only [dset]; omega) | omega | (dsimp only; omega)) | replace f3 := carry kx (blk_alloc (blk_alloc f3 _) _) (by first | exact (fun q => q) | (simp only [dset]; omega) | omega | (dsimp only; omega))); replace hk := Keeps.trans_new (by first | exact hk | exact hk.alloc _ | exact (hk.alloc _).alloc _ | exact hk.drew | exact hk.drew.alloc _ | exact (hk.alloc _).drew | exact ((hk.alloc _).alloc _).drew) kx (fun k hk q => by first | exact q.elim | (simp only [dset] at q; omega) | omega | (dsimp only at q; omega)); replace hz := Nat.le_trans hz (Nat.le_trans (by omega) zx); replace hA := hx; clear hx kx zx) | (go_at_call 29; refine (dCrash (by first | exact hA | exact hA.alloc _ | exact (hA.alloc _).alloc _ | exact hA.drew | exact hA.drew.alloc _ | exact (hA.alloc _).drew | exact ((hA.alloc _).alloc _).drew) (BoolsAt.carry hkv (by first | exact hk | exact hk.alloc _ | exact (hk.alloc _).alloc _ | exact hk.drew | exact hk.drew.alloc _ | exact (hk.alloc _).drew | exact ((hk.alloc _).alloc _).drew)) (hkv.apart (by omega) (by omega) (by omega)) (by assumption)).mono ?_; rintro e Wx ⟨rfl, hx, kx⟩; have zx := kx.size; (try simp only [World.size_alloc, World.size_drew] at zx); (first | replace f1 := carry kx f1 (by first | exact (fun q => q) | (simp only [dset]; omega) | omega | (dsimp only; omega)) | replace f1 := carry kx (blk_alloc f1 _) (by first | exact (fun q => q) | (simp only [dset]; omega) | omega | (dsimp only; omega)) | replace f1 := carry kx (blk_alloc (blk_alloc f1 _) _) (by first | exact (fun q => q) | (simp only [dset]; omega) | omega | (dsimp only; omega))); (first | replace f2 := carry kx f2 (by first | exact (fun q => q) | (simp only [dset]; omega) | omega | (dsimp only; omega)) | replace f2 := carry kx (blk_alloc f2 _) (by first | exact (fun q => q) | (simp only [dset]; omega) | omega | (dsimp only; omega)) | replace f2 := carry kx (blk_alloc (blk_alloc f2 _) _) (by first | exact (fun q => q) | (simp only [dset]; omega) | omega | (dsimp only; omega))); (first | replace f3 := carry kx f3 (by first | exact (fun q => q) | (simp only [dset]; omega) | omega | (dsimp only; omega)) | replace f3 := carry kx (blk_alloc f3 _) (by first | exact (fun q => q) | (simp only [dset]; omega) | omega | (dsimp only; omega)) | replace f3 := carry kx (blk_alloc (blk_alloc f3 _) _) (by first | exact (fun q => q) | (simp only [dset]; omega) | omega | (dsimp only; omega))); replace hk := Keeps.trans_new (by first | exact hk | exact hk.alloc _ | exact (hk.alloc _).alloc _ | exact hk.drew | exact hk.drew.alloc _ | exact (hk.alloc _).drew | exact ((hk.alloc _).alloc _).drew) kx (fun k hk q => by first | exact q.elim | (simp only [dset] at q; omega) | omega | (dsimp only at q; omega)); replace hz := Nat.le_trans hz (Nat.le_trans (by omega) zx); replace hA := hx; clear hx kx zx) | (go_at_call 18; (with_reducible refine (dRoot (by first | exact hA | exact hA.alloc _ | exact (hA.alloc _).alloc _ | exact hA.drew | exact hA.drew.alloc _ | exact (hA.alloc _).drew | exact ((hA.alloc _).alloc _).drew) e6).mono ?_); rintro e Wx ⟨rfl, hx, kx⟩; skip; have zx := kx.size; (try simp only [World.size_alloc, World.size_drew] at zx); (first | replace f1 := carry kx f1 (by first | exact (fun q => q) | (simp only [dset]; omega) | omega | (dsimp only; omega)) | replace f1 := carry kx (blk_alloc f1 _) (by first | exact (fun q => q) | (simp only [dset]; omega) | omega | (dsimp only; omega)) | replace f1 := carry kx (blk_alloc (blk_alloc f1 _) _) (by first | exact (fun q => q) | (simp only [dset]; omega) | omega | (dsimp only; omega))); (first | replace f2 := carry kx f2 (by first | exact (fun q => q) | (simp only [dset]; omega) | omega | (dsimp only; omega)) | replace f2 := carry kx (blk_alloc f2 _) (by first | exact (fun q => q) | (simp only [dset]; omega) | omega | (dsimp only; omega)) | replace f2 := carry kx (blk_alloc (blk_alloc f2 _) _) (by first | exact (fun q => q) | (simp only [dset]; omega) | omega | (dsimp only; omega))); (first | replace f3 := carry kx f3 (by first | exact (fun q => q) | (simp only [dset]; omega) | omega | (dsimp only; omega)) | replace f3 := carry kx (blk_alloc f3 _) (by first | exact (fun q => q) | (simp only [dset]; omega) | omega | (dsimp only; omega)) | replace f3 := carry kx (blk_alloc (blk_alloc f3 _) _) (by first | exact (fun q => q) | (simp only [dset]; omega) | omega | (dsimp only; omega))); replace hk := Keeps.trans_new (by first | exact hk | exact hk.alloc _ | exact (hk.alloc _).alloc _ | exact hk.drew | exact hk.drew.alloc _ | exact (hk.alloc _).drew | exact ((hk.alloc _).alloc _).drew) kx (fun k hk q => by first | exact q.elim | (simp only [dset] at q; omega) | omega | (dsimp only at q; omega)); replace hz := Nat.le_trans hz (Nat.le_trans (by omega) zx); replace hA := hx; clear hx kx zx) | (go_at_call 18; (with_reducible refine (dRoot (by first | exact hA | exact hA.alloc _ | exact (hA.alloc _).alloc _ | exact hA.drew | exact hA.drew.alloc _ | exact (hA.alloc _).drew | exact ((hA.alloc _).alloc _).drew) e7).mono ?_); rintro e Wx ⟨rfl, hx, kx⟩; have f4 := carry kx (heap_alloc_eq _ _ _ rfl) (by first | exact (fun q => q) | (simp only [dset]; omega) | omega | (dsimp only; omega)); have zx := kx.size; (try simp only [World.size_alloc, World.size_drew] at zx); (first | replace f1 := carry kx f1 (by first | exact (fun q => q) | (simp only [dset]; omega) | omega | (dsimp only; omega)) | replace f1 := carry kx (blk_alloc f1 _) (by first | exact (fun q => q) | (simp only [dset]; omega) | omega | (dsimp only; omega)) | replace f1 := carry kx (blk_alloc (blk_alloc f1 _) _) (by first | exact (fun q => q) | (simp only [dset]; omega) | omega | (dsimp only; omega))); (first | replace f2 := carry kx f2 (by first | exact (fun q => q) | (simp only [dset]; omega) | omega | (dsimp only; omega)) | replace f2 := carry kx (blk_alloc f2 _) (by first | exact (fun q => q) | (simp only [dset]; omega) | omega | (dsimp only; omega)) | replace f2 := carry kx (blk_alloc (blk_alloc f2 _) _) (by first | exact (fun q => q) | (simp only [dset]; omega) | omega | (dsimp only; omega))); (first | replace f3 := carry kx f3 (by first | exact (fun q => q) | (simp only [dset]; omega) | omega | (dsimp only; omega)) | replace f3 := carry kx (blk_alloc f3 _) (by first | exact (fun q => q) | (simp only [dset]; omega) | omega | (dsimp only; omega)) | replace f3 := carry kx (blk_alloc (blk_alloc f3 _) _) (by first | exact (fun q => q) | (simp only [dset]; omega) | omega | (dsimp only; omega))); replace hk := Keeps.trans_new (by first | exact hk | exact hk.alloc _ | exact (hk.alloc _).alloc _ | exact hk.drew | exact hk.drew.alloc _ | exact (hk.alloc _).drew | exact ((hk.alloc _).alloc _).drew) kx (fun k hk q => by first | exact q.elim | (simp only [dset] at q; omega) | omega | (dsimp only at q; omega)); replace hz := Nat.le_trans hz (Nat.le_trans (by omega) zx); replace hA := hx; clear hx kx zx) | ((with_reducible apply wpl_store_all 23 (n := 3) (vs := [.bool old.on, .int .i64 (mayE old.epoch), .int .i64 (mayG old.page)]) (hs := Try.sizeOf23) (L := [.bool false, .int .i64 0, .int .i64 0]) (t := 23)); rfl; rfl; rfl; simp (disch := (first | (simp only [World.size_alloc, World.size_setCell, World.size_drew, size_setRow, heap_drew, heap_drewN]; done) | ((try simp only [World.size_alloc, World.size_setCell, World.size_drew, size_setRow, heap_drew, heap_drewN]); omega))) only [heap_drew, heap_drewN, heap_alloc_ne, heap_alloc_eq, heap_setCell_ne, heap_setRow_ne]; rfl; (intro v hv; simp at hv; rcases hv with rfl | rfl | rfl <;> rfl); rfl; rfl; simp (disch := (first | (simp only [World.size_alloc, World.size_setCell, World.size_drew, size_setRow, heap_drew, heap_drewN]; done) | ((try simp only [World.size_alloc, World.size_setCell, World.size_drew, size_setRow, heap_drew, heap_drewN]); omega))) only [setRow_alloc_top, setRow_alloc_under]) | ((with_reducible apply wpl_store_all 23 (n := 3) (vs := [.bool other.on, .int .i64 (mayE other.epoch), .int .i64 (mayG other.page)]) (hs := Try.sizeOf23) (L := [.bool false, .int .i64 0, .int .i64 0]) (t := 23)); rfl; rfl; rfl; simp (disch := (first | (simp only [World.size_alloc, World.size_setCell, World.size_drew, size_setRow, heap_drew, heap_drewN]; done) | ((try simp only [World.size_alloc, World.size_setCell, World.size_drew, size_setRow, heap_drew, heap_drewN]); omega))) only [heap_drew, heap_drewN, heap_alloc_ne, heap_alloc_eq, heap_setCell_ne, heap_setRow_ne]; rfl; (intro v hv; simp at hv; rcases hv with rfl | rfl | rfl <;> rfl); rfl; rfl; simp (disch := (first | (simp only [World.size_alloc, World.size_setCell, World.size_drew, size_setRow, heap_drew, heap_drewN]; done) | ((try simp only [World.size_alloc, World.size_setCell, World.size_drew, size_setRow, heap_drew, heap_drewN]); omega))) only [setRow_alloc_top, setRow_alloc_under]))
    go_ret
    exact ⟨rfl, (by first | exact hk | exact hk.alloc _ | exact (hk.alloc _).alloc _ | exact hk.drew | exact hk.drew.alloc _ | exact (hk.alloc _).drew | exact ((hk.alloc _).alloc _).drew)⟩
  · have hx := hx.resolve_left hxe
    subst hx
    go_wp2_with (first | ((with_reducible apply wpl_store1 4 (t := 23)); rfl; rfl; rfl; exact Try.sizeOf4; exact f3; rfl; rfl; (simp only [List.length_cons]; omega); rfl; simp only [List.set_cons_zero, List.set_cons_succ]; have kx := keepsSet f3 [.bool false, .int .i64 (mayE next.epoch), .int .i64 (mayG next.page)]; have fn := setBox f3 [.bool false, .int .i64 (mayE next.epoch), .int .i64 (mayG next.page)]; have zx := kx.size; (try simp only [World.size_alloc, World.size_drew] at zx); (first | replace f1 := carry kx f1 (by first | exact (fun q => q) | (simp only [dset]; omega) | omega | (dsimp only; omega)) | replace f1 := carry kx (blk_alloc f1 _) (by first | exact (fun q => q) | (simp only [dset]; omega) | omega | (dsimp only; omega)) | replace f1 := carry kx (blk_alloc (blk_alloc f1 _) _) (by first | exact (fun q => q) | (simp only [dset]; omega) | omega | (dsimp only; omega))); (first | replace f2 := carry kx f2 (by first | exact (fun q => q) | (simp only [dset]; omega) | omega | (dsimp only; omega)) | replace f2 := carry kx (blk_alloc f2 _) (by first | exact (fun q => q) | (simp only [dset]; omega) | omega | (dsimp only; omega)) | replace f2 := carry kx (blk_alloc (blk_alloc f2 _) _) (by first | exact (fun q => q) | (simp only [dset]; omega) | omega | (dsimp only; omega))); replace hk := Keeps.trans_new (by first | exact hk | exact hk.alloc _ | exact (hk.alloc _).alloc _ | exact hk.drew | exact hk.drew.alloc _ | exact (hk.alloc _).drew | exact ((hk.alloc _).alloc _).drew) kx (fun k hk q => by first | exact q.elim | (simp only [dset] at q; omega) | omega | (dsimp only at q; omega)); replace hz := Nat.le_trans hz (Nat.le_trans (by omega) zx); replace hA := ((by first | exact hA | exact hA.alloc _ | exact (hA.alloc _).alloc _ | exact hA.drew | exact hA.drew.alloc _ | exact (hA.alloc _).drew | exact ((hA.alloc _).alloc _).drew) : DiskAt _ _ _ _ _).keep kx (by first | exact (fun q => q) | (simp only [dset]; omega) | omega | (dsimp only; omega)) (by first | exact (fun q => q) | (simp only [dset]; omega) | omega | (dsimp only; omega)) (by first | exact (fun q => q) | (simp only [dset]; omega) | omega | (dsimp only; omega)); replace f3 := fn; clear kx zx fn) | ((with_reducible apply wplg_load_all 23 (n := 3) (t := 23) (fr := (0, 0)) (hg := Try.isAgg23) (hs := Try.sizeOf23)); rfl; rfl; (first | exact f1 | exact blk_alloc f1 _ | exact blk_alloc (blk_alloc f1 _) _ | exact f2 | exact blk_alloc f2 _ | exact blk_alloc (blk_alloc f2 _) _ | exact f3 | exact blk_alloc f3 _ | exact blk_alloc (blk_alloc f3 _) _ | exact f4 | exact blk_alloc f4 _ | exact blk_alloc (blk_alloc f4 _) _ | (simp (disch := (first | (simp only [World.size_alloc, World.size_setCell, World.size_drew, size_setRow, heap_drew, heap_drewN]; done) | ((try simp only [World.size_alloc, World.size_setCell, World.size_drew, size_setRow, heap_drew, heap_drewN]); omega))) only [heap_drew, heap_drewN, heap_alloc_ne, heap_alloc_eq, heap_setCell_ne, heap_setRow_ne]; rfl)); rfl; rfl) | (go_at_call 17; refine (dSetRoot (by first | exact hA | exact hA.alloc _ | exact (hA.alloc _).alloc _ | exact hA.drew | exact hA.drew.alloc _ | exact (hA.alloc _).drew | exact ((hA.alloc _).alloc _).drew) (by assumption)).mono ?_; rintro e Wx ⟨rfl, hx, kx⟩; have zx := kx.size; (try simp only [World.size_alloc, World.size_drew] at zx); (first | replace f1 := carry kx f1 (by first | exact (fun q => q) | (simp only [dset]; omega) | omega | (dsimp only; omega)) | replace f1 := carry kx (blk_alloc f1 _) (by first | exact (fun q => q) | (simp only [dset]; omega) | omega | (dsimp only; omega)) | replace f1 := carry kx (blk_alloc (blk_alloc f1 _) _) (by first | exact (fun q => q) | (simp only [dset]; omega) | omega | (dsimp only; omega))); (first | replace f2 := carry kx f2 (by first | exact (fun q => q) | (simp only [dset]; omega) | omega | (dsimp only; omega)) | replace f2 := carry kx (blk_alloc f2 _) (by first | exact (fun q => q) | (simp only [dset]; omega) | omega | (dsimp only; omega)) | replace f2 := carry kx (blk_alloc (blk_alloc f2 _) _) (by first | exact (fun q => q) | (simp only [dset]; omega) | omega | (dsimp only; omega))); (first | replace f3 := carry kx f3 (by first | exact (fun q => q) | (simp only [dset]; omega) | omega | (dsimp only; omega)) | replace f3 := carry kx (blk_alloc f3 _) (by first | exact (fun q => q) | (simp only [dset]; omega) | omega | (dsimp only; omega)) | replace f3 := carry kx (blk_alloc (blk_alloc f3 _) _) (by first | exact (fun q => q) | (simp only [dset]; omega) | omega | (dsimp only; omega))); replace hk := Keeps.trans_new (by first | exact hk | exact hk.alloc _ | exact (hk.alloc _).alloc _ | exact hk.drew | exact hk.drew.alloc _ | exact (hk.alloc _).drew | exact ((hk.alloc _).alloc _).drew) kx (fun k hk q => by first | exact q.elim | (simp only [dset] at q; omega) | omega | (dsimp only at q; omega)); replace hz := Nat.le_trans hz (Nat.le_trans (by omega) zx); replace hA := hx; clear hx kx zx) | (go_at_call 31; refine (dFlush (by first | exact hA | exact hA.alloc _ | exact (hA.alloc _).alloc _ | exact hA.drew | exact hA.drew.alloc _ | exact (hA.alloc _).drew | exact ((hA.alloc _).alloc _).drew) (by assumption)).mono ?_; rintro e Wx ⟨rfl, hx, kx⟩; have zx := kx.size; (try simp only [World.size_alloc, World.size_drew] at zx); (first | replace f1 := carry kx f1 (by first | exact (fun q => q) | (simp only [dset]; omega) | omega | (dsimp only; omega)) | replace f1 := carry kx (blk_alloc f1 _) (by first | exact (fun q => q) | (simp only [dset]; omega) | omega | (dsimp only; omega)) | replace f1 := carry kx (blk_alloc (blk_alloc f1 _) _) (by first | exact (fun q => q) | (simp only [dset]; omega) | omega | (dsimp only; omega))); (first | replace f2 := carry kx f2 (by first | exact (fun q => q) | (simp only [dset]; omega) | omega | (dsimp only; omega)) | replace f2 := carry kx (blk_alloc f2 _) (by first | exact (fun q => q) | (simp only [dset]; omega) | omega | (dsimp only; omega)) | replace f2 := carry kx (blk_alloc (blk_alloc f2 _) _) (by first | exact (fun q => q) | (simp only [dset]; omega) | omega | (dsimp only; omega))); (first | replace f3 := carry kx f3 (by first | exact (fun q => q) | (simp only [dset]; omega) | omega | (dsimp only; omega)) | replace f3 := carry kx (blk_alloc f3 _) (by first | exact (fun q => q) | (simp only [dset]; omega) | omega | (dsimp only; omega)) | replace f3 := carry kx (blk_alloc (blk_alloc f3 _) _) (by first | exact (fun q => q) | (simp only [dset]; omega) | omega | (dsimp only; omega))); replace hk := Keeps.trans_new (by first | exact hk | exact hk.alloc _ | exact (hk.alloc _).alloc _ | exact hk.drew | exact hk.drew.alloc _ | exact (hk.alloc _).drew | exact ((hk.alloc _).alloc _).drew) kx (fun k hk q => by first | exact q.elim | (simp only [dset] at q; omega) | omega | (dsimp only at q; omega)); replace hz := Nat.le_trans hz (Nat.le_trans (by omega) zx); replace hA := hx; clear hx kx zx) | (go_at_call 29; refine (dCrash (by first | exact hA | exact hA.alloc _ | exact (hA.alloc _).alloc _ | exact hA.drew | exact hA.drew.alloc _ | exact (hA.alloc _).drew | exact ((hA.alloc _).alloc _).drew) (BoolsAt.carry hkv (by first | exact hk | exact hk.alloc _ | exact (hk.alloc _).alloc _ | exact hk.drew | exact hk.drew.alloc _ | exact (hk.alloc _).drew | exact ((hk.alloc _).alloc _).drew)) (hkv.apart (by omega) (by omega) (by omega)) (by assumption)).mono ?_; rintro e Wx ⟨rfl, hx, kx⟩; have zx := kx.size; (try simp only [World.size_alloc, World.size_drew] at zx); (first | replace f1 := carry kx f1 (by first | exact (fun q => q) | (simp only [dset]; omega) | omega | (dsimp only; omega)) | replace f1 := carry kx (blk_alloc f1 _) (by first | exact (fun q => q) | (simp only [dset]; omega) | omega | (dsimp only; omega)) | replace f1 := carry kx (blk_alloc (blk_alloc f1 _) _) (by first | exact (fun q => q) | (simp only [dset]; omega) | omega | (dsimp only; omega))); (first | replace f2 := carry kx f2 (by first | exact (fun q => q) | (simp only [dset]; omega) | omega | (dsimp only; omega)) | replace f2 := carry kx (blk_alloc f2 _) (by first | exact (fun q => q) | (simp only [dset]; omega) | omega | (dsimp only; omega)) | replace f2 := carry kx (blk_alloc (blk_alloc f2 _) _) (by first | exact (fun q => q) | (simp only [dset]; omega) | omega | (dsimp only; omega))); (first | replace f3 := carry kx f3 (by first | exact (fun q => q) | (simp only [dset]; omega) | omega | (dsimp only; omega)) | replace f3 := carry kx (blk_alloc f3 _) (by first | exact (fun q => q) | (simp only [dset]; omega) | omega | (dsimp only; omega)) | replace f3 := carry kx (blk_alloc (blk_alloc f3 _) _) (by first | exact (fun q => q) | (simp only [dset]; omega) | omega | (dsimp only; omega))); replace hk := Keeps.trans_new (by first | exact hk | exact hk.alloc _ | exact (hk.alloc _).alloc _ | exact hk.drew | exact hk.drew.alloc _ | exact (hk.alloc _).drew | exact ((hk.alloc _).alloc _).drew) kx (fun k hk q => by first | exact q.elim | (simp only [dset] at q; omega) | omega | (dsimp only at q; omega)); replace hz := Nat.le_trans hz (Nat.le_trans (by omega) zx); replace hA := hx; clear hx kx zx) | (go_at_call 18; (with_reducible refine (dRoot (by first | exact hA | exact hA.alloc _ | exact (hA.alloc _).alloc _ | exact hA.drew | exact hA.drew.alloc _ | exact (hA.alloc _).drew | exact ((hA.alloc _).alloc _).drew) e6).mono ?_); rintro e Wx ⟨rfl, hx, kx⟩; skip; have zx := kx.size; (try simp only [World.size_alloc, World.size_drew] at zx); (first | replace f1 := carry kx f1 (by first | exact (fun q => q) | (simp only [dset]; omega) | omega | (dsimp only; omega)) | replace f1 := carry kx (blk_alloc f1 _) (by first | exact (fun q => q) | (simp only [dset]; omega) | omega | (dsimp only; omega)) | replace f1 := carry kx (blk_alloc (blk_alloc f1 _) _) (by first | exact (fun q => q) | (simp only [dset]; omega) | omega | (dsimp only; omega))); (first | replace f2 := carry kx f2 (by first | exact (fun q => q) | (simp only [dset]; omega) | omega | (dsimp only; omega)) | replace f2 := carry kx (blk_alloc f2 _) (by first | exact (fun q => q) | (simp only [dset]; omega) | omega | (dsimp only; omega)) | replace f2 := carry kx (blk_alloc (blk_alloc f2 _) _) (by first | exact (fun q => q) | (simp only [dset]; omega) | omega | (dsimp only; omega))); (first | replace f3 := carry kx f3 (by first | exact (fun q => q) | (simp only [dset]; omega) | omega | (dsimp only; omega)) | replace f3 := carry kx (blk_alloc f3 _) (by first | exact (fun q => q) | (simp only [dset]; omega) | omega | (dsimp only; omega)) | replace f3 := carry kx (blk_alloc (blk_alloc f3 _) _) (by first | exact (fun q => q) | (simp only [dset]; omega) | omega | (dsimp only; omega))); replace hk := Keeps.trans_new (by first | exact hk | exact hk.alloc _ | exact (hk.alloc _).alloc _ | exact hk.drew | exact hk.drew.alloc _ | exact (hk.alloc _).drew | exact ((hk.alloc _).alloc _).drew) kx (fun k hk q => by first | exact q.elim | (simp only [dset] at q; omega) | omega | (dsimp only at q; omega)); replace hz := Nat.le_trans hz (Nat.le_trans (by omega) zx); replace hA := hx; clear hx kx zx) | (go_at_call 18; (with_reducible refine (dRoot (by first | exact hA | exact hA.alloc _ | exact (hA.alloc _).alloc _ | exact hA.drew | exact hA.drew.alloc _ | exact (hA.alloc _).drew | exact ((hA.alloc _).alloc _).drew) e7).mono ?_); rintro e Wx ⟨rfl, hx, kx⟩; have f4 := carry kx (heap_alloc_eq _ _ _ rfl) (by first | exact (fun q => q) | (simp only [dset]; omega) | omega | (dsimp only; omega)); have c4 := fun o => cell_blk (blk_alloc f4 o) 0 _ rfl; have zx := kx.size; (try simp only [World.size_alloc, World.size_drew] at zx); (first | replace f1 := carry kx f1 (by first | exact (fun q => q) | (simp only [dset]; omega) | omega | (dsimp only; omega)) | replace f1 := carry kx (blk_alloc f1 _) (by first | exact (fun q => q) | (simp only [dset]; omega) | omega | (dsimp only; omega)) | replace f1 := carry kx (blk_alloc (blk_alloc f1 _) _) (by first | exact (fun q => q) | (simp only [dset]; omega) | omega | (dsimp only; omega))); (first | replace f2 := carry kx f2 (by first | exact (fun q => q) | (simp only [dset]; omega) | omega | (dsimp only; omega)) | replace f2 := carry kx (blk_alloc f2 _) (by first | exact (fun q => q) | (simp only [dset]; omega) | omega | (dsimp only; omega)) | replace f2 := carry kx (blk_alloc (blk_alloc f2 _) _) (by first | exact (fun q => q) | (simp only [dset]; omega) | omega | (dsimp only; omega))); (first | replace f3 := carry kx f3 (by first | exact (fun q => q) | (simp only [dset]; omega) | omega | (dsimp only; omega)) | replace f3 := carry kx (blk_alloc f3 _) (by first | exact (fun q => q) | (simp only [dset]; omega) | omega | (dsimp only; omega)) | replace f3 := carry kx (blk_alloc (blk_alloc f3 _) _) (by first | exact (fun q => q) | (simp only [dset]; omega) | omega | (dsimp only; omega))); replace hk := Keeps.trans_new (by first | exact hk | exact hk.alloc _ | exact (hk.alloc _).alloc _ | exact hk.drew | exact hk.drew.alloc _ | exact (hk.alloc _).drew | exact ((hk.alloc _).alloc _).drew) kx (fun k hk q => by first | exact q.elim | (simp only [dset] at q; omega) | omega | (dsimp only at q; omega)); replace hz := Nat.le_trans hz (Nat.le_trans (by omega) zx); replace hA := hx; clear hx kx zx) | ((with_reducible apply wpl_store_all 23 (n := 3) (vs := [.bool false, .int .i64 xe, .int .i64 xg]) (hs := Try.sizeOf23) (L := [.bool false, .int .i64 0, .int .i64 0]) (t := 23)); rfl; rfl; rfl; simp (disch := (first | (simp only [World.size_alloc, World.size_setCell, World.size_drew, size_setRow, heap_drew, heap_drewN]; done) | ((try simp only [World.size_alloc, World.size_setCell, World.size_drew, size_setRow, heap_drew, heap_drewN]); omega))) only [heap_drew, heap_drewN, heap_alloc_ne, heap_alloc_eq, heap_setCell_ne, heap_setRow_ne]; rfl; (intro v hv; simp at hv; rcases hv with rfl | rfl | rfl <;> rfl); rfl; rfl; simp (disch := (first | (simp only [World.size_alloc, World.size_setCell, World.size_drew, size_setRow, heap_drew, heap_drewN]; done) | ((try simp only [World.size_alloc, World.size_setCell, World.size_drew, size_setRow, heap_drew, heap_drewN]); omega))) only [setRow_alloc_top, setRow_alloc_under]) | ((with_reducible apply wpl_store_all 23 (n := 3) (vs := [.bool other.on, .int .i64 (mayE other.epoch), .int .i64 (mayG other.page)]) (hs := Try.sizeOf23) (L := [.bool false, .int .i64 0, .int .i64 0]) (t := 23)); rfl; rfl; rfl; simp (disch := (first | (simp only [World.size_alloc, World.size_setCell, World.size_drew, size_setRow, heap_drew, heap_drewN]; done) | ((try simp only [World.size_alloc, World.size_setCell, World.size_drew, size_setRow, heap_drew, heap_drewN]); omega))) only [heap_drew, heap_drewN, heap_alloc_ne, heap_alloc_eq, heap_setCell_ne, heap_setRow_ne]; rfl; (intro v hv; simp at hv; rcases hv with rfl | rfl | rfl <;> rfl); rfl; rfl; simp (disch := (first | (simp only [World.size_alloc, World.size_setCell, World.size_drew, size_setRow, heap_drew, heap_drewN]; done) | ((try simp only [World.size_alloc, World.size_setCell, World.size_drew, size_setRow, heap_drew, heap_drewN]); omega))) only [setRow_alloc_top, setRow_alloc_under]))
    all_goals go_ret
    all_goals exact ⟨rfl, (by first | exact hk | exact hk.alloc _ | exact (hk.alloc _).alloc _ | exact hk.drew | exact hk.drew.alloc _ | exact (hk.alloc _).drew | exact ((hk.alloc _).alloc _).drew)⟩
end Go.Proofs.Ytckopikeegegkaa
