/- DISK 5: the contract of Flush. -/
import Derived.Test.YtckopikeegegkaaPure3
import Derived.Test.YtckopikeegegkaaMapRange
import Derived.Test.YtckopikeegegkaaLaws4
import Derived.Test.YtckopikeegegkaaRows64
namespace Go.Proofs.Ytckopikeegegkaa
open Go.RowKit Go.MapKept Go.Maps Go.Shelf
open Go.ChangeMaps (setBlock)
set_option linter.unusedSimpArgs false
set_option linter.unusedVariables false
variable {p q m : Nat} {D : Dk}

set_option maxHeartbeats 1000000 in
theorem flush_nil (w : World) : Calls Try.prog 31 #[.pointer none] w fun e w' => e = .returned (.int .i64 2) ∧ w = w' := by
  go_enter Try.func31, Try.ntmps31
  go_wp2
  go_ret
  exact ⟨rfl, rfl⟩
set_option maxHeartbeats 1000000 in
theorem flush_dead (w : World) (h : DiskAt w p q m D) (h0 : D.left = 0) :
    Calls Try.prog 31 #[.pointer (some ⟨p, 0, none⟩)] w fun e w' => e = .returned (.int .i64 42) ∧ w = w' := by
  have hb := burn_dead w h h0
  go_enter Try.func31, Try.ntmps31
  go_wp2_with (go_at_call 62; refine hb.mono ?_; rintro e w' ⟨rfl, rfl⟩)
  go_ret
  exact ⟨rfl, rfl⟩
theorem settle_64 : ∀ {A : List (Nat × Str)} {t : List Str}, (∀ p ∈ A, p.2.length = 64) → (∀ s ∈ t, s.length = 64) → ∀ s ∈ Dk.settle A t, s.length = 64
  | [], t, _, ht, s, hs => ht s hs
  | p :: l, t, hA, ht, s, hs => settle_64 (A := l) (fun q hq => hA q (List.mem_cons_of_mem _ hq)) (fun x hx => by
      rcases List.mem_or_eq_of_mem_set hx with hx | rfl
      · exact ht x hx
      · exact hA p List.mem_cons_self) s hs
theorem settleBy_64 {A : List (Nat × Str)} (hA : ∀ p ∈ A, p.2.length = 64) : ∀ {done : List Nat} {t : List Str}, (∀ n ∈ done, n ∈ A.map (·.1)) → (∀ s ∈ t, s.length = 64) → ∀ s ∈ settleBy A done t, s.length = 64
  | [], t, _, ht, s, hs => ht s hs
  | n :: l, t, hd, ht, s, hs => settleBy_64 hA (done := l) (t := t.set n ((Dk.look n A).getD [])) (fun k hk => hd k (List.mem_cons_of_mem _ hk)) (fun x hx => by
      rcases List.mem_or_eq_of_mem_set hx with hx | rfl
      · exact ht x hx
      · obtain ⟨s, hs⟩ := mem_keys_look (hd n List.mem_cons_self)
        rw [hs]; exact hA _ (look_some hs)) s hs
theorem flush_wf {D : Dk} (h : D.Wf) : Dk.Wf ⟨Dk.settle D.aside D.there, [], Dk.burnt D.left⟩ :=
  ⟨settle_64 (fun p hp => (h.aside p hp).2) h.there, by simp, by simp, burnt_bounds h.left.1 h.left.2, by rw [settle_length]; exact h.pos, by rw [settle_length]; exact h.small⟩
theorem Keeps.setBlock {S : Nat → Prop} {w w' : World} (h : Keeps S w w') {b : Nat} (hb : b < w.heap.size → S b) (o : Obj) : Keeps S w (setBlock w' b o) :=
  ⟨h.os, h.tape, h.output, by simpa [Go.ChangeMaps.setBlock] using h.size, fun k hk hs => by
    have e : k ≠ b := fun e => hs (e ▸ hb (e ▸ hk))
    rw [show (Go.ChangeMaps.setBlock w' b o).heap[k]? = w'.heap[k]? by simp [Go.ChangeMaps.setBlock, Ne.symm e]]
    exact h.block k hk hs⟩
theorem setBlock_ne (w : World) (b k : Nat) (o : Obj) (h : k ≠ b) : (setBlock w b o).heap[k]? = w.heap[k]? := by simp [Go.ChangeMaps.setBlock, Ne.symm h]
theorem Ranging.same {w w' : World} {b r : Nat} {A : List (Nat × Str)} {done : List Nat} (h : Ranging w b r A done) (hb : w'.heap[b]? = w.heap[b]?) (hr : w'.heap[r]? = w.heap[r]?) : Ranging w' b r A done := by
  obtain ⟨⟨es, clock, since, seen, c0, h1, h2, h3, h4⟩, h5, h6⟩ := h
  exact ⟨⟨es, clock, since, seen, c0, hb.trans h1, h2, hr.trans h3, h4⟩, h5, h6⟩
theorem rangeLeft_same {w w' : World} {b r : Nat} (hb : w'.heap[b]? = w.heap[b]?) (hr : w'.heap[r]? = w.heap[r]?) : w'.rangeLeft b r = w.rangeLeft b r := by unfold World.rangeLeft; rw [hb, hr]
theorem Ranging.lt {w : World} {b r : Nat} {A : List (Nat × Str)} {done : List Nat} (h : Ranging w b r A done) : b < w.heap.size ∧ r < w.heap.size := by
  obtain ⟨⟨es, clock, since, seen, c0, h1, h2, h3, h4⟩, h5, h6⟩ := h
  exact ⟨(Array.getElem?_eq_some_iff.1 h1).1, (Array.getElem?_eq_some_iff.1 h3).1⟩
theorem mapRep_nil (clock : Nat) : MapRep #[] clock [] := ⟨by simp, by simp, by simp⟩
set_option maxHeartbeats 2000000 in
theorem flush_live (w : World) (h : DiskAt w p q m D) (h0 : (D.left == 0) = false) :
    Calls Try.prog 31 #[.pointer (some ⟨p, 0, none⟩)] w fun e w' => e = .returned (.int .i64 0) ∧ DiskAt w' p q m ⟨Dk.settle D.aside D.there, [], Dk.burnt D.left⟩ ∧ Keeps (dset p q m) w w' := by
  have hb := burn_live w h h0
  have lp := h.lt_p; have lq := h.lt_q; have lm := h.lt_m
  have npq := h.ne_pq; have npm := h.ne_pm; have nqm := h.ne_qm
  have hd1 := h.setLeft (Dk.burnt D.left) (burnt_bounds h.wf.left.1 h.wf.left.2).1 (burnt_bounds h.wf.left.1 h.wf.left.2).2
  obtain ⟨cap, hcap, hs⟩ := hd1.strct
  obtain ⟨rest, hrow⟩ := hd1.row
  obtain ⟨es, clock, hm, hR⟩ := hd1.kept
  dsimp only at hs hrow hR
  have kw : Keeps (dset p q m) w (w.setCell ⟨p, 2, none⟩ (.int .i64 (Dk.burnt D.left))) := (Keeps.refl _ _).setCell (a := ⟨p, 2, none⟩) (fun _ => .inl rfl) _
  have wf := h.wf
  have zw : (w.setCell ⟨p, 2, none⟩ (.int .i64 (Dk.burnt D.left))).heap.size = w.heap.size := by simp
  obtain ⟨hrun0, hrg0⟩ := ranging_start (P := Try.prog) 86 3 96 Try.underlying86 hm hR
  have c1 : (w.setCell ⟨p, 2, none⟩ (.int .i64 (Dk.burnt D.left))).cell? ⟨p, 1, none⟩ = some (.map (some m)) := by simp [World.cell?, hs]
  clear hd1 h
  go_enter Try.func31, Try.ntmps31
  go_wp2_with (go_at_call 62; refine hb.mono ?_; rintro e w' ⟨rfl, rfl⟩)
  clear hrun0 c1 hb
  rw [zw] at hrg0
  have f1 : ((w.setCell ⟨p, 2, none⟩ (.int .i64 (Dk.burnt D.left))).alloc (.mapIter (some m) clock #[] clock)).heap[p]? = _ := (heap_alloc_ne _ _ _ (by rw [zw]; omega)).trans hs
  have f2 : ((w.setCell ⟨p, 2, none⟩ (.int .i64 (Dk.burnt D.left))).alloc (.mapIter (some m) clock #[] clock)).heap[q]? = _ := (heap_alloc_ne _ _ _ (by rw [zw]; omega)).trans hrow
  have k2 : Keeps (dset p q m) w ((w.setCell ⟨p, 2, none⟩ (.int .i64 (Dk.burnt D.left))).alloc (.mapIter (some m) clock #[] clock)) := kw.alloc _
  have z2 : ((w.setCell ⟨p, 2, none⟩ (.int .i64 (Dk.burnt D.left))).alloc (.mapIter (some m) clock #[] clock)).heap.size = w.heap.size + 1 := by simp
  generalize ((w.setCell ⟨p, 2, none⟩ (.int .i64 (Dk.burnt D.left))).alloc (.mapIter (some m) clock #[] clock)) = W2 at *
  clear hs hrow hm kw zw
  generalize hnl : Dk.burnt D.left = nl at *
  go_loopw [4] (fun _ wr => ∃ done, Ranging wr m w.heap.size D.aside done ∧ wr.heap[p]? = some (.cells #[.slice (some ⟨q, 0, none⟩) D.there.length cap, .map (some m), .int .i64 nl] 88) ∧
      wr.heap[q]? = some (.cells ((settleBy D.aside done D.there).flatMap encB ++ rest).toArray 96) ∧ Keeps (dset p q m) w wr ∧ w.heap.size < wr.heap.size)
    (fun _ wr => wr.rangeLeft m w.heap.size)
  case atStart => exact ⟨[], hrg0, f1, f2, k2, by omega⟩
  case round =>
    obtain ⟨done, hrg, g1, g2, kr, zr⟩ := hrel
    rcases ranging_next (P := Try.prog) hrg wf.rises 0 with ⟨hall, hrun⟩ | ⟨n, s, w2, hmem, hnd, hrun, hrg2, hlt, hk2, hsz, hen⟩
    · obtain ⟨⟨es2, clock2, since, seen, c0, hm2, hR2, _⟩, _, hkeys⟩ := hrg
      have hcl := run_clearMap (P := Try.prog) 86 3 96 0 m es2 clock2 Try.underlying86 hm2
      have c1 : wr.cell? ⟨p, 1, none⟩ = some (.map (some m)) := by simp [World.cell?, g1]
      have hall2 := settleBy_all wf.rises (t := D.there) (fun x hx => (wf.aside x hx).1) hkeys hall
      go_wp2
      go_ret
      refine ⟨rfl, ⟨⟨cap, by rw [settle_length]; exact hcap, ?_⟩, ⟨rest, ?_⟩, ⟨#[], clock2, (heap_set hm2).1, mapRep_nil _⟩, flush_wf wf⟩, kr.setBlock (fun _ => .inr (.inr rfl)) _⟩
      · rw [setBlock_ne _ _ _ _ npm, g1, settle_length, hnl]
      · rw [setBlock_ne _ _ _ _ nqm, g2, hall2]
    · have sl : s.length = 64 := (wf.aside _ hmem).2
      have hls := look_mem wf.rises hmem
      have hnl2 : n < D.there.length := (wf.aside _ hmem).1
      have tl := settleBy_length D.aside done D.there
      have t64 := settleBy_64 (fun x hx => (wf.aside x hx).2) (t := D.there) hrg.keys wf.there
      have e1 := rows_set sl rest n t64 (by omega)
      have e2 := settleBy_snoc D.aside done n D.there
      rw [hls] at e2
      have rlt := hrg2.lt
      have k2p : p ≠ w.heap.size := by omega
      have k2q : q ≠ w.heap.size := by omega
      have i1 := (hk2.block p (by omega) k2p).trans g1
      have i2 := (hk2.block q (by omega) k2q).trans g2
      have E1 := Lib.hid e1
      have E2 := Lib.hid e2
      clear e1 e2 hls hrg
      go_wp2_with (first | (with_reducible refine wpl_alloc 96 Z64 rfl zero_sector rfl ?_) | ((with_reducible apply wpl_store_all 96 (n := 64) (vs := encB s) (hs := Try.sizeOf96) (L := Z64) (t := 96)); rfl; rfl; rfl; simp (disch := (first | (simp only [World.size_alloc, World.size_setCell, World.size_drew, size_setRow, heap_drew, heap_drewN]; done) | ((try simp only [World.size_alloc, World.size_setCell, World.size_drew, size_setRow, heap_drew, heap_drewN]); omega))) only [heap_drew, heap_drewN, heap_alloc_ne, heap_alloc_eq, heap_setCell_ne, heap_setRow_ne]; exact (encB_length s).trans sl; exact encB_one _; exact Z64_length; rfl; simp (disch := (first | (simp only [World.size_alloc, World.size_setCell, World.size_drew, size_setRow, heap_drew, heap_drewN]; done) | ((try simp only [World.size_alloc, World.size_setCell, World.size_drew, size_setRow, heap_drew, heap_drewN]); omega))) only [setRow_alloc_top, setRow_alloc_under]))
      have j1 : (w2.alloc (.cells (encB s).toArray 96)).heap[p]? = _ := (heap_alloc_ne _ _ _ (by omega)).trans i1
      have j2 : (w2.alloc (.cells (encB s).toArray 96)).heap[q]? = _ := (heap_alloc_ne _ _ _ (by omega)).trans i2
      have j3 : (w2.alloc (.cells (encB s).toArray 96)).heap[wr.heap.size]? = some (.cells (encB s).toArray 96) := by rw [← hsz]; simp (disch := (first | (simp only [World.size_alloc, World.size_setCell, World.size_drew, size_setRow, heap_drew, heap_drewN]; done) | ((try simp only [World.size_alloc, World.size_setCell, World.size_drew, size_setRow, heap_drew, heap_drewN]); omega))) only [heap_drew, heap_drewN, heap_alloc_ne, heap_alloc_eq, heap_setCell_ne, heap_setRow_ne]
      have hrg3 : Ranging (w2.alloc (.cells (encB s).toArray 96)) m w.heap.size D.aside (done ++ [n]) := hrg2.same (heap_alloc_ne _ _ _ (by omega)) (heap_alloc_ne _ _ _ (by omega))
      have hl3 : (w2.alloc (.cells (encB s).toArray 96)).rangeLeft m w.heap.size = w2.rangeLeft m w.heap.size := rangeLeft_same (heap_alloc_ne _ _ _ (by omega)) (heap_alloc_ne _ _ _ (by omega))
      have k3 : Keeps (dset p q m) w (w2.alloc (.cells (encB s).toArray 96)) := (kr.trans_new hk2 (fun k hk q => by omega)).alloc _
      have z3 : (w2.alloc (.cells (encB s).toArray 96)).heap.size = wr.heap.size + 1 := by simp [hsz]
      rw [← hl3] at hlt
      generalize (w2.alloc (.cells (encB s).toArray 96)) = W3 at *
      clear i1 i2 hrg2 hrun hen hk2 hl3 hsz
      have c0 : W3.cell? ⟨p, 0, none⟩ = some (.slice (some ⟨q, 0, none⟩) D.there.length cap) := by simp [World.cell?, j1]
      refine wp_region_text [(0, true), (1, true), (2, true), (3, true), (4, true), (5, true), (6, true), (7, false)] (fun W' => W'.cell? ⟨p, 0, none⟩ = some (.slice (some ⟨q, 0, none⟩) D.there.length cap) ∧ W'.heap[wr.heap.size]? = some (.cells (encB s).toArray 96)) (by kernel_rfl) (by kernel_rfl) (fun d _ _ _ _ h => by cases d <;> exact h) ⟨by simpa using c0, j3⟩ ?_
      iterate 3 (apply wpText_take; rfl; rfl; (intro W hS; (try dsimp only at hS); go_simp; exact rfl))
      simp only [Act.put, List.setIfInBounds_toArray, List.set_cons_succ, List.set_cons_zero]
      apply wpText_take; rfl; rfl; (intro W' hS; have hS1 := hS.1; go_simp; exact rfl)
      (apply wpText_take; rfl; rfl; (intro W hS; (try dsimp only at hS); go_simp; exact rfl))
      simp only [Act.put, List.setIfInBounds_toArray, List.set_cons_succ, List.set_cons_zero]
      apply wpText_take (v := .agg (List.toArray (encB s))); rfl; rfl; intro W' hS; refine exec_run (s := Instr.loadAt 96 (.pointer (some ⟨wr.heap.size, 0, none⟩))) rfl (run_loadAll 96 64 (wr.heap.size) (encB s) 96 (0, 0) Try.isAgg96 Try.sizeOf96 hS.2 ((encB_length s).trans sl))
      simp only [Act.put, List.setIfInBounds_toArray, List.set_cons_succ, List.set_cons_zero]
      apply wpText_take (v := .pointer (some ⟨q, n * 64, none⟩)); rfl; rfl; intro W' hS; refine exec_run (s := Instr.indexAt 85 (.slice (some ⟨q, 0, none⟩) D.there.length cap) (.int .i64 (n : Nat))) rfl (run_indexRows 85 96 64 q D.there.length cap n Try.underlying85 Try.sizeOf96 hnl2)
      simp only [Act.put, List.setIfInBounds_toArray, List.set_cons_succ, List.set_cons_zero]
      apply wpText_goL; rfl; intro K hK
      apply wpl_store 96 (n := 64) (vs := encB s) (hs := Try.sizeOf96) (L := (settleBy D.aside done D.there).flatMap encB ++ rest) (t := 96); rfl; rfl; rfl; exact j2; exact (encB_length s).trans sl; exact encB_one s; (rw [List.length_append, flat_length t64, tl]; omega); rfl
      have es : (encB s).length = 64 := (encB_length s).trans sl
      rw [es, E1.out]
      have b1 : wr.heap.size ≠ q := by have := kr.size; omega
      refine wpl_end (hK _ _ ⟨by rw [cell_setRow_other _ _ _ _ (by simp only []; exact npq)]; simpa using c0, (setRow_other _ _ _ _ b1).trans j3⟩ ?_)
      clear hK K
      simp only [Act.put, List.setIfInBounds_toArray, List.set_cons_succ, List.set_cons_zero]
      apply wpText_done
      go_wp2
      refine ⟨⟨done ++ [n], hrg3.same (setRow_other _ _ _ _ (Ne.symm nqm)) (setRow_other _ _ _ _ (Ne.symm k2q)), (setRow_other _ _ _ _ npq).trans j1, ?_, k3.drew.setRow (fun _ => .inr (.inl rfl)) _, ?_⟩, ?_⟩
      · rw [E2.out]; exact setRow_eq _ _ _ _ _ _ j2
      · rw [size_setRow]; simp; omega
      · rw [rangeLeft_same (w := W3.drew) (setRow_other _ _ _ _ (Ne.symm nqm)) (setRow_other _ _ _ _ (Ne.symm k2q))]; exact hlt
theorem flush_calls (w : World) (h : DiskAt w p q m D) :
    Calls Try.prog 31 #[.pointer (some ⟨p, 0, none⟩)] w fun e w' => e = .returned (.int .i64 D.flush.1) ∧ DiskAt w' p q m D.flush.2 ∧ Keeps (dset p q m) w w' := by
  by_cases h0 : D.left = 0
  · have e : D.flush = (42, D) := by simp [Dk.flush, h0]
    rw [e]
    refine (flush_dead w h h0).mono ?_
    rintro e w' ⟨rfl, rfl⟩
    exact ⟨rfl, h, Keeps.refl _ _⟩
  · have e : D.flush = (0, ⟨Dk.settle D.aside D.there, [], Dk.burnt D.left⟩) := by simp [Dk.flush, h0]
    rw [e]
    exact flush_live w h (by simpa using h0)
end Go.Proofs.Ytckopikeegegkaa
