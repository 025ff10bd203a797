/- DISK 7: the contract of Crash. -/
import Derived.Test.YtckopikeegegkaaLaws5
namespace Go.Proofs.Ytckopikeegegkaa
open Go.RowKit Go.MapKept Go.Maps Go.Shelf
open Go.ChangeMaps (setBlock)
set_option linter.unusedSimpArgs false
set_option linter.unusedVariables false
variable {p q m : Nat} {D : Dk}

set_option maxHeartbeats 1000000 in
theorem crash_bad (keep : Value) (torn cut : Int) (w : World) (hc : cut < 0 ∨ 64 < cut) :
    Calls Try.prog 29 #[.pointer (some ⟨p, 0, none⟩), keep, .int .i64 torn, .int .i64 cut] w fun e w' => e = .returned (.int .i64 1) ∧ w = w' := by
  by_cases h0 : cut < 0
  · have k0 : decide (cut < 0) = true := by simpa using h0
    go_enter Try.func29, Try.ntmps29
    go_wp2
    go_ret
    exact ⟨rfl, rfl⟩
  · have k0 : decide (cut < 0) = false := by simpa using h0
    have k1 : decide (64 < cut) = true := by simp; omega
    go_enter Try.func29, Try.ntmps29
    go_wp2
    go_ret
    exact ⟨rfl, rfl⟩
set_option maxHeartbeats 1000000 in
theorem crash_nil (keep : Value) (torn cut : Int) (w : World) :
    Calls Try.prog 29 #[.pointer none, keep, .int .i64 torn, .int .i64 cut] w fun e w' => e = .returned (.int .i64 2) ∧ w = w' := by
  go_enter Try.func29, Try.ntmps29
  go_wp2
  go_ret
  exact ⟨rfl, rfl⟩
/-- The keys' row, said of a slice whose base may be none. -/
theorem keys_row {w : World} {b : Nat} {v : Value} {A : List (Nat × Str)} (h : w.ownsRow b 3 1 v A.length ((keysOf A).map (Value.int .i64))) :
    ∃ (ad : Option Addr) (cap : Nat), v = .slice ad A.length cap ∧ ∀ k (hk : k < A.length), ∃ g, ad = some ⟨g, 0, none⟩ ∧ b ≤ g ∧ g < w.heap.size ∧ w.cell? ⟨g, k, none⟩ = some (.int .i64 (A[k].1 : Nat)) := by
  obtain ⟨h0, ⟨rfl, hz⟩ | ⟨g, cap, cur, rfl, hb, hg, h1, h2, h3, h4⟩⟩ := h
  · exact ⟨none, 0, by rw [hz], fun k hk => by omega⟩
  · refine ⟨some ⟨g, 0, none⟩, cap, rfl, fun k hk => ⟨g, rfl, hb, (Array.getElem?_eq_some_iff.1 hg).1, ?_⟩⟩
    have e1 : cur.toList[k]? = some (.int .i64 (A[k].1 : Nat)) := by
      have : (cur.toList.take (A.length * 1))[k]? = ((keysOf A).map (Value.int .i64))[k]? := by rw [h4]
      rw [List.getElem?_take_of_lt (by omega)] at this
      rw [this]
      simp [keysOf, hk]
    simp only [World.cell?, hg]
    rw [← Array.getElem?_toList]; exact e1
theorem aside_len {D : Dk} (wf : D.Wf) : D.aside.length ≤ 4096 := by
  have h1 := nodup_le (k := D.aside.map (·.1)) (l := List.range D.there.length) (keys_nodup wf.rises) (fun n hn => by
    obtain ⟨x, hx, rfl⟩ := List.mem_map.1 hn
    exact List.mem_range.2 (wf.aside x hx).1)
  have := wf.small
  rw [List.length_map, List.length_range] at h1
  omega
theorem fall_wf {D : Dk} (h : D.Wf) {keep : List Bool} {torn : Int} {cut : Nat} (hcut : cut ≤ 64) : Dk.Wf ⟨Dk.fall keep torn cut 0 D.aside D.there, [], -1⟩ :=
  ⟨fall_64 keep torn hcut h.aside h.there, by simp, by simp, ⟨by simp, by simp⟩, by rw [fall_length]; exact h.pos, by rw [fall_length]; exact h.small⟩
set_option maxRecDepth 20000 in
set_option maxHeartbeats 4000000 in
theorem crash_good (kv : Value) (keep : List Bool) (torn : Int) (cut : Nat) (w : World) (h : DiskAt w p q m D) (hcut : cut ≤ 64) (hkv : BoolsAt w kv keep)
    (hap : 0 < keep.length → ∀ a n c, kv = .slice (some a) n c → ¬ dset p q m a.block) :
    Calls Try.prog 29 #[.pointer (some ⟨p, 0, none⟩), kv, .int .i64 torn, .int .i64 cut] w fun e w' =>
      e = .returned (.int .i64 0) ∧ DiskAt w' p q m ⟨Dk.fall keep torn cut 0 D.aside D.there, [], -1⟩ ∧ Keeps (dset p q m) w w' := by
  have lp := h.lt_p; have lq := h.lt_q; have lm := h.lt_m
  have npq := h.ne_pq; have npm := h.ne_pm; have nqm := h.ne_qm
  have wf := h.wf
  have ha := aside_calls w h
  have k0 : decide ((cut : Int) < 0) = false := by simp
  have k1 : decide (64 < (cut : Int)) = false := by simp; omega
  obtain ⟨kad, kcap, rfl, hkc⟩ : ∃ ad cap, kv = .slice ad keep.length cap ∧ ∀ k (hk : k < keep.length), ∃ a, ad = some a ∧ ¬ dset p q m a.block ∧ a.block < w.heap.size ∧ w.cell? (a.add k) = some (.bool keep[k]) := by
    rcases hkv with ⟨rfl, rfl⟩ | ⟨a, cap, rfl, hc⟩
    · exact ⟨none, 0, rfl, fun k hk => by simp at hk⟩
    · refine ⟨some a, cap, rfl, fun k hk => ⟨a, rfl, hap (by omega) a _ _ rfl, ?_, hc k hk⟩⟩
      have := hc k hk
      have hb : (a.add k).block = a.block := by unfold Addr.add; split <;> rfl
      rw [← hb]
      cases hh : w.heap[(a.add k).block]? with
      | none => simp [World.cell?, hh] at this
      | some o => exact (Array.getElem?_eq_some_iff.1 hh).1
  clear hkv hap
  go_enter Try.func29, Try.ntmps29
  go_wp2_with (go_at_call 27; refine ha.mono ?_; rintro e w1 ⟨v, rfl, hrow, hnil, hk1⟩; obtain ⟨ad, cap, rfl, hkeys⟩ := keys_row hrow; clear hrow hnil)
  obtain ⟨rcap, hc, hs⟩ := h.strct
  obtain ⟨rest, hrow⟩ := h.row
  obtain ⟨es, clock, hm, hR⟩ := h.kept
  have hA := wf.rises
  have z1 := hk1.size
  clear ha
  go_loopw [25] (fun i wr => ∃ k : Nat, k ≤ D.aside.length ∧ i = .int .i64 k ∧ wr.heap[p]? = some (.cells #[.slice (some ⟨q, 0, none⟩) D.there.length rcap, .map (some m), .int .i64 D.left] 88) ∧
      wr.heap[q]? = some (.cells ((Dk.fall keep torn cut 0 (D.aside.take k) D.there).flatMap encB ++ rest).toArray 96) ∧ wr.heap[m]? = some (.map es clock) ∧
      (∀ b, w.heap.size ≤ b → b < w1.heap.size → wr.heap[b]? = w1.heap[b]?) ∧ Keeps (dset p q m) w wr ∧ w1.heap.size ≤ wr.heap.size)
    (fun i _ => D.aside.length - (intOf i).toNat)
  case atStart =>
    exact ⟨0, Nat.zero_le _, rfl, (hk1.block p lp (fun q => q)).trans hs, (hk1.block q lq (fun q => q)).trans hrow, (hk1.block m lm (fun q => q)).trans hm, fun b _ _ => rfl, hk1.mono (fun _ _ q => q.elim), Nat.le_refl _⟩
  case round =>
    obtain ⟨k, hk, rfl, g1, g2, g3, g4, kr, zr⟩ := hrel
    by_cases hlt : k < D.aside.length
    · obtain ⟨g, rfl, hg0, hg1, hcell⟩ := hkeys k hlt
      have hcell2 : wr.cell? ⟨g, k, none⟩ = some (.int .i64 (D.aside[k].1 : Nat)) := (World.cell?_of_block (w := w1) (g4 g hg0 hg1)).trans hcell
      have hx := List.getElem_mem hlt
      have hx1 := wf.aside _ hx
      have hlk := look_mem hA (n := D.aside[k].1) (s := D.aside[k].2) hx
      have htk : D.aside.take (k + 1) = D.aside.take k ++ [D.aside[k]] := by rw [List.take_succ_eq_append_getElem hlt]
      have hsn := fall_snoc keep torn cut D.aside[k] (D.aside.take k) 0 D.there
      rw [← htk, List.length_take, Nat.min_eq_left (by omega), Nat.zero_add] at hsn
      have t64 := fall_64 keep torn hcut (A := D.aside.take k) (j := 0) (t := D.there) (fun x hx => wf.aside x (List.mem_of_mem_take hx)) wf.there
      have tl := fall_length keep torn cut (D.aside.take k) 0 D.there
      generalize D.aside[k] = x at *
      obtain ⟨n, s⟩ := x
      dsimp only at *
      have hlook := run_lookup1 g3 hR hA n hlk
      have sl := hx1.2
      have nl := hx1.1
      generalize Dk.fall keep torn cut 0 (D.aside.take k) D.there = T at *
      have Hsn := Lib.hid hsn
      clear hsn htk hlk hcell hkeys hx
      have c1 : wr.cell? ⟨p, 1, none⟩ = some (.map (some m)) := by simp [World.cell?, g1]
      have kk : (k : Int) ≤ 4096 := by have := aside_len wf; omega
      by_cases ht : (k : Int) = torn
      · have b0 : ((k : Int) == torn) = true := by simpa using ht
        have Ht := Lib.hid ht
        clear ht
        go_wp2_with (first | (with_reducible refine wpl_alloc 96 Z64 rfl zero_sector rfl ?_) | ((with_reducible apply wpl_store_all 96 (n := 64) (vs := encB s) (hs := Try.sizeOf96) (L := Z64) (t := 96)); rfl; rfl; rfl; simp (disch := (first | (simp only [World.size_alloc, World.size_setCell, World.size_drew, size_setRow, heap_drew, heap_drewN]; done) | ((try simp only [World.size_alloc, World.size_setCell, World.size_drew, size_setRow, heap_drew, heap_drewN]); omega))) only [heap_drew, heap_drewN, heap_alloc_ne, heap_alloc_eq, heap_setCell_ne, heap_setRow_ne]; exact (encB_length s).trans sl; exact encB_one _; exact Z64_length; rfl; simp (disch := (first | (simp only [World.size_alloc, World.size_setCell, World.size_drew, size_setRow, heap_drew, heap_drewN]; done) | ((try simp only [World.size_alloc, World.size_setCell, World.size_drew, size_setRow, heap_drew, heap_drewN]); omega))) only [setRow_alloc_top, setRow_alloc_under]))
        have j1 : (wr.alloc (.cells (encB s).toArray 96)).heap[p]? = _ := (heap_alloc_ne _ _ _ (by have := kr.size; omega)).trans g1
        have j2 : (wr.alloc (.cells (encB s).toArray 96)).heap[q]? = _ := (heap_alloc_ne _ _ _ (by have := kr.size; omega)).trans g2
        have j3 : (wr.alloc (.cells (encB s).toArray 96)).heap[wr.heap.size]? = some (.cells (encB s).toArray 96) := by simp (disch := (first | (simp only [World.size_alloc, World.size_setCell, World.size_drew, size_setRow, heap_drew, heap_drewN]; done) | ((try simp only [World.size_alloc, World.size_setCell, World.size_drew, size_setRow, heap_drew, heap_drewN]); omega))) only [heap_drew, heap_drewN, heap_alloc_ne, heap_alloc_eq, heap_setCell_ne, heap_setRow_ne]
        have j4 : (wr.alloc (.cells (encB s).toArray 96)).heap[m]? = _ := (heap_alloc_ne _ _ _ (by have := kr.size; omega)).trans g3
        have j5 : ∀ b, w.heap.size ≤ b → b < w1.heap.size → (wr.alloc (.cells (encB s).toArray 96)).heap[b]? = w1.heap[b]? := fun b h1 h2 => (heap_alloc_ne _ _ _ (by omega)).trans (g4 b h1 h2)
        have k3 : Keeps (dset p q m) w (wr.alloc (.cells (encB s).toArray 96)) := kr.alloc _
        have z3 : (wr.alloc (.cells (encB s).toArray 96)).heap.size = wr.heap.size + 1 := by simp
        have c0 : (wr.alloc (.cells (encB s).toArray 96)).cell? ⟨p, 0, none⟩ = some (.slice (some ⟨q, 0, none⟩) D.there.length rcap) := by simp only [World.cell?, j1]; rfl
        generalize (wr.alloc (.cells (encB s).toArray 96)) = W3 at *
        have b1 : wr.heap.size ≠ q := by have := kr.size; omega
        have es64 : (encB s).length = 64 := (encB_length s).trans sl
        refine wp_region_text [(0, true), (1, true), (2, true), (3, true), (4, true), (5, true), (6, true), (7, true), (8, true), (9, true), (10, false)] (fun W' => W'.cell? ⟨p, 0, none⟩ = some (.slice (some ⟨q, 0, none⟩) D.there.length rcap) ∧ W'.heap[wr.heap.size]? = some (.cells (encB s).toArray 96)) (by kernel_rfl) (by kernel_rfl) (fun d _ _ _ _ h => by cases d <;> exact h) ⟨by simpa using c0, j3⟩ ?_
        iterate 3 (apply wpText_take; rfl; rfl; (intro W hS; (try dsimp only at hS); go_simp; exact rfl))
        simp only [Act.put, List.setIfInBounds_toArray, List.set_cons_succ, List.set_cons_zero]
        apply wpText_take; rfl; rfl; (intro W' hS; have hS1 := hS.1; go_simp; exact rfl)
        (apply wpText_take; rfl; rfl; (intro W hS; (try dsimp only at hS); go_simp; exact rfl))
        simp only [Act.put, List.setIfInBounds_toArray, List.set_cons_succ, List.set_cons_zero]
        apply wpText_take (v := .pointer (some ⟨q, n * 64, none⟩)); rfl; rfl; intro W' hS; refine exec_run (s := Instr.indexAt 85 (.slice (some ⟨q, 0, none⟩) D.there.length rcap) (.int .i64 (n : Nat))) rfl (run_indexRows 85 96 64 q D.there.length rcap n Try.underlying85 Try.sizeOf96 nl)
        (apply wpText_take; rfl; rfl; (intro W hS; (try dsimp only at hS); go_simp; exact rfl))
        simp only [Act.put, List.setIfInBounds_toArray, List.set_cons_succ, List.set_cons_zero]
        apply wpText_take (v := .slice (some ⟨q, n * 64, none⟩) cut 64); rfl; rfl; intro W' hS; refine exec_run (s := Instr.sliceAt 96 (.pointer (some ⟨q, n * 64, none⟩)) none (some (.int .i64 (cut : Nat))) none) rfl (run_sliceArrHi 96 5 64 1 q (n * 64) _ cut W' Try.underlying96 Try.sizeOf5 rfl (by omega) hcut)
        (apply wpText_take; rfl; rfl; (intro W hS; (try dsimp only at hS); go_simp; exact rfl))
        simp only [Act.put, List.setIfInBounds_toArray, List.set_cons_succ, List.set_cons_zero]
        apply wpText_take (v := .slice (some ⟨wr.heap.size, 0, none⟩) cut 64); rfl; rfl; intro W' hS; refine exec_run (s := Instr.sliceAt 96 (.pointer (some ⟨wr.heap.size, 0, none⟩)) none (some (.int .i64 (cut : Nat))) none) rfl (run_sliceArrHi 96 5 64 1 wr.heap.size 0 _ cut W' Try.underlying96 Try.sizeOf5 rfl (by omega) hcut)
        simp only [Act.put, List.setIfInBounds_toArray, List.set_cons_succ, List.set_cons_zero]
        apply wpText_goL; rfl; intro K hK
        apply wpl_copyRow 35 35 5 (b := q) (off := n * 64) (c := wr.heap.size) (soff := 0) (n := cut) (cap := 64) (cap2 := 64) (L := T.flatMap encB ++ rest) (M := encB s) (t := 96) (t2 := 96) (fr := (0, 0)); rfl; rfl; rfl; exact Try.underlying35; exact Try.sizeOf5; exact j2; exact j3; (rw [List.length_append, flat_length t64, tl]; omega); omega; exact encB_one s; rfl
        rw [List.drop_zero, rows_part sl hcut rest n t64 (by omega)]
        have hS2 := Hsn.out
        unfold fallStep at hS2
        rw [if_pos Ht.out] at hS2
        dsimp only at hS2
        rw [← hS2]
        clear hS2 Hsn
        generalize hT2 : Dk.fall keep torn cut 0 (D.aside.take (k + 1)) D.there = T2 at *
        have HT2 := Lib.hid hT2
        clear hT2
        refine wpl_end (hK _ _ ⟨by rw [cell_setRow_other _ _ _ _ (by simp only []; exact npq)]; simpa using c0, (setRow_other _ _ _ _ b1).trans j3⟩ ?_)
        clear hK K
        simp only [Act.put, List.setIfInBounds_toArray, List.set_cons_succ, List.set_cons_zero]
        apply wpText_done
        go_wp2
        refine ⟨⟨k + 1, by omega, by simp, (setRow_other _ _ _ _ npq).trans j1, ?_, (setRow_other _ _ _ _ (Ne.symm nqm)).trans j4, fun b h1 h2 => (setRow_other _ _ _ _ (by omega)).trans (j5 b h1 h2), k3.drew.setRow (fun _ => .inr (.inl rfl)) _, by rw [size_setRow]; simp; omega⟩, by simp [intOf]; omega⟩
        rw [HT2.out]; exact setRow_eq _ _ _ _ _ _ j2
      · have b0 : ((k : Int) == torn) = false := by simpa using ht
        have Ht := Lib.hid ht
        clear ht
        by_cases hkl : k < keep.length
        · obtain ⟨a, rfl, ha1, ha2, ha3⟩ := hkc k hkl
          have d1 : decide ((k : Int) < (keep.length : Int)) = true := by simp; omega
          have ha4 : ∀ o : Obj, (wr.alloc o).cell? (a.add k) = some (.bool keep[k]) := fun o => by
            have hb : (a.add k).block = a.block := by unfold Addr.add; split <;> rfl
            have : (wr.alloc o).heap[(a.add k).block]? = w.heap[(a.add k).block]? := by
              rw [hb]
              exact (heap_alloc_ne _ _ _ (by have := kr.size; omega)).trans (kr.block _ ha2 ha1)
            exact (World.cell?_of_block (w := w) this).trans ha3
          cases hb : keep[k] with
          | false =>
            rw [hb] at ha4
            have hgd : keep.getD k false = false := by simp [List.getD_eq_getElem?_getD, hkl, hb]
            go_wp2_with (first | (with_reducible refine wpl_alloc 96 Z64 rfl zero_sector rfl ?_) | ((with_reducible apply wpl_store_all 96 (n := 64) (vs := encB s) (hs := Try.sizeOf96) (L := Z64) (t := 96)); rfl; rfl; rfl; simp (disch := (first | (simp only [World.size_alloc, World.size_setCell, World.size_drew, size_setRow, heap_drew, heap_drewN]; done) | ((try simp only [World.size_alloc, World.size_setCell, World.size_drew, size_setRow, heap_drew, heap_drewN]); omega))) only [heap_drew, heap_drewN, heap_alloc_ne, heap_alloc_eq, heap_setCell_ne, heap_setRow_ne]; exact (encB_length s).trans sl; exact encB_one _; exact Z64_length; rfl; simp (disch := (first | (simp only [World.size_alloc, World.size_setCell, World.size_drew, size_setRow, heap_drew, heap_drewN]; done) | ((try simp only [World.size_alloc, World.size_setCell, World.size_drew, size_setRow, heap_drew, heap_drewN]); omega))) only [setRow_alloc_top, setRow_alloc_under]))
            refine ⟨⟨k + 1, by omega, by simp, (heap_alloc_ne _ _ _ (by have := kr.size; omega)).trans g1, ?_, (heap_alloc_ne _ _ _ (by have := kr.size; omega)).trans g3, fun b h1 h2 => (heap_alloc_ne _ _ _ (by omega)).trans (g4 b h1 h2), kr.alloc _, by simp; omega⟩, by simp [intOf]; omega⟩
            rw [Hsn.out]
            unfold fallStep
            rw [if_neg Ht.out, if_neg (by rw [hgd]; decide)]
            exact (heap_alloc_ne _ _ _ (by have := kr.size; omega)).trans g2
          | true =>
            rw [hb] at ha4
            have hgd : keep.getD k false = true := by simp [List.getD_eq_getElem?_getD, hkl, hb]
            go_wp2_with (first | (with_reducible refine wpl_alloc 96 Z64 rfl zero_sector rfl ?_) | ((with_reducible apply wpl_store_all 96 (n := 64) (vs := encB s) (hs := Try.sizeOf96) (L := Z64) (t := 96)); rfl; rfl; rfl; simp (disch := (first | (simp only [World.size_alloc, World.size_setCell, World.size_drew, size_setRow, heap_drew, heap_drewN]; done) | ((try simp only [World.size_alloc, World.size_setCell, World.size_drew, size_setRow, heap_drew, heap_drewN]); omega))) only [heap_drew, heap_drewN, heap_alloc_ne, heap_alloc_eq, heap_setCell_ne, heap_setRow_ne]; exact (encB_length s).trans sl; exact encB_one _; exact Z64_length; rfl; simp (disch := (first | (simp only [World.size_alloc, World.size_setCell, World.size_drew, size_setRow, heap_drew, heap_drewN]; done) | ((try simp only [World.size_alloc, World.size_setCell, World.size_drew, size_setRow, heap_drew, heap_drewN]); omega))) only [setRow_alloc_top, setRow_alloc_under]))
            clear ha4
            have j1 : (wr.alloc (.cells (encB s).toArray 96)).heap[p]? = _ := (heap_alloc_ne _ _ _ (by have := kr.size; omega)).trans g1
            have j2 : (wr.alloc (.cells (encB s).toArray 96)).heap[q]? = _ := (heap_alloc_ne _ _ _ (by have := kr.size; omega)).trans g2
            have j3 : (wr.alloc (.cells (encB s).toArray 96)).heap[wr.heap.size]? = some (.cells (encB s).toArray 96) := by simp (disch := (first | (simp only [World.size_alloc, World.size_setCell, World.size_drew, size_setRow, heap_drew, heap_drewN]; done) | ((try simp only [World.size_alloc, World.size_setCell, World.size_drew, size_setRow, heap_drew, heap_drewN]); omega))) only [heap_drew, heap_drewN, heap_alloc_ne, heap_alloc_eq, heap_setCell_ne, heap_setRow_ne]
            have j4 : (wr.alloc (.cells (encB s).toArray 96)).heap[m]? = _ := (heap_alloc_ne _ _ _ (by have := kr.size; omega)).trans g3
            have j5 : ∀ b, w.heap.size ≤ b → b < w1.heap.size → (wr.alloc (.cells (encB s).toArray 96)).heap[b]? = w1.heap[b]? := fun b h1 h2 => (heap_alloc_ne _ _ _ (by omega)).trans (g4 b h1 h2)
            have k3 : Keeps (dset p q m) w (wr.alloc (.cells (encB s).toArray 96)) := kr.alloc _
            have z3 : (wr.alloc (.cells (encB s).toArray 96)).heap.size = wr.heap.size + 1 := by simp
            have c0 : (wr.alloc (.cells (encB s).toArray 96)).cell? ⟨p, 0, none⟩ = some (.slice (some ⟨q, 0, none⟩) D.there.length rcap) := by simp only [World.cell?, j1]; rfl
            generalize (wr.alloc (.cells (encB s).toArray 96)) = W3 at *
            have b1 : wr.heap.size ≠ q := by have := kr.size; omega
            have es64 : (encB s).length = 64 := (encB_length s).trans sl
            refine wp_region_text [(0, true), (1, true), (2, true), (3, true), (4, true), (5, true), (6, true), (7, false)] (fun W' => W'.cell? ⟨p, 0, none⟩ = some (.slice (some ⟨q, 0, none⟩) D.there.length rcap) ∧ W'.heap[wr.heap.size]? = some (.cells (encB s).toArray 96)) (by kernel_rfl) (by kernel_rfl) (fun d _ _ _ _ h => by cases d <;> exact h) ⟨by simpa using c0, j3⟩ ?_
            iterate 3 (apply wpText_take; rfl; rfl; (intro W hS; (try dsimp only at hS); go_simp; exact rfl))
            simp only [Act.put, List.setIfInBounds_toArray, List.set_cons_succ, List.set_cons_zero]
            apply wpText_take; rfl; rfl; (intro W' hS; have hS1 := hS.1; go_simp; exact rfl)
            (apply wpText_take; rfl; rfl; (intro W hS; (try dsimp only at hS); go_simp; exact rfl))
            simp only [Act.put, List.setIfInBounds_toArray, List.set_cons_succ, List.set_cons_zero]
            apply wpText_take (v := .agg (List.toArray (encB s))); rfl; rfl; intro W' hS; refine exec_run (s := Instr.loadAt 96 (.pointer (some ⟨wr.heap.size, 0, none⟩))) rfl (run_loadAll 96 64 (wr.heap.size) (encB s) 96 (0, 0) Try.isAgg96 Try.sizeOf96 hS.2 ((encB_length s).trans sl))
            simp only [Act.put, List.setIfInBounds_toArray, List.set_cons_succ, List.set_cons_zero]
            apply wpText_take (v := .pointer (some ⟨q, n * 64, none⟩)); rfl; rfl; intro W' hS; refine exec_run (s := Instr.indexAt 85 (.slice (some ⟨q, 0, none⟩) D.there.length rcap) (.int .i64 (n : Nat))) rfl (run_indexRows 85 96 64 q D.there.length rcap n Try.underlying85 Try.sizeOf96 nl)
            simp only [Act.put, List.setIfInBounds_toArray, List.set_cons_succ, List.set_cons_zero]
            apply wpText_goL; rfl; intro K hK
            apply wpl_store 96 (n := 64) (vs := encB s) (hs := Try.sizeOf96) (L := T.flatMap encB ++ rest) (t := 96); rfl; rfl; rfl; exact j2; exact (encB_length s).trans sl; exact encB_one s; (rw [List.length_append, flat_length t64, tl]; omega); rfl
            rw [es64, rows_set sl rest n t64 (by omega)]
            have hS2 := Hsn.out
            unfold fallStep at hS2
            rw [if_neg Ht.out, if_pos hgd] at hS2
            dsimp only at hS2
            rw [← hS2]
            clear hS2 Hsn
            generalize hT2 : Dk.fall keep torn cut 0 (D.aside.take (k + 1)) D.there = T2 at *
            have HT2 := Lib.hid hT2
            clear hT2
            refine wpl_end (hK _ _ ⟨by rw [cell_setRow_other _ _ _ _ (by simp only []; exact npq)]; simpa using c0, (setRow_other _ _ _ _ b1).trans j3⟩ ?_)
            clear hK K
            simp only [Act.put, List.setIfInBounds_toArray, List.set_cons_succ, List.set_cons_zero]
            apply wpText_done
            go_wp2
            refine ⟨⟨k + 1, by omega, by simp, (setRow_other _ _ _ _ npq).trans j1, ?_, (setRow_other _ _ _ _ (Ne.symm nqm)).trans j4, fun b h1 h2 => (setRow_other _ _ _ _ (by omega)).trans (j5 b h1 h2), k3.drew.setRow (fun _ => .inr (.inl rfl)) _, by rw [size_setRow]; simp; omega⟩, by simp [intOf]; omega⟩
            rw [HT2.out]; exact setRow_eq _ _ _ _ _ _ j2
        · have d1 : decide ((k : Int) < (keep.length : Int)) = false := by simp; omega
          have hgd : keep.getD k false = false := by simp [List.getD_eq_getElem?_getD, hkl]
          go_wp2_with (first | (with_reducible refine wpl_alloc 96 Z64 rfl zero_sector rfl ?_) | ((with_reducible apply wpl_store_all 96 (n := 64) (vs := encB s) (hs := Try.sizeOf96) (L := Z64) (t := 96)); rfl; rfl; rfl; simp (disch := (first | (simp only [World.size_alloc, World.size_setCell, World.size_drew, size_setRow, heap_drew, heap_drewN]; done) | ((try simp only [World.size_alloc, World.size_setCell, World.size_drew, size_setRow, heap_drew, heap_drewN]); omega))) only [heap_drew, heap_drewN, heap_alloc_ne, heap_alloc_eq, heap_setCell_ne, heap_setRow_ne]; exact (encB_length s).trans sl; exact encB_one _; exact Z64_length; rfl; simp (disch := (first | (simp only [World.size_alloc, World.size_setCell, World.size_drew, size_setRow, heap_drew, heap_drewN]; done) | ((try simp only [World.size_alloc, World.size_setCell, World.size_drew, size_setRow, heap_drew, heap_drewN]); omega))) only [setRow_alloc_top, setRow_alloc_under]))
          refine ⟨⟨k + 1, by omega, by simp, (heap_alloc_ne _ _ _ (by have := kr.size; omega)).trans g1, ?_, (heap_alloc_ne _ _ _ (by have := kr.size; omega)).trans g3, fun b h1 h2 => (heap_alloc_ne _ _ _ (by omega)).trans (g4 b h1 h2), kr.alloc _, by simp; omega⟩, by simp [intOf]; omega⟩
          rw [Hsn.out]
          unfold fallStep
          rw [if_neg Ht.out, if_neg (by rw [hgd]; decide)]
          exact (heap_alloc_ne _ _ _ (by have := kr.size; omega)).trans g2
    · obtain rfl : k = D.aside.length := by omega
      have hcl := run_clearMap (P := Try.prog) 86 3 96 0 m es clock Try.underlying86 g3
      have c1 : wr.cell? ⟨p, 1, none⟩ = some (.map (some m)) := by simp [World.cell?, g1]
      have s1 : (setBlock wr m (.map #[] clock)).heap[p]? = _ := (setBlock_ne wr m p (.map #[] clock) npm).trans g1
      have c2 : (setBlock wr m (.map #[] clock)).cell? ⟨p, 2, none⟩ = some (.int .i64 D.left) := by simp [World.cell?, s1]
      have q2 : (setBlock wr m (.map #[] clock)).frozen? ⟨p, 2, none⟩ = false := by simp [World.frozen?, s1]
      have kk : ((D.aside.length : Nat) : Int) ≤ 4096 := by have := aside_len wf; omega
      rw [List.take_length] at g2
      go_wp2
      go_ret
      refine ⟨rfl, ⟨⟨rcap, by rw [fall_length]; exact hc, ?_⟩, ⟨rest, ?_⟩, ⟨#[], clock, ?_, mapRep_nil _⟩, fall_wf wf hcut⟩, (kr.setBlock (fun _ => .inr (.inr rfl)) _).setCell (a := ⟨p, 2, none⟩) (fun _ => .inl rfl) _⟩
      · rw [heap_setCell_same _ p 2 _ _ _ s1, fall_length]; rfl
      · rw [heap_setCell_ne _ _ _ _ _ (Ne.symm npq)]; exact (setBlock_ne wr m q _ nqm).trans g2
      · rw [heap_setCell_ne _ _ _ _ _ (Ne.symm npm)]; exact (heap_set g3).1
theorem crash_calls (kv : Value) (keep : List Bool) (torn cut : Int) (w : World) (h : DiskAt w p q m D) (hkv : BoolsAt w kv keep) (hap : 0 < keep.length → ∀ a n c, kv = .slice (some a) n c → ¬ dset p q m a.block) :
    Calls Try.prog 29 #[.pointer (some ⟨p, 0, none⟩), kv, .int .i64 torn, .int .i64 cut] w fun e w' =>
      e = .returned (.int .i64 (D.crash keep torn cut).1) ∧ DiskAt w' p q m (D.crash keep torn cut).2 ∧ Keeps (dset p q m) w w' := by
  by_cases hc : cut < 0 ∨ 64 < cut
  · have e : D.crash keep torn cut = (1, D) := by simp [Dk.crash, hc]
    rw [e]
    refine (crash_bad kv torn cut w hc).mono ?_
    rintro e w' ⟨rfl, rfl⟩
    exact ⟨rfl, h, Keeps.refl _ _⟩
  · have e : D.crash keep torn cut = (0, ⟨Dk.fall keep torn cut.toNat 0 D.aside D.there, [], -1⟩) := by simp [Dk.crash, hc]
    obtain ⟨c, rfl⟩ : ∃ c : Nat, cut = c := ⟨cut.toNat, by omega⟩
    rw [e]
    exact crash_good kv keep torn c w h (by omega) hkv hap
end Go.Proofs.Ytckopikeegegkaa
