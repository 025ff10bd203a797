/- Texts of one proof, one behind the other: Disk7, At2, May, Pure4, Pure5, Pure6, Stt, Opens2, Law3a, Steps, Works, DiskReads, Opens3, RegLate, DiskCopy. No condition. -/
import Derived.Test.YtckopikeegegkaaGPagePlaysP1
import Derived.Deep.Grids
import Derived.SliceStrings
import Derived.Deep.Slices
import Derived.Deep.Fields
import Derived.ChangeSame
import Derived.Shelf.SlMaps.Clone
import Derived.OwnWalk
import Derived.Lib.SliceRun
import Derived.Stop.BytesEq
import Derived.Laws.AppendOwn
/- DISK 7: the contract of Crash. -/
namespace Go.Proofs.Ytckopikeegegkaa
open Go.RowKit Go.MapKept Go.Maps Go.Shelf
open Go.ChangeMaps (setBlock)
set_option linter.unusedSimpArgs false
set_option linter.unusedVariables false
variable {p q m : Nat} {D : Dk}

set_option maxHeartbeats 1000000 in
theorem crash_bad (keep : Value) (torn cut : Int) (w : World) (hc : cut < 0 ∨ 64 < cut) :
    Calls Try.prog 29 #[.pointer (some ⟨p, 0, none⟩), keep, .int .i64 torn, .int .i64 cut] w fun e w' => e = .returned (.int .i64 1) ∧ w = w' := by
  by_cases h0 : cut < 0
  · have k0 : decide (cut < 0) = true := by simpa using h0
    go_enter Try.func29, Try.ntmps29
    go_wp2
    go_ret
    exact ⟨rfl, rfl⟩
  · have k0 : decide (cut < 0) = false := by simpa using h0
    have k1 : decide (64 < cut) = true := by simp; omega
    go_enter Try.func29, Try.ntmps29
    go_wp2
    go_ret
    exact ⟨rfl, rfl⟩
set_option maxHeartbeats 1000000 in
theorem crash_nil (keep : Value) (torn cut : Int) (w : World) :
    Calls Try.prog 29 #[.pointer none, keep, .int .i64 torn, .int .i64 cut] w fun e w' => e = .returned (.int .i64 2) ∧ w = w' := by
  go_enter Try.func29, Try.ntmps29
  go_wp2
  go_ret
  exact ⟨rfl, rfl⟩
/-- The keys' row, said of a slice whose base may be none. -/
theorem keys_row {w : World} {b : Nat} {v : Value} {A : List (Nat × Str)} (h : w.ownsRow b 3 1 v A.length ((keysOf A).map (Value.int .i64))) :
    ∃ (ad : Option Addr) (cap : Nat), v = .slice ad A.length cap ∧ ∀ k (hk : k < A.length), ∃ g, ad = some ⟨g, 0, none⟩ ∧ b ≤ g ∧ g < w.heap.size ∧ w.cell? ⟨g, k, none⟩ = some (.int .i64 (A[k].1 : Nat)) := by
  obtain ⟨h0, ⟨rfl, hz⟩ | ⟨g, cap, cur, rfl, hb, hg, h1, h2, h3, h4⟩⟩ := h
  · exact ⟨none, 0, by rw [hz], fun k hk => by omega⟩
  · refine ⟨some ⟨g, 0, none⟩, cap, rfl, fun k hk => ⟨g, rfl, hb, (Array.getElem?_eq_some_iff.1 hg).1, ?_⟩⟩
    have e1 : cur.toList[k]? = some (.int .i64 (A[k].1 : Nat)) := by
      have : (cur.toList.take (A.length * 1))[k]? = ((keysOf A).map (Value.int .i64))[k]? := by rw [h4]
      rw [List.getElem?_take_of_lt (by omega)] at this
      rw [this]
      simp [keysOf, hk]
    simp only [World.cell?, hg]
    rw [← Array.getElem?_toList]; exact e1
theorem aside_len {D : Dk} (wf : D.Wf) : D.aside.length ≤ 4096 := by
  have h1 := nodup_le (k := D.aside.map (·.1)) (l := List.range D.there.length) (keys_nodup wf.rises) (fun n hn => by
    obtain ⟨x, hx, rfl⟩ := List.mem_map.1 hn
    exact List.mem_range.2 (wf.aside x hx).1)
  have := wf.small
  rw [List.length_map, List.length_range] at h1
  omega
theorem fall_wf {D : Dk} (h : D.Wf) {keep : List Bool} {torn : Int} {cut : Nat} (hcut : cut ≤ 64) : Dk.Wf ⟨Dk.fall keep torn cut 0 D.aside D.there, [], -1⟩ :=
  ⟨fall_64 keep torn hcut h.aside h.there, by simp, by simp, ⟨by simp, by simp⟩, by rw [fall_length]; exact h.pos, by rw [fall_length]; exact h.small⟩
set_option maxRecDepth 20000 in
set_option maxHeartbeats 4000000 in
theorem crash_good (kv : Value) (keep : List Bool) (torn : Int) (cut : Nat) (w : World) (h : DiskAt w p q m D) (hcut : cut ≤ 64) (hkv : BoolsAt w kv keep)
    (hap : 0 < keep.length → ∀ a n c, kv = .slice (some a) n c → ¬ dset p q m a.block) :
    Calls Try.prog 29 #[.pointer (some ⟨p, 0, none⟩), kv, .int .i64 torn, .int .i64 cut] w fun e w' =>
      e = .returned (.int .i64 0) ∧ DiskAt w' p q m ⟨Dk.fall keep torn cut 0 D.aside D.there, [], -1⟩ ∧ Keeps (dset p q m) w w' := by
  have lp := h.lt_p; have lq := h.lt_q; have lm := h.lt_m
  have npq := h.ne_pq; have npm := h.ne_pm; have nqm := h.ne_qm
  have wf := h.wf
  have ha := aside_calls w h
  have k0 : decide ((cut : Int) < 0) = false := by simp
  have k1 : decide (64 < (cut : Int)) = false := by simp; omega
  obtain ⟨kad, kcap, rfl, hkc⟩ : ∃ ad cap, kv = .slice ad keep.length cap ∧ ∀ k (hk : k < keep.length), ∃ a, ad = some a ∧ ¬ dset p q m a.block ∧ a.block < w.heap.size ∧ w.cell? (a.add k) = some (.bool keep[k]) := by
    rcases hkv with ⟨rfl, rfl⟩ | ⟨a, cap, rfl, hc⟩
    · exact ⟨none, 0, rfl, fun k hk => by simp at hk⟩
    · refine ⟨some a, cap, rfl, fun k hk => ⟨a, rfl, hap (by omega) a _ _ rfl, ?_, hc k hk⟩⟩
      have := hc k hk
      have hb : (a.add k).block = a.block := by unfold Addr.add; split <;> rfl
      rw [← hb]
      cases hh : w.heap[(a.add k).block]? with
      | none => simp [World.cell?, hh] at this
      | some o => exact (Array.getElem?_eq_some_iff.1 hh).1
  clear hkv hap
  go_enter Try.func29, Try.ntmps29
  go_wp2_with (go_at_call 27; refine ha.mono ?_; rintro e w1 ⟨v, rfl, hrow, hnil, hk1⟩; obtain ⟨ad, cap, rfl, hkeys⟩ := keys_row hrow; clear hrow hnil)
  obtain ⟨rcap, hc, hs⟩ := h.strct
  obtain ⟨rest, hrow⟩ := h.row
  obtain ⟨es, clock, hm, hR⟩ := h.kept
  have hA := wf.rises
  have z1 := hk1.size
  clear ha
  go_loopw [25] (fun i wr => ∃ k : Nat, k ≤ D.aside.length ∧ i = .int .i64 k ∧ wr.heap[p]? = some (.cells #[.slice (some ⟨q, 0, none⟩) D.there.length rcap, .map (some m), .int .i64 D.left] 88) ∧
      wr.heap[q]? = some (.cells ((Dk.fall keep torn cut 0 (D.aside.take k) D.there).flatMap encB ++ rest).toArray 96) ∧ wr.heap[m]? = some (.map es clock) ∧
      (∀ b, w.heap.size ≤ b → b < w1.heap.size → wr.heap[b]? = w1.heap[b]?) ∧ Keeps (dset p q m) w wr ∧ w1.heap.size ≤ wr.heap.size)
    (fun i _ => D.aside.length - (intOf i).toNat)
  case atStart =>
    exact ⟨0, Nat.zero_le _, rfl, (hk1.block p lp (fun q => q)).trans hs, (hk1.block q lq (fun q => q)).trans hrow, (hk1.block m lm (fun q => q)).trans hm, fun b _ _ => rfl, hk1.mono (fun _ _ q => q.elim), Nat.le_refl _⟩
  case round =>
    obtain ⟨k, hk, rfl, g1, g2, g3, g4, kr, zr⟩ := hrel
    by_cases hlt : k < D.aside.length
    · obtain ⟨g, rfl, hg0, hg1, hcell⟩ := hkeys k hlt
      have hcell2 : wr.cell? ⟨g, k, none⟩ = some (.int .i64 (D.aside[k].1 : Nat)) := (World.cell?_of_block (w := w1) (g4 g hg0 hg1)).trans hcell
      have hx := List.getElem_mem hlt
      have hx1 := wf.aside _ hx
      have hlk := look_mem hA (n := D.aside[k].1) (s := D.aside[k].2) hx
      have htk : D.aside.take (k + 1) = D.aside.take k ++ [D.aside[k]] := by rw [List.take_succ_eq_append_getElem hlt]
      have hsn := fall_snoc keep torn cut D.aside[k] (D.aside.take k) 0 D.there
      rw [← htk, List.length_take, Nat.min_eq_left (by omega), Nat.zero_add] at hsn
      have t64 := fall_64 keep torn hcut (A := D.aside.take k) (j := 0) (t := D.there) (fun x hx => wf.aside x (List.mem_of_mem_take hx)) wf.there
      have tl := fall_length keep torn cut (D.aside.take k) 0 D.there
      generalize D.aside[k] = x at *
      obtain ⟨n, s⟩ := x
      dsimp only at *
      have hlook := run_lookup1 g3 hR hA n hlk
      have sl := hx1.2
      have nl := hx1.1
      generalize Dk.fall keep torn cut 0 (D.aside.take k) D.there = T at *
      have Hsn := Lib.hid hsn
      clear hsn htk hlk hcell hkeys hx
      have c1 : wr.cell? ⟨p, 1, none⟩ = some (.map (some m)) := by simp [World.cell?, g1]
      have kk : (k : Int) ≤ 4096 := by have := aside_len wf; omega
      by_cases ht : (k : Int) = torn
      · have b0 : ((k : Int) == torn) = true := by simpa using ht
        have Ht := Lib.hid ht
        clear ht
        go_wp2_with (first | (with_reducible refine wpl_alloc 96 Z64 rfl zero_sector rfl ?_) | ((with_reducible apply wpl_store_all 96 (n := 64) (vs := encB s) (hs := Try.sizeOf96) (L := Z64) (t := 96)); rfl; rfl; rfl; simp (disch := (first | (simp only [World.size_alloc, World.size_setCell, World.size_drew, size_setRow, heap_drew, heap_drewN]; done) | ((try simp only [World.size_alloc, World.size_setCell, World.size_drew, size_setRow, heap_drew, heap_drewN]); omega))) only [heap_drew, heap_drewN, heap_alloc_ne, heap_alloc_eq, heap_setCell_ne, heap_setRow_ne]; exact (encB_length s).trans sl; exact encB_one _; exact Z64_length; rfl; simp (disch := (first | (simp only [World.size_alloc, World.size_setCell, World.size_drew, size_setRow, heap_drew, heap_drewN]; done) | ((try simp only [World.size_alloc, World.size_setCell, World.size_drew, size_setRow, heap_drew, heap_drewN]); omega))) only [setRow_alloc_top, setRow_alloc_under]))
        have j1 : (wr.alloc (.cells (encB s).toArray 96)).heap[p]? = _ := (heap_alloc_ne _ _ _ (by have := kr.size; omega)).trans g1
        have j2 : (wr.alloc (.cells (encB s).toArray 96)).heap[q]? = _ := (heap_alloc_ne _ _ _ (by have := kr.size; omega)).trans g2
        have j3 : (wr.alloc (.cells (encB s).toArray 96)).heap[wr.heap.size]? = some (.cells (encB s).toArray 96) := by simp (disch := (first | (simp only [World.size_alloc, World.size_setCell, World.size_drew, size_setRow, heap_drew, heap_drewN]; done) | ((try simp only [World.size_alloc, World.size_setCell, World.size_drew, size_setRow, heap_drew, heap_drewN]); omega))) only [heap_drew, heap_drewN, heap_alloc_ne, heap_alloc_eq, heap_setCell_ne, heap_setRow_ne]
        have j4 : (wr.alloc (.cells (encB s).toArray 96)).heap[m]? = _ := (heap_alloc_ne _ _ _ (by have := kr.size; omega)).trans g3
        have j5 : ∀ b, w.heap.size ≤ b → b < w1.heap.size → (wr.alloc (.cells (encB s).toArray 96)).heap[b]? = w1.heap[b]? := fun b h1 h2 => (heap_alloc_ne _ _ _ (by omega)).trans (g4 b h1 h2)
        have k3 : Keeps (dset p q m) w (wr.alloc (.cells (encB s).toArray 96)) := kr.alloc _
        have z3 : (wr.alloc (.cells (encB s).toArray 96)).heap.size = wr.heap.size + 1 := by simp
        have c0 : (wr.alloc (.cells (encB s).toArray 96)).cell? ⟨p, 0, none⟩ = some (.slice (some ⟨q, 0, none⟩) D.there.length rcap) := by simp only [World.cell?, j1]; rfl
        generalize (wr.alloc (.cells (encB s).toArray 96)) = W3 at *
        have b1 : wr.heap.size ≠ q := by have := kr.size; omega
        have es64 : (encB s).length = 64 := (encB_length s).trans sl
        refine wp_region_text [(0, true), (1, true), (2, true), (3, true), (4, true), (5, true), (6, true), (7, true), (8, true), (9, true), (10, false)] (fun W' => W'.cell? ⟨p, 0, none⟩ = some (.slice (some ⟨q, 0, none⟩) D.there.length rcap) ∧ W'.heap[wr.heap.size]? = some (.cells (encB s).toArray 96)) (by kernel_rfl) (by kernel_rfl) (fun d _ _ _ _ h => by cases d <;> exact h) ⟨by simpa using c0, j3⟩ ?_
        iterate 3 (apply wpText_take; rfl; rfl; (intro W hS; (try dsimp only at hS); go_simp; exact rfl))
        try simp only [Act.put, List.setIfInBounds_toArray, List.set_cons_succ, List.set_cons_zero]
        apply wpText_take; rfl; rfl; (intro W' hS; have hS1 := hS.1; go_simp; exact rfl)
        (apply wpText_take; rfl; rfl; (intro W hS; (try dsimp only at hS); go_simp; exact rfl))
        try simp only [Act.put, List.setIfInBounds_toArray, List.set_cons_succ, List.set_cons_zero]
        apply wpText_take (v := .pointer (some ⟨q, n * 64, none⟩)); rfl; rfl; intro W' hS; refine exec_run (s := Instr.indexAt 85 (.slice (some ⟨q, 0, none⟩) D.there.length rcap) (.int .i64 (n : Nat))) rfl (run_indexRows 85 96 64 q D.there.length rcap n Try.underlying85 Try.sizeOf96 nl)
        (apply wpText_take; rfl; rfl; (intro W hS; (try dsimp only at hS); go_simp; exact rfl))
        try simp only [Act.put, List.setIfInBounds_toArray, List.set_cons_succ, List.set_cons_zero]
        apply wpText_take (v := .slice (some ⟨q, n * 64, none⟩) cut 64); rfl; rfl; intro W' hS; refine exec_run (s := Instr.sliceAt 96 (.pointer (some ⟨q, n * 64, none⟩)) none (some (.int .i64 (cut : Nat))) none) rfl (run_sliceArrHi 96 5 64 1 q (n * 64) _ cut W' Try.underlying96 Try.sizeOf5 rfl (by omega) hcut)
        (apply wpText_take; rfl; rfl; (intro W hS; (try dsimp only at hS); go_simp; exact rfl))
        try simp only [Act.put, List.setIfInBounds_toArray, List.set_cons_succ, List.set_cons_zero]
        apply wpText_take (v := .slice (some ⟨wr.heap.size, 0, none⟩) cut 64); rfl; rfl; intro W' hS; refine exec_run (s := Instr.sliceAt 96 (.pointer (some ⟨wr.heap.size, 0, none⟩)) none (some (.int .i64 (cut : Nat))) none) rfl (run_sliceArrHi 96 5 64 1 wr.heap.size 0 _ cut W' Try.underlying96 Try.sizeOf5 rfl (by omega) hcut)
        try simp only [Act.put, List.setIfInBounds_toArray, List.set_cons_succ, List.set_cons_zero]
        apply wpText_goL; rfl; intro K hK
        apply wpl_copyRow 35 35 5 (b := q) (off := n * 64) (c := wr.heap.size) (soff := 0) (n := cut) (cap := 64) (cap2 := 64) (L := T.flatMap encB ++ rest) (M := encB s) (t := 96) (t2 := 96) (fr := (0, 0)); rfl; rfl; rfl; exact Try.underlying35; exact Try.sizeOf5; exact j2; exact j3; (rw [List.length_append, flat_length t64, tl]; omega); omega; exact encB_one s; rfl
        rw [List.drop_zero, rows_part sl hcut rest n t64 (by omega)]
        have hS2 := Hsn.out
        unfold fallStep at hS2
        rw [if_pos Ht.out] at hS2
        dsimp only at hS2
        rw [← hS2]
        clear hS2 Hsn
        generalize hT2 : Dk.fall keep torn cut 0 (D.aside.take (k + 1)) D.there = T2 at *
        have HT2 := Lib.hid hT2
        clear hT2
        refine wpl_end (hK _ _ ⟨by rw [cell_setRow_other _ _ _ _ (by simp only []; exact npq)]; simpa using c0, (setRow_other _ _ _ _ b1).trans j3⟩ ?_)
        clear hK K
        try simp only [Act.put, List.setIfInBounds_toArray, List.set_cons_succ, List.set_cons_zero]
        apply wpText_done
        go_wp2
        refine ⟨⟨k + 1, by omega, by simp, (setRow_other _ _ _ _ npq).trans j1, ?_, (setRow_other _ _ _ _ (Ne.symm nqm)).trans j4, fun b h1 h2 => (setRow_other _ _ _ _ (by omega)).trans (j5 b h1 h2), k3.drew.setRow (fun _ => .inr (.inl rfl)) _, by rw [size_setRow]; simp; omega⟩, by simp [intOf]; omega⟩
        rw [HT2.out]; exact setRow_eq _ _ _ _ _ _ j2
      · have b0 : ((k : Int) == torn) = false := by simpa using ht
        have Ht := Lib.hid ht
        clear ht
        by_cases hkl : k < keep.length
        · obtain ⟨a, rfl, ha1, ha2, ha3⟩ := hkc k hkl
          have d1 : decide ((k : Int) < (keep.length : Int)) = true := by simp; omega
          have ha4 : ∀ o : Obj, (wr.alloc o).cell? (a.add k) = some (.bool keep[k]) := fun o => by
            have hb : (a.add k).block = a.block := by unfold Addr.add; split <;> rfl
            have : (wr.alloc o).heap[(a.add k).block]? = w.heap[(a.add k).block]? := by
              rw [hb]
              exact (heap_alloc_ne _ _ _ (by have := kr.size; omega)).trans (kr.block _ ha2 ha1)
            exact (World.cell?_of_block (w := w) this).trans ha3
          cases hb : keep[k] with
          | false =>
            rw [hb] at ha4
            have hgd : keep.getD k false = false := by simp [List.getD_eq_getElem?_getD, hkl, hb]
            go_wp2_with (first | (with_reducible refine wpl_alloc 96 Z64 rfl zero_sector rfl ?_) | ((with_reducible apply wpl_store_all 96 (n := 64) (vs := encB s) (hs := Try.sizeOf96) (L := Z64) (t := 96)); rfl; rfl; rfl; simp (disch := (first | (simp only [World.size_alloc, World.size_setCell, World.size_drew, size_setRow, heap_drew, heap_drewN]; done) | ((try simp only [World.size_alloc, World.size_setCell, World.size_drew, size_setRow, heap_drew, heap_drewN]); omega))) only [heap_drew, heap_drewN, heap_alloc_ne, heap_alloc_eq, heap_setCell_ne, heap_setRow_ne]; exact (encB_length s).trans sl; exact encB_one _; exact Z64_length; rfl; simp (disch := (first | (simp only [World.size_alloc, World.size_setCell, World.size_drew, size_setRow, heap_drew, heap_drewN]; done) | ((try simp only [World.size_alloc, World.size_setCell, World.size_drew, size_setRow, heap_drew, heap_drewN]); omega))) only [setRow_alloc_top, setRow_alloc_under]))
            refine ⟨⟨k + 1, by omega, by simp, (heap_alloc_ne _ _ _ (by have := kr.size; omega)).trans g1, ?_, (heap_alloc_ne _ _ _ (by have := kr.size; omega)).trans g3, fun b h1 h2 => (heap_alloc_ne _ _ _ (by omega)).trans (g4 b h1 h2), kr.alloc _, by simp; omega⟩, by simp [intOf]; omega⟩
            rw [Hsn.out]
            unfold fallStep
            rw [if_neg Ht.out, if_neg (by rw [hgd]; decide)]
            exact (heap_alloc_ne _ _ _ (by have := kr.size; omega)).trans g2
          | true =>
            rw [hb] at ha4
            have hgd : keep.getD k false = true := by simp [List.getD_eq_getElem?_getD, hkl, hb]
            go_wp2_with (first | (with_reducible refine wpl_alloc 96 Z64 rfl zero_sector rfl ?_) | ((with_reducible apply wpl_store_all 96 (n := 64) (vs := encB s) (hs := Try.sizeOf96) (L := Z64) (t := 96)); rfl; rfl; rfl; simp (disch := (first | (simp only [World.size_alloc, World.size_setCell, World.size_drew, size_setRow, heap_drew, heap_drewN]; done) | ((try simp only [World.size_alloc, World.size_setCell, World.size_drew, size_setRow, heap_drew, heap_drewN]); omega))) only [heap_drew, heap_drewN, heap_alloc_ne, heap_alloc_eq, heap_setCell_ne, heap_setRow_ne]; exact (encB_length s).trans sl; exact encB_one _; exact Z64_length; rfl; simp (disch := (first | (simp only [World.size_alloc, World.size_setCell, World.size_drew, size_setRow, heap_drew, heap_drewN]; done) | ((try simp only [World.size_alloc, World.size_setCell, World.size_drew, size_setRow, heap_drew, heap_drewN]); omega))) only [setRow_alloc_top, setRow_alloc_under]))
            clear ha4
            have j1 : (wr.alloc (.cells (encB s).toArray 96)).heap[p]? = _ := (heap_alloc_ne _ _ _ (by have := kr.size; omega)).trans g1
            have j2 : (wr.alloc (.cells (encB s).toArray 96)).heap[q]? = _ := (heap_alloc_ne _ _ _ (by have := kr.size; omega)).trans g2
            have j3 : (wr.alloc (.cells (encB s).toArray 96)).heap[wr.heap.size]? = some (.cells (encB s).toArray 96) := by simp (disch := (first | (simp only [World.size_alloc, World.size_setCell, World.size_drew, size_setRow, heap_drew, heap_drewN]; done) | ((try simp only [World.size_alloc, World.size_setCell, World.size_drew, size_setRow, heap_drew, heap_drewN]); omega))) only [heap_drew, heap_drewN, heap_alloc_ne, heap_alloc_eq, heap_setCell_ne, heap_setRow_ne]
            have j4 : (wr.alloc (.cells (encB s).toArray 96)).heap[m]? = _ := (heap_alloc_ne _ _ _ (by have := kr.size; omega)).trans g3
            have j5 : ∀ b, w.heap.size ≤ b → b < w1.heap.size → (wr.alloc (.cells (encB s).toArray 96)).heap[b]? = w1.heap[b]? := fun b h1 h2 => (heap_alloc_ne _ _ _ (by omega)).trans (g4 b h1 h2)
            have k3 : Keeps (dset p q m) w (wr.alloc (.cells (encB s).toArray 96)) := kr.alloc _
            have z3 : (wr.alloc (.cells (encB s).toArray 96)).heap.size = wr.heap.size + 1 := by simp
            have c0 : (wr.alloc (.cells (encB s).toArray 96)).cell? ⟨p, 0, none⟩ = some (.slice (some ⟨q, 0, none⟩) D.there.length rcap) := by simp only [World.cell?, j1]; rfl
            generalize (wr.alloc (.cells (encB s).toArray 96)) = W3 at *
            have b1 : wr.heap.size ≠ q := by have := kr.size; omega
            have es64 : (encB s).length = 64 := (encB_length s).trans sl
            refine wp_region_text [(0, true), (1, true), (2, true), (3, true), (4, true), (5, true), (6, true), (7, false)] (fun W' => W'.cell? ⟨p, 0, none⟩ = some (.slice (some ⟨q, 0, none⟩) D.there.length rcap) ∧ W'.heap[wr.heap.size]? = some (.cells (encB s).toArray 96)) (by kernel_rfl) (by kernel_rfl) (fun d _ _ _ _ h => by cases d <;> exact h) ⟨by simpa using c0, j3⟩ ?_
            iterate 3 (apply wpText_take; rfl; rfl; (intro W hS; (try dsimp only at hS); go_simp; exact rfl))
            try simp only [Act.put, List.setIfInBounds_toArray, List.set_cons_succ, List.set_cons_zero]
            apply wpText_take; rfl; rfl; (intro W' hS; have hS1 := hS.1; go_simp; exact rfl)
            (apply wpText_take; rfl; rfl; (intro W hS; (try dsimp only at hS); go_simp; exact rfl))
            try simp only [Act.put, List.setIfInBounds_toArray, List.set_cons_succ, List.set_cons_zero]
            apply wpText_take (v := .agg (List.toArray (encB s))); rfl; rfl; intro W' hS; refine exec_run (s := Instr.loadAt 96 (.pointer (some ⟨wr.heap.size, 0, none⟩))) rfl (run_loadAll 96 64 (wr.heap.size) (encB s) 96 (0, 0) Try.isAgg96 Try.sizeOf96 hS.2 ((encB_length s).trans sl))
            try simp only [Act.put, List.setIfInBounds_toArray, List.set_cons_succ, List.set_cons_zero]
            apply wpText_take (v := .pointer (some ⟨q, n * 64, none⟩)); rfl; rfl; intro W' hS; refine exec_run (s := Instr.indexAt 85 (.slice (some ⟨q, 0, none⟩) D.there.length rcap) (.int .i64 (n : Nat))) rfl (run_indexRows 85 96 64 q D.there.length rcap n Try.underlying85 Try.sizeOf96 nl)
            try simp only [Act.put, List.setIfInBounds_toArray, List.set_cons_succ, List.set_cons_zero]
            apply wpText_goL; rfl; intro K hK
            apply wpl_store 96 (n := 64) (vs := encB s) (hs := Try.sizeOf96) (L := T.flatMap encB ++ rest) (t := 96); rfl; rfl; rfl; exact j2; exact (encB_length s).trans sl; exact encB_one s; (rw [List.length_append, flat_length t64, tl]; omega); rfl
            rw [es64, rows_set sl rest n t64 (by omega)]
            have hS2 := Hsn.out
            unfold fallStep at hS2
            rw [if_neg Ht.out, if_pos hgd] at hS2
            dsimp only at hS2
            rw [← hS2]
            clear hS2 Hsn
            generalize hT2 : Dk.fall keep torn cut 0 (D.aside.take (k + 1)) D.there = T2 at *
            have HT2 := Lib.hid hT2
            clear hT2
            refine wpl_end (hK _ _ ⟨by rw [cell_setRow_other _ _ _ _ (by simp only []; exact npq)]; simpa using c0, (setRow_other _ _ _ _ b1).trans j3⟩ ?_)
            clear hK K
            try simp only [Act.put, List.setIfInBounds_toArray, List.set_cons_succ, List.set_cons_zero]
            apply wpText_done
            go_wp2
            refine ⟨⟨k + 1, by omega, by simp, (setRow_other _ _ _ _ npq).trans j1, ?_, (setRow_other _ _ _ _ (Ne.symm nqm)).trans j4, fun b h1 h2 => (setRow_other _ _ _ _ (by omega)).trans (j5 b h1 h2), k3.drew.setRow (fun _ => .inr (.inl rfl)) _, by rw [size_setRow]; simp; omega⟩, by simp [intOf]; omega⟩
            rw [HT2.out]; exact setRow_eq _ _ _ _ _ _ j2
        · have d1 : decide ((k : Int) < (keep.length : Int)) = false := by simp; omega
          have hgd : keep.getD k false = false := by simp [List.getD_eq_getElem?_getD, hkl]
          go_wp2_with (first | (with_reducible refine wpl_alloc 96 Z64 rfl zero_sector rfl ?_) | ((with_reducible apply wpl_store_all 96 (n := 64) (vs := encB s) (hs := Try.sizeOf96) (L := Z64) (t := 96)); rfl; rfl; rfl; simp (disch := (first | (simp only [World.size_alloc, World.size_setCell, World.size_drew, size_setRow, heap_drew, heap_drewN]; done) | ((try simp only [World.size_alloc, World.size_setCell, World.size_drew, size_setRow, heap_drew, heap_drewN]); omega))) only [heap_drew, heap_drewN, heap_alloc_ne, heap_alloc_eq, heap_setCell_ne, heap_setRow_ne]; exact (encB_length s).trans sl; exact encB_one _; exact Z64_length; rfl; simp (disch := (first | (simp only [World.size_alloc, World.size_setCell, World.size_drew, size_setRow, heap_drew, heap_drewN]; done) | ((try simp only [World.size_alloc, World.size_setCell, World.size_drew, size_setRow, heap_drew, heap_drewN]); omega))) only [setRow_alloc_top, setRow_alloc_under]))
          refine ⟨⟨k + 1, by omega, by simp, (heap_alloc_ne _ _ _ (by have := kr.size; omega)).trans g1, ?_, (heap_alloc_ne _ _ _ (by have := kr.size; omega)).trans g3, fun b h1 h2 => (heap_alloc_ne _ _ _ (by omega)).trans (g4 b h1 h2), kr.alloc _, by simp; omega⟩, by simp [intOf]; omega⟩
          rw [Hsn.out]
          unfold fallStep
          rw [if_neg Ht.out, if_neg (by rw [hgd]; decide)]
          exact (heap_alloc_ne _ _ _ (by have := kr.size; omega)).trans g2
    · obtain rfl : k = D.aside.length := by omega
      have hcl := run_clearMap (P := Try.prog) 86 3 96 0 m es clock Try.underlying86 g3
      have c1 : wr.cell? ⟨p, 1, none⟩ = some (.map (some m)) := by simp [World.cell?, g1]
      have s1 : (setBlock wr m (.map #[] clock)).heap[p]? = _ := (setBlock_ne wr m p (.map #[] clock) npm).trans g1
      have c2 : (setBlock wr m (.map #[] clock)).cell? ⟨p, 2, none⟩ = some (.int .i64 D.left) := by simp [World.cell?, s1]
      have q2 : (setBlock wr m (.map #[] clock)).frozen? ⟨p, 2, none⟩ = false := by simp [World.frozen?, s1]
      have kk : ((D.aside.length : Nat) : Int) ≤ 4096 := by have := aside_len wf; omega
      rw [List.take_length] at g2
      go_wp2
      go_ret
      refine ⟨rfl, ⟨⟨rcap, by rw [fall_length]; exact hc, ?_⟩, ⟨rest, ?_⟩, ⟨#[], clock, ?_, mapRep_nil _⟩, fall_wf wf hcut⟩, (kr.setBlock (fun _ => .inr (.inr rfl)) _).setCell (a := ⟨p, 2, none⟩) (fun _ => .inl rfl) _⟩
      · rw [heap_setCell_same _ p 2 _ _ _ s1, fall_length]; rfl
      · rw [heap_setCell_ne _ _ _ _ _ (Ne.symm npq)]; exact (setBlock_ne wr m q _ nqm).trans g2
      · rw [heap_setCell_ne _ _ _ _ _ (Ne.symm npm)]; exact (heap_set g3).1
theorem crash_calls (kv : Value) (keep : List Bool) (torn cut : Int) (w : World) (h : DiskAt w p q m D) (hkv : BoolsAt w kv keep) (hap : 0 < keep.length → ∀ a n c, kv = .slice (some a) n c → ¬ dset p q m a.block) :
    Calls Try.prog 29 #[.pointer (some ⟨p, 0, none⟩), kv, .int .i64 torn, .int .i64 cut] w fun e w' =>
      e = .returned (.int .i64 (D.crash keep torn cut).1) ∧ DiskAt w' p q m (D.crash keep torn cut).2 ∧ Keeps (dset p q m) w w' := by
  by_cases hc : cut < 0 ∨ 64 < cut
  · have e : D.crash keep torn cut = (1, D) := by simp [Dk.crash, hc]
    rw [e]
    refine (crash_bad kv torn cut w hc).mono ?_
    rintro e w' ⟨rfl, rfl⟩
    exact ⟨rfl, h, Keeps.refl _ _⟩
  · have e : D.crash keep torn cut = (0, ⟨Dk.fall keep torn cut.toNat 0 D.aside D.there, [], -1⟩) := by simp [Dk.crash, hc]
    obtain ⟨c, rfl⟩ : ∃ c : Nat, cut = c := ⟨cut.toNat, by omega⟩
    rw [e]
    exact crash_good kv keep torn c w h (by omega) hkv hap
end Go.Proofs.Ytckopikeegegkaa
/- AT 2: Flush, Crash, Aside, Sectors of a disk that was made within the call. -/
namespace Go.Proofs.Ytckopikeegegkaa
open Go.RowKit Go.MapKept Go.Shelf
set_option linter.unusedVariables false
section
variable {w0 W : World} {p q m : Nat} {D D' : Dk} {n : Int}
theorem flush_at {e : Int} (h : At w0 W p q m D) (he : D.flush = (e, D')) : Calls Try.prog 31 #[.pointer (some ⟨p, 0, none⟩)] W fun r W' => r = .returned (.int .i64 e) ∧ At w0 W' p q m D' ∧ Keeps (dset p q m) W W' := by
  have := flush_calls W h.at_
  rw [he] at this
  exact this.mono (fun r W' ⟨h1, h2, h3⟩ => ⟨h1, h.turned h3 h2, h3⟩)
theorem crash_at {e : Int} {kv : Value} {keep : List Bool} {torn cut : Int} (h : At w0 W p q m D) (hkv : BoolsAt W kv keep) (hap : 0 < keep.length → ∀ a n c, kv = .slice (some a) n c → ¬ dset p q m a.block) (he : D.crash keep torn cut = (e, D')) :
    Calls Try.prog 29 #[.pointer (some ⟨p, 0, none⟩), kv, .int .i64 torn, .int .i64 cut] W fun r W' => r = .returned (.int .i64 e) ∧ At w0 W' p q m D' ∧ Keeps (dset p q m) W W' := by
  have := crash_calls kv keep torn cut W h.at_ hkv hap
  rw [he] at this
  exact this.mono (fun r W' ⟨h1, h2, h3⟩ => ⟨h1, h.turned h3 h2, h3⟩)
theorem aside_at (h : At w0 W p q m D) : Calls Try.prog 27 #[.pointer (some ⟨p, 0, none⟩)] W fun r W' =>
    ∃ v, r = .returned v ∧ W'.ownsRow W.heap.size 3 1 v D.aside.length ((keysOf D.aside).map (Value.int .i64)) ∧ (v = .slice none 0 0 ↔ D.aside = []) ∧ At w0 W' p q m D ∧ Keeps noB W W' :=
  (aside_calls W h.at_).mono (fun r W' ⟨v, h1, h2, h3, h4⟩ => ⟨v, h1, h2, h3, h.same h4, h4⟩)
theorem sectors_at {e : Int} (h : At w0 W p q m D) (he : (D.there.length : Int) = e) : Calls Try.prog 39 #[.pointer (some ⟨p, 0, none⟩)] W fun r W' => r = .returned (.int .i64 e) ∧ W = W' := by
  subst he; exact sectors_calls W h.at_
/-- A slice of bools that came in: no block of the disk's. -/
theorem BoolsAt.carry {w W : World} {v : Value} {l : List Bool} (h : BoolsAt w v l) (hk : Keeps noB w W) : BoolsAt W v l := by
  rcases h with h | ⟨a, cap, rfl, hc⟩
  · exact .inl h
  · refine .inr ⟨a, cap, rfl, fun i hi => ?_⟩
    have h1 := hc i hi
    have hb : (a.add i).block < w.heap.size := by
      cases hh : w.heap[(a.add i).block]? with
      | none => simp [World.cell?, hh] at h1
      | some o => exact (Array.getElem?_eq_some_iff.1 hh).1
    exact (World.cell?_of_block (w := w) (hk.block _ hb (fun q => q))).trans h1
end
end Go.Proofs.Ytckopikeegegkaa
/- MAY: the contract of may. -/
namespace Go.Proofs.Ytckopikeegegkaa
open Go.RowKit Go.MapKept Go.Shelf
set_option linter.unusedSimpArgs false
set_option linter.unusedVariables false
def mayE (e : Int) : Int := IntKind.u64.wrap e % 1099511627776
def mayG (g : Int) : Int := IntKind.u64.wrap g % 1024
theorem mayE_bounds (e : Int) : 0 ≤ mayE e ∧ mayE e ≤ 1099511627776 := by unfold mayE; omega
theorem mayG_bounds (g : Int) : 0 ≤ mayG g ∧ mayG g < 1024 := by unfold mayG; omega
set_option maxHeartbeats 1000000 in
theorem may_calls (on : Bool) (ep pg : Int) (w : World) : Calls Try.prog 41 #[.agg #[.bool on, .int .i64 ep, .int .i64 pg]] w fun e w' =>
    e = .returned (.agg #[.bool on, .int .i64 (mayE ep), .int .i64 (mayG pg)]) ∧ Keeps noB w w' := by
  go_enter Try.func41, Try.ntmps41
  go_wp2
  have u : ∀ x, 0 ≤ IntKind.u64.wrap x := fun x => by rw [IntKind.wrap_u64]; omega
  have e1 : wrap64 ((IntKind.u64.wrap ep).tmod 1099511627776) = mayE ep := by
    have h := mayE_bounds ep
    rw [Int.tmod_eq_emod_of_nonneg (u ep)]
    exact IntWalk.wrap64_in (IntKind.u64.wrap ep % 1099511627776) (by unfold mayE at h; omega)
  have e2 : wrap64 ((IntKind.u64.wrap pg).tmod 1024) = mayG pg := by
    have h := mayG_bounds pg
    rw [Int.tmod_eq_emod_of_nonneg (u pg)]
    exact IntWalk.wrap64_in (IntKind.u64.wrap pg % 1024) (by unfold mayG at h; omega)
  rw [e1, e2]
  exact bodyPost_ret (results_all rfl _ _ (w.heap.size + 1) [.bool on, .int .i64 (mayE ep), .int .i64 (mayG pg)] 23 (0, 0) 3 rfl Try.isAgg23 Try.sizeOf23 (by simp (disch := (first | (simp only [World.size_alloc, World.size_setCell, World.size_drew, size_setRow, heap_drew, heap_drewN]; done) | ((try simp only [World.size_alloc, World.size_setCell, World.size_drew, size_setRow, heap_drew, heap_drewN]); omega))) only [heap_drew, heap_drewN, heap_alloc_ne, heap_alloc_eq, heap_setCell_ne, heap_setRow_ne]) rfl) rfl ⟨rfl, ((Keeps.refl _ _).alloc _).alloc _⟩
end Go.Proofs.Ytckopikeegegkaa
/- PURE 4: a root set ahead of a crash. -/
namespace Go.Proofs.Ytckopikeegegkaa
/-- What lies at a sector behind a crash with one sector kept aside. -/
def tornOne (keep : List Bool) (torn : Int) (cut : Nat) (new old : Str) : Str := if (0 : Int) = torn then new.take cut ++ old.drop cut else if keep.getD 0 false then new else old
theorem crash_one (d : Dk) (n : Nat) (s : Str) (ha : d.aside = []) (hn : n < d.there.length) (keep : List Bool) (torn : Int) (cut : Nat) (hc : cut ≤ 64) :
    ∃ D', (wrote d n s).crash keep torn cut = (0, D') ∧ D'.aside = [] ∧ D'.left = -1 ∧ D'.there.length = d.there.length ∧
      (∀ k, D'.there.getD k [] = if k = n then tornOne keep torn cut s (d.there.getD n []) else d.there.getD k []) := by
  have e : (wrote d n s).aside = [(n, s)] := by simp [wrote, ha, Dk.put]
  refine ⟨⟨Dk.fall keep torn cut 0 [(n, s)] d.there, [], -1⟩, ?_, rfl, rfl, fall_length _ _ _ _ _ _, fun k => ?_⟩
  · unfold Dk.crash
    rw [if_neg (by omega), e]; rfl
  · simp only [Dk.fall, tornOne]
    by_cases h0 : ((0 : Nat) : Int) = torn
    · have h0' : (0 : Int) = torn := h0
      rw [if_pos h0, getD_set_str _ _ _ _ hn]
      by_cases hk : n = k
      · subst hk; rw [if_pos rfl, if_pos rfl, if_pos h0']
      · rw [if_neg hk, if_neg (Ne.symm hk)]
    · have h0' : ¬ (0 : Int) = torn := h0
      rw [if_neg h0]
      by_cases hb : keep.getD 0 false = true
      · rw [if_pos hb, getD_set_str _ _ _ _ hn]
        by_cases hk : n = k
        · subst hk; rw [if_pos rfl, if_pos rfl, if_neg h0', if_pos hb]
        · rw [if_neg hk, if_neg (Ne.symm hk)]
      · rw [if_neg hb]
        by_cases hk : n = k
        · subst hk; rw [if_pos rfl, if_neg h0', if_neg hb]
        · rw [if_neg (Ne.symm hk)]
theorem rootOf_on (s : Str) : (rootOf s).on = (s.getD 0 0 == 1) := rfl
theorem rootText_head (m : Mk) : (rootText m).getD 0 0 = if m.on then 1 else 0 := rfl
/-- A root that does not count, torn or whole, over another one: that one, or one that does not count. -/
theorem torn_root (keep : List Bool) (torn : Int) (cut : Nat) (m : Mk) (hm : m.on = false) (old : Str) :
    rootOf (tornOne keep torn cut (rootText m) old) = rootOf old ∨ (rootOf (tornOne keep torn cut (rootText m) old)).on = false := by
  have h0 : (rootOf (rootText m)).on = false := by rw [rootOf_on, rootText_head, hm]; rfl
  unfold tornOne
  by_cases h1 : (0 : Int) = torn
  · rw [if_pos h1]
    cases cut with
    | zero => left; rfl
    | succ c =>
      right
      rw [rootOf_on]
      have : ((rootText m).take (c + 1) ++ old.drop (c + 1)).getD 0 0 = (rootText m).getD 0 0 := rfl
      rw [this, rootText_head, hm]; rfl
  · rw [if_neg h1]
    by_cases hb : keep.getD 0 false = true
    · rw [if_pos hb]; right; exact h0
    · rw [if_neg hb]; left; rfl
theorem flush_done {d : Dk} (h : d.left = -1) : d.flush = (0, ⟨Dk.settle d.aside d.there, [], -1⟩) := by
  unfold Dk.flush
  rw [if_neg (by omega), h]; rfl
theorem now_flat {d : Dk} (h : d.aside = []) (n : Nat) : d.now n = d.there.getD n [] := by unfold Dk.now; rw [h]; rfl
end Go.Proofs.Ytckopikeegegkaa
/- PURE 5: the plain law of PageTorn. -/
namespace Go.Proofs.Ytckopikeegegkaa
theorem flush_getD {d : Dk} (h : d.Wf) (k : Nat) : (Dk.settle d.aside d.there).getD k [] = d.now k := settle_getD d.aside d.there h.rises (fun p hp => (h.aside p hp).1) k
theorem wrote_wf {d : Dk} (h : d.Wf) {n : Nat} {s : Str} (hn : n < d.there.length) (hs : s.length = 64) : (wrote d n s).Wf := write_wf h hn hs
theorem torn_all (d : Dk) (a b : Nat) (hab : a ≠ b) (ha : hasRoot d a = true) (hb : hasRoot d b = true) (hl : d.left = -1) (hw : d.Wf) (old other next : Mk) (m1 : mayRoot old = true) (m2 : mayRoot other = true) (m3 : mayRoot next = true) (hn : next.on = false)
    (keep : List Bool) (torn : Int) (cut : Nat) (hc : cut ≤ 64) :
    ∃ D1 D2 D3 D4 D5 x, pgSetRoot d a old = (0, D1) ∧ pgSetRoot D1 b other = (0, D2) ∧ D2.flush = (0, D3) ∧ pgSetRoot D3 a next = (0, D4) ∧ D4.crash keep torn cut = (0, D5) ∧ pgRoot D5 a = (x, 0) ∧ pgRoot D5 b = (other, 0) ∧ (x = old ∨ x.on = false) := by
  have hna : 4 * a < d.there.length := by
    simp only [hasRoot, hasPage, Bool.and_eq_true, decide_eq_true_eq] at ha
    unfold pages at ha; omega
  have hnb : 4 * b < d.there.length := by
    simp only [hasRoot, hasPage, Bool.and_eq_true, decide_eq_true_eq] at hb
    unfold pages at hb; omega
  have n1 : 4 * a ≠ 4 * b := by omega
  have e1 : pgSetRoot d a old = (0, wrote d (4 * a) (rootText old)) := by rw [set_on d ha (by omega), m1]; rfl
  have e2 : pgSetRoot (wrote d (4 * a) (rootText old)) b other = (0, wrote (wrote d (4 * a) (rootText old)) (4 * b) (rootText other)) := by rw [set_on _ (hasRoot_w _ _ _ hb) (by rw [wrote_left, hl]; decide), m2]; rfl
  have w2 : (wrote (wrote d (4 * a) (rootText old)) (4 * b) (rootText other)).Wf := wrote_wf (wrote_wf hw hna (rootText_length _)) hnb (rootText_length _)
  have l2 : (wrote (wrote d (4 * a) (rootText old)) (4 * b) (rootText other)).left = -1 := by rw [wrote_left, wrote_left, hl]; rfl
  have v2 : ∀ k, (wrote (wrote d (4 * a) (rootText old)) (4 * b) (rootText other)).now k = if 4 * b = k then rootText other else if 4 * a = k then rootText old else d.now k := fun k => by rw [now_wrote, now_wrote]
  have t2 : (wrote (wrote d (4 * a) (rootText old)) (4 * b) (rootText other)).there = d.there := rfl
  generalize wrote (wrote d (4 * a) (rootText old)) (4 * b) (rootText other) = D2 at *
  have e3 := flush_done l2
  have v3 : ∀ k, (Dk.settle D2.aside D2.there).getD k [] = D2.now k := flush_getD w2
  have t3 : (Dk.settle D2.aside D2.there).length = d.there.length := by rw [settle_length, t2]
  generalize Dk.settle D2.aside D2.there = T3 at *
  have e4 : pgSetRoot ⟨T3, [], -1⟩ a next = (0, wrote ⟨T3, [], -1⟩ (4 * a) (rootText next)) := by
    rw [set_on _ (by unfold hasRoot hasPage pages at ha ⊢; rw [t3]; exact ha) (by simp), m3]; rfl
  obtain ⟨D5, e5, a5, l5, t5, v5⟩ := crash_one ⟨T3, [], -1⟩ (4 * a) (rootText next) rfl (by rw [t3]; exact hna) keep torn cut hc
  dsimp only at t5 v5
  have r : ∀ c : Nat, hasRoot d c = true → hasRoot D5 c = true := fun c hc => by unfold hasRoot hasPage pages at hc ⊢; rw [t5, t3]; exact hc
  refine ⟨_, D2, _, _, D5, _, e1, e2, e3, e4, e5, root_on D5 (r a ha), ?_, ?_⟩
  · rw [root_on D5 (r b hb), now_flat a5, v5, if_neg (Ne.symm n1), v3, v2, if_pos rfl, rootOf_rootText m2]
  · have := torn_root keep torn cut next hn (T3.getD (4 * a) [])
    rw [now_flat a5, v5, if_pos rfl]
    rcases this with h | h
    · left; rw [h, v3, v2, if_neg (Ne.symm n1), if_pos rfl, rootOf_rootText m1]
    · right; exact h
end Go.Proofs.Ytckopikeegegkaa
/- PURE 6: plain laws of the disk: what is read behind a step, a crash, a flush; the fuse. -/
namespace Go.Proofs.Ytckopikeegegkaa
/-- A step of the disk's laws. -/
structure Stp where
  kind : Int
  n : Int
  s : Str
  keep : List Bool
  cut : Int
  deriving Inhabited
def whole (s : Str) (c : Int) : Str := if c.tmod 4 = 3 then s else if 64 < s.length then s.take 64 else s ++ List.replicate (64 - s.length) 0
def doStep (x : Stp) (d : Dk) : Int × Dk :=
  if x.kind = 0 then d.write x.n (whole x.s x.cut) else if x.kind = 1 then d.flush else if x.kind = 2 then d.fuse x.n else d.crash x.keep x.n x.cut

theorem write_len (d : Dk) (n : Int) (s : Str) : (d.write n s).2.there = d.there := by
  unfold Dk.write; split; rfl; split; rfl; split <;> rfl
theorem flush_len (d : Dk) : d.flush.2.there.length = d.there.length := by
  unfold Dk.flush; split; rfl; exact settle_length _ _
theorem fuse_len (d : Dk) (n : Int) : (d.fuse n).2.there = d.there := by
  unfold Dk.fuse; split; rfl; split <;> rfl
theorem crash_len (d : Dk) (keep : List Bool) (torn cut : Int) : (d.crash keep torn cut).2.there.length = d.there.length := by
  unfold Dk.crash; split; rfl; exact fall_length _ _ _ _ _ _
theorem doStep_len (x : Stp) (d : Dk) : (doStep x d).2.there.length = d.there.length := by
  unfold doStep; split; rw [write_len]; split; exact flush_len _; split; rw [fuse_len]; exact crash_len _ _ _ _
theorem has_len {d d' : Dk} (h : d'.there.length = d.there.length) (n : Int) : d'.has n = d.has n := by unfold Dk.has; rw [h]
theorem read_same {d d' : Dk} (h : d'.there.length = d.there.length) (n : Int) (hn : ∀ k : Nat, n = k → d'.now k = d.now k) : d'.read n = d.read n := by
  unfold Dk.read
  rw [has_len h]
  by_cases hh : d.has n = true
  · rw [if_pos hh, if_pos hh]
    have h0 : 0 ≤ n := by unfold Dk.has at hh; simp at hh; exact hh.1
    rw [hn n.toNat (by omega)]
  · rw [if_neg hh, if_neg hh]
theorem flush_now {d : Dk} (hw : d.Wf) (k : Nat) : d.flush.2.now k = d.now k := by
  unfold Dk.flush
  split
  · rfl
  · rw [now_flat rfl]; exact flush_getD hw k
theorem fuse_now (d : Dk) (n : Int) (k : Nat) : (d.fuse n).2.now k = d.now k := by
  unfold Dk.fuse; split; rfl; split <;> rfl
theorem write_cases (d : Dk) (n : Int) (s : Str) : (d.write n s).1 ≠ 0 ∧ (d.write n s).2 = d ∨ ∃ k : Nat, n = k ∧ k < d.there.length ∧ s.length = 64 ∧ d.left ≠ 0 ∧ d.write n s = (0, wrote d k s) := by
  by_cases hh : d.has n = true
  · have h0 : 0 ≤ n ∧ n < d.there.length := by unfold Dk.has at hh; simpa using hh
    by_cases hs : s.length = 64
    · by_cases hl : d.left = 0
      · left; unfold Dk.write; rw [if_neg (by simp [hh]), if_neg (by simpa using hs), if_pos hl]; exact ⟨by simp, rfl⟩
      · right
        refine ⟨n.toNat, by omega, by omega, hs, hl, ?_⟩
        have := write_done (d := d) (n := n.toNat) (s := s) (by omega) hs hl
        rwa [show ((n.toNat : Nat) : Int) = n by omega] at this
    · left; unfold Dk.write; rw [if_neg (by simp [hh]), if_pos (by simpa using hs)]; exact ⟨by simp, rfl⟩
  · left; unfold Dk.write; rw [if_pos (by simpa using hh)]; exact ⟨by simp, rfl⟩
/-- What is read behind a step that is no crash. -/
theorem doStep_read (x : Stp) (d : Dk) (hw : d.Wf) (n : Int) (hk : x.kind = 0 ∨ x.kind = 1 ∨ x.kind = 2) :
    (doStep x d).2.read n = if x.kind = 0 ∧ x.n = n ∧ (doStep x d).1 = 0 then (whole x.s x.cut, 0) else d.read n := by
  rcases hk with h | h | h
  · have e : doStep x d = d.write x.n (whole x.s x.cut) := by unfold doStep; rw [if_pos h]
    rw [e]
    rcases write_cases d x.n (whole x.s x.cut) with ⟨h1, h2⟩ | ⟨k, hk, hl, hs, _, h2⟩
    · rw [if_neg (fun q => h1 q.2.2), h2]
    · rw [h2]
      by_cases hn : x.n = n
      · rw [if_pos ⟨h, hn, rfl⟩]
        have : (wrote d k (whole x.s x.cut)).has n = true := by unfold Dk.has; rw [wrote_there]; simp only [Bool.and_eq_true, decide_eq_true_eq]; omega
        unfold Dk.read
        rw [if_pos this, now_wrote, if_pos (by omega)]
      · rw [if_neg (fun q => hn q.2.1)]
        refine read_same (d := d) (d' := wrote d k (whole x.s x.cut)) rfl n (fun j hj => ?_)
        rw [now_wrote, if_neg (by omega)]
  · have e : doStep x d = d.flush := by unfold doStep; rw [if_neg (by omega), if_pos h]
    rw [e, if_neg (by omega)]
    exact read_same (flush_len d) n (fun j _ => flush_now hw j)
  · have e : doStep x d = d.fuse x.n := by unfold doStep; rw [if_neg (by omega), if_neg (by omega), if_pos h]
    rw [e, if_neg (by omega)]
    exact read_same (by rw [fuse_len]) n (fun j _ => fuse_now d x.n j)

/-! A crash. -/
theorem fall_none (keep : List Bool) (torn : Int) (cut : Nat) (n : Nat) : ∀ (A : List (Nat × Str)) (j : Nat) (t : List Str), (∀ p ∈ A, p.1 < t.length) → (∀ p ∈ A, p.1 ≠ n) → (Dk.fall keep torn cut j A t).getD n [] = t.getD n []
  | [], _, _, _, _ => rfl
  | p :: A, j, t, hl, hn => by
    have h1 := hl p List.mem_cons_self
    have h2 := hn p List.mem_cons_self
    have hs : ∀ s, (t.set p.1 s).getD n [] = t.getD n [] := fun s => by rw [getD_set_str _ _ _ _ h1, if_neg h2]
    simp only [Dk.fall]
    rw [fall_none keep torn cut n A]
    · split
      · exact hs _
      · split
        · exact hs _
        · rfl
    · intro q hq
      have := hl q (List.mem_cons_of_mem _ hq)
      split
      · simpa using this
      · split <;> simpa using this
    · exact fun q hq => hn q (List.mem_cons_of_mem _ hq)
theorem fall_some (keep : List Bool) (torn : Int) (cut : Nat) (n : Nat) (s : Str) : ∀ (A : List (Nat × Str)) (j i : Nat) (t : List Str), A.Pairwise (fun p q => p.1 < q.1) → (∀ p ∈ A, p.1 < t.length) → A[i]? = some (n, s) →
    (Dk.fall keep torn cut j A t).getD n [] = if ((j + i : Nat) : Int) = torn then s.take cut ++ (t.getD n []).drop cut else if keep.getD (j + i) false then s else t.getD n []
  | p :: A, j, 0, t, hr, hl, hi => by
    have hp : p = (n, s) := by simpa using hi
    subst hp
    have h1 : n < t.length := hl (n, s) List.mem_cons_self
    have h2 : ∀ q ∈ A, q.1 ≠ n := fun q hq => by have : n < q.1 := (List.pairwise_cons.1 hr).1 q hq; omega
    simp only [Dk.fall, Nat.add_zero]
    rw [fall_none]
    · split
      · rw [getD_set_str _ _ _ _ h1, if_pos rfl]
      · split
        · rw [getD_set_str _ _ _ _ h1, if_pos rfl]
        · rfl
    · intro q hq
      have := hl q (List.mem_cons_of_mem _ hq)
      split
      · simpa using this
      · split <;> simpa using this
    · exact h2
  | p :: A, j, i + 1, t, hr, hl, hi => by
    have hi' : A[i]? = some (n, s) := by simpa using hi
    have hm : (n, s) ∈ A := List.mem_of_getElem? hi'
    have h1 := hl p List.mem_cons_self
    have h2 : p.1 ≠ n := by have : p.1 < n := (List.pairwise_cons.1 hr).1 (n, s) hm; omega
    have hs : ∀ s, (t.set p.1 s).getD n [] = t.getD n [] := fun s => by rw [getD_set_str _ _ _ _ h1, if_neg h2]
    simp only [Dk.fall]
    rw [fall_some keep torn cut n s A (j + 1) i _ (List.pairwise_cons.1 hr).2 _ hi', show j + 1 + i = j + (i + 1) by omega]
    · have : ∀ c : Prop, ∀ _ : Decidable c, ∀ x : List Str, x.getD n [] = t.getD n [] → (if c then x else if keep.getD j false = true then t.set p.1 p.2 else t).getD n [] = t.getD n [] := by
        intro c _ x hx
        split
        · exact hx
        · split
          · exact hs _
          · rfl
      rw [this _ _ _ (hs _)]
    · intro q hq
      have := hl q (List.mem_cons_of_mem _ hq)
      split
      · simpa using this
      · split <;> simpa using this
theorem crash_now (d : Dk) (keep : List Bool) (torn : Int) (cut : Nat) (hc : cut ≤ 64) (n : Nat) : (d.crash keep torn cut).2.now n = (Dk.fall keep torn cut 0 d.aside d.there).getD n [] := by
  unfold Dk.crash
  rw [if_neg (by omega), now_flat rfl]
  rfl
theorem crash_good_eq (d : Dk) (keep : List Bool) (torn : Int) (cut : Nat) (hc : cut ≤ 64) : d.crash keep torn cut = (0, ⟨Dk.fall keep torn cut 0 d.aside d.there, [], -1⟩) := by
  unfold Dk.crash
  rw [if_neg (by omega)]
  rfl
/-- The fuse: a step that is done burns it; one that is not leaves all. -/
theorem doStep_fuse (x : Stp) (d : Dk) (hk : x.kind = 0 ∨ x.kind = 1) (hl : 0 ≤ d.left) :
    (doStep x d).1 = 0 ∧ 0 < d.left ∧ (doStep x d).2.left = d.left - 1 ∨ (doStep x d).1 ≠ 0 ∧ (doStep x d).2 = d := by
  rcases hk with h | h
  · have e : doStep x d = d.write x.n (whole x.s x.cut) := by unfold doStep; rw [if_pos h]
    rw [e]
    rcases write_cases d x.n (whole x.s x.cut) with ⟨h1, h2⟩ | ⟨k, hk, hl2, hs, h0, h2⟩
    · exact .inr ⟨h1, h2⟩
    · left; rw [h2]
      refine ⟨rfl, by omega, ?_⟩
      rw [wrote_left]; unfold Dk.burnt; rw [if_pos (by omega)]
  · have e : doStep x d = d.flush := by unfold doStep; rw [if_neg (by omega), if_pos h]
    rw [e]; unfold Dk.flush
    split
    · right; exact ⟨by simp, rfl⟩
    · left
      refine ⟨rfl, by omega, ?_⟩
      show Dk.burnt d.left = _
      unfold Dk.burnt; rw [if_pos (by omega)]
end Go.Proofs.Ytckopikeegegkaa
/- STT: contracts of a disk, each with what the plain function answers handed in; for the walks of laws. -/
namespace Go.Proofs.Ytckopikeegegkaa
open Go.RowKit Go.MapKept Go.Shelf
set_option linter.unusedVariables false
section
variable {w0 W : World} {p q m : Nat} {D D' : Dk} {n : Int}
theorem DiskAt.alloc (h : DiskAt W p q m D) (o : Obj) : DiskAt (W.alloc o) p q m D := h.keep ((Keeps.refl noB _).alloc o) (fun q => q) (fun q => q) (fun q => q)
theorem DiskAt.drew (h : DiskAt W p q m D) : DiskAt W.drew p q m D := h.same rfl rfl rfl
theorem DiskAt.held (h : DiskAt W p q m D) {W' : World} (k : Keeps noB W W') : DiskAt W' p q m D := h.keep k (fun q => q) (fun q => q) (fun q => q)
theorem dNew (he : Dk.make n = some D) : Calls Try.prog 16 #[.int .i64 n] W fun e W' => ∃ p q m, e = .returned (.tuple #[.pointer (some ⟨p, 0, none⟩), .int .i64 0]) ∧ DiskAt W' p q m D ∧ Keeps noB W W' ∧ W.heap.size ≤ p ∧ W.heap.size ≤ q ∧ W.heap.size ≤ m := new_good n D W he
theorem dPages {e : Int} (h : DiskAt W p q m D) (he : pages D = e) : Calls Try.prog 20 #[.pointer (some ⟨p, 0, none⟩)] W fun r W' => r = .returned (.int .i64 e) ∧ W = W' := by
  subst he; exact pages_calls W h
theorem dRead {s : Str} {e : Int} (h : DiskAt W p q m D) (he : D.read n = (s, e)) : Calls Try.prog 24 #[.pointer (some ⟨p, 0, none⟩), .int .i64 n] W fun r W' => r = .returned (.tuple #[.string (bs s), .int .i64 e]) ∧ DiskAt W' p q m D ∧ Keeps noB W W' := by
  have := read_calls n W h
  rw [he] at this
  exact this.mono (fun r W' ⟨h1, h2⟩ => ⟨h1, h.held h2, h2⟩)
theorem dWrite {s : Str} {e : Int} (h : DiskAt W p q m D) (he : D.write n s = (e, D')) : Calls Try.prog 32 #[.pointer (some ⟨p, 0, none⟩), .int .i64 n, .string (bs s)] W fun r W' => r = .returned (.int .i64 e) ∧ DiskAt W' p q m D' ∧ Keeps (dset p q m) W W' := by
  have := write_calls n s W h
  rw [he] at this
  exact this
theorem dPread {s : Str} {e : Int} (h : DiskAt W p q m D) (he : pgRead D n = (s, e)) : Calls Try.prog 19 #[.pointer (some ⟨p, 0, none⟩), .int .i64 n] W fun r W' => r = .returned (.tuple #[.string (bs s), .int .i64 e]) ∧ DiskAt W' p q m D ∧ Keeps noB W W' := by
  have := pread_calls n W h
  rw [he] at this
  exact this.mono (fun r W' ⟨h1, h2⟩ => ⟨h1, h.held h2, h2⟩)
theorem dPwrite {s : Str} {e : Int} (h : DiskAt W p q m D) (he : pgWrite D n s = (e, D')) : Calls Try.prog 21 #[.pointer (some ⟨p, 0, none⟩), .int .i64 n, .string (bs s)] W fun r W' => r = .returned (.int .i64 e) ∧ DiskAt W' p q m D' ∧ Keeps (dset p q m) W W' := by
  have := pwrite_calls n s W h
  rw [he] at this
  exact this
theorem dSetRoot {on : Bool} {ep pg e : Int} (h : DiskAt W p q m D) (he : pgSetRoot D n ⟨on, ep, pg⟩ = (e, D')) : Calls Try.prog 17 #[.pointer (some ⟨p, 0, none⟩), .int .i64 n, .agg #[.bool on, .int .i64 ep, .int .i64 pg]] W fun r W' => r = .returned (.int .i64 e) ∧ DiskAt W' p q m D' ∧ Keeps (dset p q m) W W' := by
  have := setRoot_calls n ⟨on, ep, pg⟩ W h
  rw [he] at this
  exact this
theorem dRoot {on : Bool} {ep pg e : Int} (h : DiskAt W p q m D) (he : pgRoot D n = (⟨on, ep, pg⟩, e)) : Calls Try.prog 18 #[.pointer (some ⟨p, 0, none⟩), .int .i64 n] W fun r W' => r = .returned (.tuple #[.agg #[.bool on, .int .i64 ep, .int .i64 pg], .int .i64 e]) ∧ DiskAt W' p q m D ∧ Keeps noB W W' := by
  have := pgroot_calls n W h
  rw [he] at this
  exact this.mono (fun r W' ⟨h1, h2⟩ => ⟨h1, h.held h2, h2⟩)
theorem dFuse {e : Int} (h : DiskAt W p q m D) (hn : n ≤ 9223372036854775807) (he : D.fuse n = (e, D')) : Calls Try.prog 35 #[.pointer (some ⟨p, 0, none⟩), .int .i64 n] W fun r W' => r = .returned (.int .i64 e) ∧ DiskAt W' p q m D' ∧ Keeps (dset p q m) W W' := by
  have := fuse_calls n W h hn
  rw [he] at this
  exact this
theorem dDead {b : Bool} (h : DiskAt W p q m D) (he : D.dead = b) : Calls Try.prog 30 #[.pointer (some ⟨p, 0, none⟩)] W fun r W' => r = .returned (.bool b) ∧ W = W' := by
  subst he; exact dead_calls W h
theorem dSectors {e : Int} (h : DiskAt W p q m D) (he : (D.there.length : Int) = e) : Calls Try.prog 39 #[.pointer (some ⟨p, 0, none⟩)] W fun r W' => r = .returned (.int .i64 e) ∧ W = W' := by
  subst he; exact sectors_calls W h
theorem dFlush {e : Int} (h : DiskAt W p q m D) (he : D.flush = (e, D')) : Calls Try.prog 31 #[.pointer (some ⟨p, 0, none⟩)] W fun r W' => r = .returned (.int .i64 e) ∧ DiskAt W' p q m D' ∧ Keeps (dset p q m) W W' := by
  have := flush_calls W h
  rw [he] at this
  exact this
theorem dCrash {e : Int} {kv : Value} {keep : List Bool} {torn cut : Int} (h : DiskAt W p q m D) (hkv : BoolsAt W kv keep) (hap : 0 < keep.length → ∀ a n c, kv = .slice (some a) n c → ¬ dset p q m a.block) (he : D.crash keep torn cut = (e, D')) :
    Calls Try.prog 29 #[.pointer (some ⟨p, 0, none⟩), kv, .int .i64 torn, .int .i64 cut] W fun r W' => r = .returned (.int .i64 e) ∧ DiskAt W' p q m D' ∧ Keeps (dset p q m) W W' := by
  have := crash_calls kv keep torn cut W h hkv hap
  rw [he] at this
  exact this
theorem dAside (h : DiskAt W p q m D) : Calls Try.prog 27 #[.pointer (some ⟨p, 0, none⟩)] W fun r W' =>
    ∃ v, r = .returned v ∧ W'.ownsRow W.heap.size 3 1 v D.aside.length ((keysOf D.aside).map (Value.int .i64)) ∧ (v = .slice none 0 0 ↔ D.aside = []) ∧ DiskAt W' p q m D ∧ Keeps noB W W' :=
  (aside_calls W h).mono (fun r W' ⟨v, h1, h2, h3, h4⟩ => ⟨v, h1, h2, h3, h.held h4, h4⟩)
end
theorem BoolsAt.form {w : World} {v : Value} {l : List Bool} (h : BoolsAt w v l) : ∃ ad cap, v = .slice ad l.length cap := by
  rcases h with ⟨rfl, rfl⟩ | ⟨a, cap, rfl, _⟩
  · exact ⟨none, 0, rfl⟩
  · exact ⟨some a, cap, rfl⟩
theorem BoolsAt.lt {w : World} {l : List Bool} {a : Addr} {n c : Nat} (h : BoolsAt w (.slice (some a) n c) l) (hl : 0 < l.length) : a.block < w.heap.size := by
  rcases h with ⟨h, _⟩ | ⟨b, cap, h, hc⟩
  · cases h
  · cases h
    have h1 := hc 0 hl
    have hb : (a.add 0).block = a.block := by unfold Addr.add; split <;> rfl
    rw [← hb]
    cases hh : w.heap[(a.add 0).block]? with
    | none => simp [World.cell?, hh] at h1
    | some o => exact (Array.getElem?_eq_some_iff.1 hh).1
theorem cell_block {w : World} {a : Addr} {v : Value} (h : w.cell? a = some v) : a.block < w.heap.size := by
  cases hh : w.heap[a.block]? with
  | none => simp [World.cell?, hh] at h
  | some o => exact (Array.getElem?_eq_some_iff.1 hh).1
theorem cell_keeps {S : Nat → Prop} {W W' : World} {a : Addr} {v : Value} (k : Keeps S W W') (h : W.cell? a = some v) (hS : ¬ S a.block) : W'.cell? a = some v :=
  (World.cell?_of_block (w := W) (k.block _ (cell_block h) hS)).trans h
theorem BoolsAt.at_ {w : World} {l : List Bool} {ad : Option Addr} {n c : Nat} (h : BoolsAt w (.slice ad n c) l) (i : Nat) (hi : i < l.length) : ∃ a, ad = some a ∧ w.cell? (a.add i) = some (.bool l[i]) := by
  rcases h with ⟨h, rfl⟩ | ⟨b, cap, h, hc⟩
  · simp at hi
  · cases h; exact ⟨b, rfl, hc i hi⟩
/-- A slice that came in is none of the blocks of a disk that is new. -/
theorem BoolsAt.apart {w : World} {v : Value} {l : List Bool} {p q m : Nat} (h : BoolsAt w v l) (hp : w.heap.size ≤ p) (hq : w.heap.size ≤ q) (hm : w.heap.size ≤ m) : 0 < l.length → ∀ a n c, v = .slice (some a) n c → ¬ dset p q m a.block := by
  intro hl a n c e
  subst e
  have := h.lt hl
  simp only [dset]; omega
theorem carry {S : Nat → Prop} {W W' : World} {b : Nat} {o : Obj} (k : Keeps S W W') (f : W.heap[b]? = some o) (hS : ¬ S b) : W'.heap[b]? = some o := (k.block b (Array.getElem?_eq_some_iff.1 f).1 hS).trans f
theorem blk_alloc {W : World} {b : Nat} {o : Obj} (f : W.heap[b]? = some o) (x : Obj) : (W.alloc x).heap[b]? = some o :=
  (heap_alloc_ne _ _ _ (by have := (Array.getElem?_eq_some_iff.1 f).1; omega)).trans f
theorem keepsSet {W : World} {b : Nat} {cs : Array Value} {t : TypeId} {fr : Nat × Nat} (f : W.heap[b]? = some (.cells cs t fr)) (vs : List Value) : Keeps (fun k => k = b) W (W.setRow b vs.toArray) := (Keeps.refl (fun k => k = b) W).setRow (fun _ => rfl) _
theorem setBox {W : World} {b : Nat} {cs : Array Value} {t : TypeId} {fr : Nat × Nat} (f : W.heap[b]? = some (.cells cs t fr)) (vs : List Value) : (W.setRow b vs.toArray).heap[b]? = some (.cells vs.toArray t fr) := setRow_eq _ _ _ _ _ _ f
theorem cell_blk {W : World} {b : Nat} {cs : Array Value} {t : TypeId} {fr : Nat × Nat} (f : W.heap[b]? = some (.cells cs t fr)) (i : Nat) (v : Value) (h : cs[i]? = some v) : W.cell? ⟨b, i, none⟩ = some v := by
  simp [World.cell?, f, h]
theorem frozen_blk {W : World} {b : Nat} {cs : Array Value} {t : TypeId} (f : W.heap[b]? = some (.cells cs t (0, 0))) (i : Nat) : W.frozen? ⟨b, i, none⟩ = false := by
  simp [World.frozen?, f]
/-- Conditions on a world, for regions. -/
abbrev Blk1 (b1 : Nat) (o1 : Obj) (W : World) : Prop := W.heap[b1]? = some o1
abbrev Blk2 (b1 : Nat) (o1 : Obj) (b2 : Nat) (o2 : Obj) (W : World) : Prop := W.heap[b1]? = some o1 ∧ W.heap[b2]? = some o2
abbrev Blk2c (b1 : Nat) (o1 : Obj) (b2 : Nat) (o2 : Obj) (a : Addr) (v : Value) (W : World) : Prop := W.heap[b1]? = some o1 ∧ W.heap[b2]? = some o2 ∧ W.cell? a = some v
/-- A slice of one-cell elements. -/
def CellsAt {α : Type} (enc : α → Value) (w : World) (v : Value) (l : List α) : Prop := (v = .slice none 0 0 ∧ l = []) ∨ ∃ a cap, v = .slice (some a) l.length cap ∧ ∀ i (h : i < l.length), w.cell? (a.add i) = some (enc l[i])
theorem CellsAt.form {α : Type} {enc : α → Value} {w : World} {v : Value} {l : List α} (h : CellsAt enc w v l) : ∃ ad cap, v = .slice ad l.length cap := by
  rcases h with ⟨rfl, rfl⟩ | ⟨a, cap, rfl, _⟩
  · exact ⟨none, 0, rfl⟩
  · exact ⟨some a, cap, rfl⟩
theorem CellsAt.at_ {α : Type} {enc : α → Value} {w : World} {l : List α} {ad : Option Addr} {n c : Nat} (h : CellsAt enc w (.slice ad n c) l) (i : Nat) (hi : i < l.length) : ∃ a, ad = some a ∧ w.cell? (a.add i) = some (enc l[i]) := by
  rcases h with ⟨h, rfl⟩ | ⟨b, cap, h, hc⟩
  · simp at hi
  · cases h; exact ⟨b, rfl, hc i hi⟩
theorem CellsAt.keep {α : Type} {enc : α → Value} {w W : World} {v : Value} {l : List α} (h : CellsAt enc w v l) (hk : Keeps noB w W) : CellsAt enc W v l := by
  rcases h with h | ⟨a, cap, rfl, hc⟩
  · exact .inl h
  · exact .inr ⟨a, cap, rfl, fun i hi => cell_keeps hk (hc i hi) (fun q => q)⟩
def cutE (cut : Int) : Int := IntKind.u64.wrap cut % 65
theorem cutE_bounds (c : Int) : 0 ≤ cutE c ∧ cutE c ≤ 64 := by unfold cutE; omega
theorem cutE_eq (c : Int) : wrap64 ((IntKind.u64.wrap c).tmod 65) = cutE c := by
  have h := cutE_bounds c
  have u : 0 ≤ IntKind.u64.wrap c := by rw [IntKind.wrap_u64]; omega
  rw [Int.tmod_eq_emod_of_nonneg u]
  exact IntWalk.wrap64_in (IntKind.u64.wrap c % 65) (by unfold cutE at h; omega)
end Go.Proofs.Ytckopikeegegkaa
/- OPENS 2: slices that come in, opened. -/
namespace Go.Proofs.Ytckopikeegegkaa
open Go.ChangeShapes Go.WideShapes Go.ChangeAt Go.RowKit Go.Joins Go.Deep
set_option maxRecDepth 100000 in
theorem open_boolsAt {H : Type} {enc : TypeId × Value → H} {w : World} {base b0 : Nat} {held : Bool} {r : Reach} {v : Value} {d : DataW H} {p : List MemPlace}
    (hv : Value.okWide Try.prog w r b0 40 v) (h : DataW.Trod enc Try.prog w base (fun _ => true) held 40 v d p) : ∃ l : List Bool, BoolsAt w v l ∧ l.length ≤ maxLen := by
  obtain ⟨a0, len, cap, rfl⟩ := okWide_slice Try.underlying40 hv
  obtain ⟨fuel, hf⟩ := h
  rcases open_bools Try.underlying40 Try.underlying4 (by kernel_rfl) hf with ⟨hc, _⟩ | ⟨a, len', cap', B, hc, _, hl, hm, _, hcell⟩
  · simp [Value.cells] at hc
    obtain ⟨rfl, rfl, rfl⟩ := hc
    exact ⟨[], .inl ⟨rfl, rfl⟩, by simp⟩
  · simp [Value.cells] at hc
    obtain ⟨rfl, rfl, rfl⟩ := hc
    refine ⟨(List.range len).map B, .inr ⟨a, cap, by simp, fun i hi => ?_⟩, by simp; omega⟩
    rw [hcell i (by simp at hi; omega)]
    simp
set_option maxRecDepth 100000 in
theorem open_intsAt {t e : TypeId} {k : IntKind} {H : Type} {enc : TypeId × Value → H} {P : Program} {w : World} {base b0 : Nat} {held : Bool} {r : Reach} {v : Value} {d : DataW H} {p : List MemPlace} (ht : P.underlying t = some (.slice e)) (he : P.underlying e = some (.int k)) (hc : P.cellsOf e = 1)
    (hv : Value.okWide P w r b0 t v) (h : DataW.Trod enc P w base (fun _ => true) held t v d p) : ∃ l : List Int, CellsAt (Value.int k) w v l ∧ l.length ≤ maxLen ∧ ∀ n ∈ l, (Lit.int k n).wf = true := by
  obtain ⟨a0, len, cap, rfl⟩ := okWide_slice ht hv
  obtain ⟨fuel, hf⟩ := h
  rcases open_ints ht he hc hf with ⟨h1, _⟩ | ⟨a, len', cap', zs, h1, _, hl, hm, hz, _, hcell, hw⟩
  · simp [Value.cells] at h1
    obtain ⟨rfl, rfl, rfl⟩ := h1
    exact ⟨[], .inl ⟨rfl, rfl⟩, by simp, by simp⟩
  · simp [Value.cells] at h1
    obtain ⟨rfl, rfl, rfl⟩ := h1
    simp at hz
    have e1 : (zs.take len).length = len := by simp; omega
    refine ⟨zs.take len, .inr ⟨a, cap, by rw [e1], fun i hi => ?_⟩, by rw [e1]; omega, fun n hn => hw n (List.mem_of_mem_take hn)⟩
    rw [hcell i (by omega)]
    simp [List.getD_eq_getElem?_getD, show i < zs.length by omega]
set_option maxRecDepth 100000 in
theorem open_strsAt {t e : TypeId} {H : Type} {enc : TypeId × Value → H} {P : Program} {w : World} {base b0 : Nat} {held : Bool} {r : Reach} {v : Value} {d : DataW H} {p : List MemPlace} (ht : P.underlying t = some (.slice e)) (he : P.underlying e = some .string) (hc : P.cellsOf e = 1)
    (hv : Value.okWide P w r b0 t v) (h : DataW.Trod enc P w base (fun _ => true) held t v d p) : ∃ l : List Str, CellsAt (fun s => Value.string (bs s)) w v l ∧ l.length ≤ maxLen ∧ ∀ s ∈ l, s.length ≤ maxLen := by
  obtain ⟨a0, len, cap, rfl⟩ := okWide_slice ht hv
  obtain ⟨fuel, hf⟩ := h
  rcases open_strings ht he hc hf with ⟨h1, _⟩ | ⟨a, len', cap', zs, h1, _, hl, hm, hz, _, hcell, hw⟩
  · simp [Value.cells] at h1
    obtain ⟨rfl, rfl, rfl⟩ := h1
    exact ⟨[], .inl ⟨rfl, rfl⟩, by simp, by simp⟩
  · simp [Value.cells] at h1
    obtain ⟨rfl, rfl, rfl⟩ := h1
    simp at hz
    have e1 : ((zs.take len).map fun s => s.data.toList).length = len := by simp; omega
    refine ⟨(zs.take len).map fun s => s.data.toList, .inr ⟨a, cap, by rw [e1], fun i hi => ?_⟩, by rw [e1]; omega, fun s hs => ?_⟩
    · rw [hcell i (by omega)]
      simp only [List.getElem_map, List.getElem_take, bs_of]
      simp [List.getD_eq_getElem?_getD, show i < zs.length by omega]
    · obtain ⟨x, hx, rfl⟩ := List.mem_map.1 hs
      exact hw x (List.mem_of_mem_take hx)
end Go.Proofs.Ytckopikeegegkaa
/- LAW 3A: contracts of whole, of, reads, Step.do. -/
namespace Go.Proofs.Ytckopikeegegkaa
open Go.RowKit Go.MapKept Go.Shelf
set_option linter.unusedSimpArgs false
set_option linter.unusedVariables false
theorem info_byte : (Try.prog.info? 5).map (fun i => (i.zero, i.size, i.bytes)) = some (some (.int .u8 0), 1, 1) := by kernel_rfl
theorem zeros_cells (n : Nat) : (List.replicate n [Value.int .u8 0]).flatten = encB (List.replicate n 0) := by
  induction n with
  | zero => rfl
  | succ n ih => simp only [List.replicate_succ, List.flatten_cons, ih]; rfl
theorem bs_app (a b : Str) : bs a ++ bs b = bs (a ++ b) := bs_append a b
set_option maxHeartbeats 1000000 in
theorem whole_calls (s : Str) (c : Int) (w : World) : Calls Try.prog 26 #[.string (bs s), .int .i64 c] w fun e w' => e = .returned (.string (bs (whole s c))) ∧ Keeps noB w w' := by
  by_cases h3 : c.tmod 4 = 3
  · have b3 : (c.tmod 4 == 3) = true := by simpa using h3
    have hw : whole s c = s := by unfold whole; rw [if_pos h3]
    rw [hw]
    clear h3 hw
    go_enter Try.func26, Try.ntmps26
    go_wp2
    go_ret
    exact ⟨rfl, Keeps.refl _ _⟩
  · have b3 : (c.tmod 4 == 3) = false := by simpa using h3
    by_cases hl : 64 < s.length
    · have d : decide (64 < (s.length : Int)) = true := by simp; omega
      have hw : whole s c = sub s 0 64 := by unfold whole sub; rw [if_neg h3, if_pos hl]; rfl
      rw [hw, ← bs_extract]
      clear h3 hw
      go_enter Try.func26, Try.ntmps26
      go_wp2
      go_ret
      exact ⟨rfl, Keeps.refl _ _⟩
    · have d : decide (64 < (s.length : Int)) = false := by simp; omega
      obtain ⟨n, hn⟩ : ∃ n : Nat, (64 : Int) - (s.length : Int) = n := ⟨64 - s.length, by omega⟩
      have hw : whole s c = s ++ List.replicate n 0 := by unfold whole; rw [if_neg h3, if_neg hl]; congr 2; omega
      rw [hw, ← bs_app]
      have n64 : n ≤ 64 := by omega
      clear h3 hw
      go_enter Try.func26, Try.ntmps26
      go_wp2_with (first | ((with_reducible apply wpl_make 35 5 (n := n) (k := 1) (by_ := 1) (Z := [.int .u8 0]) (z := .int .u8 0) (hu := Try.underlying35) (hi := info_byte)); rfl; (first | rfl | (simp only [Act.eval]; exact congrArg _ hn)); (first | rfl | (simp only [Act.eval]; exact congrArg _ hn)); rfl; rfl; omega; omega; omega; rfl; rw [zeros_cells]) | ((with_reducible apply wpl_bytes_all 35 9 5 (t := 5) (fr := (0, 0)) (s := List.replicate n 0) (hs := Try.underlying35) (he := Try.underlying5) (hd := Try.underlying9)); rfl; go_must (rfl; simp (disch := (first | (simp only [World.size_alloc, World.size_setCell, World.size_drew, size_setRow, heap_drew, heap_drewN]; done) | ((try simp only [World.size_alloc, World.size_setCell, World.size_drew, size_setRow, heap_drew, heap_drewN]); omega))) only [heap_drew, heap_drewN, heap_alloc_ne, heap_alloc_eq, heap_setCell_ne, heap_setRow_ne]; (rw [List.length_replicate]); rfl)))
      go_ret
      exact ⟨rfl, (Keeps.refl _ _).alloc _⟩
def ofB (b : UInt8) : Str := List.replicate 64 b
def ofTo (b : UInt8) (k : Nat) : Str := List.replicate k b ++ List.replicate (64 - k) 0
theorem ofTo_length (b : UInt8) {k : Nat} (h : k ≤ 64) : (ofTo b k).length = 64 := by unfold ofTo; simp; omega
theorem ofTo_succ (b : UInt8) {k : Nat} (h : k < 64) : (ofTo b k).set k b = ofTo b (k + 1) := by
  unfold ofTo
  obtain ⟨m, hm⟩ : ∃ m, 64 - k = m + 1 := ⟨63 - k, by omega⟩
  rw [hm, show 64 - (k + 1) = m by omega, List.replicate_succ, List.set_append_right _ _ (by simp)]
  simp only [List.length_replicate, Nat.sub_self, List.set_cons_zero, List.replicate_succ']
  simp
theorem zeros64 (b : UInt8) : (List.replicate 64 [Value.int .u8 0]).flatten = encB (ofTo b 0) := (zeros_cells 64).trans (by unfold ofTo; rfl)
set_option maxRecDepth 20000 in
set_option maxHeartbeats 1000000 in
theorem of_calls (b : UInt8) (w : World) : Calls Try.prog 33 #[.int .u8 b.toNat] w fun e w' => e = .returned (.string (bs (ofB b))) ∧ Keeps noB w w' := by
  have hz := Lib.hid (zeros64 b)
  go_enter Try.func33, Try.ntmps33
  go_wp2_with ((with_reducible apply wpl_make 35 5 (n := 64) (k := 1) (by_ := 1) (Z := [.int .u8 0]) (z := .int .u8 0) (hu := Try.underlying35) (hi := info_byte)); rfl; rfl; rfl; rfl; rfl; omega; omega; omega; rfl; rw [hz.out])
  have f0 := heap_alloc_eq w (.cells (encB (ofTo b 0)).toArray 5) _ rfl
  have hk : Keeps noB w (w.alloc (.cells (encB (ofTo b 0)).toArray 5)) := (Keeps.refl _ _).alloc _
  generalize w.alloc (.cells (encB (ofTo b 0)).toArray 5) = W1 at *
  go_loopw [4] (fun i wr => ∃ k : Nat, k ≤ 64 ∧ i = .int .i64 k ∧ wr.heap[w.heap.size]? = some (.cells (encB (ofTo b k)).toArray 5) ∧ Keeps noB w wr) (fun i _ => 64 - (intOf i).toNat)
  case atStart => exact ⟨0, by omega, rfl, f0, hk⟩
  case round =>
    obtain ⟨k, hk1, rfl, f, hk⟩ := hrel
    by_cases c : k < 64
    · have d : decide ((k : Int) < 64) = true := by rw [decide_eq_true_eq]; omega
      have hlen := ofTo_length b hk1
      go_wp2_with ((with_reducible apply wpl_store1 5 (t := 5) (L := encB (ofTo b k)) (v := .int .u8 b.toNat)); rfl; rfl; rfl; exact Try.sizeOf5; exact f; rfl; rfl; (rw [encB_length, hlen]; exact c); rfl; rw [encB_set, ofTo_succ b c])
      refine ⟨⟨k + 1, by omega, congrArg _ (by omega), setBox f (encB (ofTo b (k + 1))), ?_⟩, by simp [intOf]; omega⟩
      exact (hk.setRow (fun h => absurd h (by omega)) _)
    · obtain rfl : k = 64 := by omega
      go_wp2_with ((with_reducible apply wpl_bytes_all 35 9 5 (t := 5) (fr := (0, 0)) (s := ofTo b 64) (hs := Try.underlying35) (he := Try.underlying5) (hd := Try.underlying9)); rfl; rfl; exact f; exact ofTo_length b (by omega); rfl)
      go_ret
      have e : ofTo b 64 = ofB b := by unfold ofTo ofB; rfl
      rw [e]
      exact ⟨rfl, hk⟩
set_option maxHeartbeats 1000000 in
/-- A sector that has what is wanted. -/
theorem reads_calls {p q m : Nat} {D : Dk} {n : Int} {s : Str} (w : World) (hA : DiskAt w p q m D) (he : D.read n = (s, 0)) : Calls Try.prog 40 #[.pointer (some ⟨p, 0, none⟩), .int .i64 n, .string (bs s)] w fun e w' =>
    e = .returned (.bool true) ∧ DiskAt w' p q m D ∧ Keeps noB w w' := by
  go_enter Try.func40, Try.ntmps40
  go_wp2_with (go_at_call 24; (refine (dRead hA he).mono ?_); rintro e Wx ⟨rfl, hx, kx⟩)
  go_ret
  exact ⟨rfl, hx, kx⟩
/-- A step, as a value. -/
def stpV (x : Stp) (kv : Value) : Value := .agg #[.int .u8 x.kind, .int .i64 x.n, .string (bs x.s), kv, .int .i64 x.cut]
set_option maxHeartbeats 1000000 in
theorem do_calls {p q m : Nat} {D D' : Dk} {x : Stp} {kv : Value} {f : Int} (w : World) (hA : DiskAt w p q m D) (hkv : BoolsAt w kv x.keep) (hap : 0 < x.keep.length → ∀ a n c, kv = .slice (some a) n c → ¬ dset p q m a.block) (hn : x.n ≤ 9223372036854775807) (he : doStep x D = (f, D')) :
    Calls Try.prog 25 #[stpV x kv, .pointer (some ⟨p, 0, none⟩)] w fun e w' => e = .returned (.int .i64 f) ∧ DiskAt w' p q m D' ∧ Keeps (dset p q m) w w' := by
  obtain ⟨kind, n, s, keep, cut⟩ := x
  simp only [stpV] at *
  have x1 := hA.lt_p; have x2 := hA.lt_q; have x3 := hA.lt_m
  obtain ⟨ak, ck, rfl⟩ := hkv.form
  unfold doStep at he
  dsimp only at he
  have hap' : ∀ (W : World) (o : Obj), Keeps noB w (W.alloc o) → BoolsAt (W.alloc o) (.slice ak keep.length ck) keep := fun W o k => hkv.carry k
  have fin : ∀ {W1 W2 : World} (o : Obj), W1 = w.alloc o → Keeps (dset p q m) W1 W2 → Keeps (dset p q m) w W2 := fun o e k => by
    subst e; exact Keeps.trans ((Keeps.refl _ _).alloc o) k
  by_cases h0 : kind = 0
  · subst h0
    rw [if_pos rfl] at he
    go_enter Try.func25, Try.ntmps25
    go_wp2_with fail
    have f2 := heap_alloc_eq w (.cells #[.int .u8 0, .int .i64 n, .string (bs s), .slice ak keep.length ck, .int .i64 cut] 42) _ rfl
    refine wp_region_text [(0, true), (1, true), (2, true), (3, true), (4, true), (5, true), (6, true), (7, false), (8, false), (9, true)] (Blk1 w.heap.size (.cells #[.int .u8 0, .int .i64 n, .string (bs s), .slice ak keep.length ck, .int .i64 cut] 42)) (by kernel_rfl) (by kernel_rfl) (fun d _ _ _ _ h => by cases d <;> exact h) f2 ?_
    iterate 7 (apply wpText_take; rfl; rfl; (intro W hS; have c1 := cell_blk hS 1 _ rfl; have c2 := cell_blk hS 2 _ rfl; have c4 := cell_blk hS 4 _ rfl; go_simp; exact rfl); try simp only [Act.put, List.setIfInBounds_toArray, List.set_cons_succ, List.set_cons_zero])
    apply wpText_goL; rfl; intro K hK
    go_wp2_with (go_at_call 26; (refine (whole_calls s cut _).mono ?_); rintro e W2 ⟨rfl, k2⟩)
    have f2' := carry k2 f2 (fun q => q)
    refine hK _ _ f2' ?_
    clear hK K
    apply wpText_goL; rfl; intro K hK
    go_wp2_with (go_at_call 32; (refine (dWrite (((hA.alloc _).drew).held k2) he).mono ?_); rintro e Wx ⟨rfl, hx, kx⟩)
    refine hK _ _ (carry kx f2' (by simp only [dset]; omega)) ?_
    clear hK K
    iterate 1 (apply wpText_take; rfl; rfl; (intro W hS; (try dsimp only at hS); (try (have hS1 := hS.1; have hS2 := hS.2)); go_simp; exact rfl); try simp only [Act.put, List.setIfInBounds_toArray, List.set_cons_succ, List.set_cons_zero])
    apply wpText_done
    go_wp2
    go_ret
    exact ⟨rfl, hx, Keeps.trans ((((Keeps.refl _ _).alloc _).drew).trans (k2.mono (fun _ _ q => q.elim))) kx⟩
  · rw [if_neg h0] at he
    have b0 : (kind == 0) = false := by simpa using h0
    by_cases h1 : kind = 1
    · subst h1
      rw [if_pos rfl] at he
      go_enter Try.func25, Try.ntmps25
      go_wp2_with (go_at_call 31; (refine (dFlush (hA.alloc _) he).mono ?_); rintro e Wx ⟨rfl, hx, kx⟩)
      go_ret
      exact ⟨rfl, hx, fin _ rfl kx⟩
    · rw [if_neg h1] at he
      have b1 : (kind == 1) = false := by simpa using h1
      by_cases h2 : kind = 2
      · subst h2
        rw [if_pos rfl] at he
        go_enter Try.func25, Try.ntmps25
        go_wp2_with (go_at_call 35; (refine (dFuse (hA.alloc _) hn he).mono ?_); rintro e Wx ⟨rfl, hx, kx⟩)
        go_ret
        exact ⟨rfl, hx, fin _ rfl kx⟩
      · rw [if_neg h2] at he
        have b2 : (kind == 2) = false := by simpa using h2
        go_enter Try.func25, Try.ntmps25
        go_wp2_with (go_at_call 29; (refine (dCrash (hA.alloc _) (hkv.carry ((Keeps.refl _ _).alloc _)) hap he).mono ?_); rintro e Wx ⟨rfl, hx, kx⟩)
        go_ret
        exact ⟨rfl, hx, fin _ rfl kx⟩
end Go.Proofs.Ytckopikeegegkaa
/- STEPS: the steps of the disk's laws, in memory; the contracts of large and works. -/
namespace Go.Proofs.Ytckopikeegegkaa
open Go.RowKit Go.MapKept Go.Shelf
set_option linter.unusedSimpArgs false
set_option linter.unusedVariables false
/-- A step lies at an address. -/
def StepAtV (W : World) (b : Addr) (x : Stp) (kv : Value) : Prop := BoolsAt W kv x.keep ∧ W.cell? b = some (.int .u8 x.kind) ∧ W.cell? ⟨b.block, b.off + 1, none⟩ = some (.int .i64 x.n) ∧ W.cell? ⟨b.block, b.off + 2, none⟩ = some (.string (bs x.s)) ∧
  W.cell? ⟨b.block, b.off + 3, none⟩ = some kv ∧ W.cell? ⟨b.block, b.off + 4, none⟩ = some (.int .i64 x.cut)
def StepAt (W : World) (b : Addr) (x : Stp) : Prop := ∃ kv, StepAtV W b x kv
theorem StepAtV.keep {w W : World} {b : Addr} {x : Stp} {kv : Value} (h : StepAtV w b x kv) (hk : Keeps noB w W) : StepAtV W b x kv := by
  obtain ⟨h0, h1, h2, h3, h4, h5⟩ := h
  exact ⟨h0.carry hk, cell_keeps hk h1 (fun q => q), cell_keeps hk h2 (fun q => q), cell_keeps hk h3 (fun q => q), cell_keeps hk h4 (fun q => q), cell_keeps hk h5 (fun q => q)⟩
theorem StepAt.keep {w W : World} {b : Addr} {x : Stp} (h : StepAt w b x) (hk : Keeps noB w W) : StepAt W b x := by
  obtain ⟨kv, h⟩ := h
  exact ⟨kv, h.keep hk⟩
def StepsAt (W : World) (v : Value) (l : List Stp) : Prop := (v = .slice none 0 0 ∧ l = []) ∨ ∃ a cap, v = .slice (some a) l.length cap ∧ ∀ i (h : i < l.length), StepAt W (a.add (i * 5)) l[i]
theorem StepsAt.form {w : World} {v : Value} {l : List Stp} (h : StepsAt w v l) : ∃ ad cap, v = .slice ad l.length cap := by
  rcases h with ⟨rfl, rfl⟩ | ⟨a, cap, rfl, _⟩
  · exact ⟨none, 0, rfl⟩
  · exact ⟨some a, cap, rfl⟩
theorem StepsAt.at_ {w : World} {l : List Stp} {ad : Option Addr} {n c : Nat} (h : StepsAt w (.slice ad n c) l) (i : Nat) (hi : i < l.length) : ∃ a, ad = some a ∧ StepAt w (a.add (i * 5)) l[i] := by
  rcases h with ⟨h, rfl⟩ | ⟨b, cap, h, hc⟩
  · simp at hi
  · cases h; exact ⟨b, rfl, hc i hi⟩
theorem StepsAt.keep {w W : World} {v : Value} {l : List Stp} (h : StepsAt w v l) (hk : Keeps noB w W) : StepsAt W v l := by
  rcases h with h | ⟨a, cap, rfl, hc⟩
  · exact .inl h
  · exact .inr ⟨a, cap, rfl, fun i hi => (hc i hi).keep hk⟩
theorem add1_add (b : Addr) (j : Nat) : b.add (j + 1) = ⟨b.block, b.off + (j + 1), none⟩ := by unfold Addr.add; simp
theorem run_loadCells_at {P : Program} {W : World} {b : Addr} {x : Stp} {kv : Value} (h0 : W.cell? b = some (.int .u8 x.kind)) (h1 : W.cell? ⟨b.block, b.off + 1, none⟩ = some (.int .i64 x.n)) (h2 : W.cell? ⟨b.block, b.off + 2, none⟩ = some (.string (bs x.s)))
    (h3 : W.cell? ⟨b.block, b.off + 3, none⟩ = some kv) (h4 : W.cell? ⟨b.block, b.off + 4, none⟩ = some (.int .i64 x.cut)) : (loadCells b 5).run P W = .ok #[.int .u8 x.kind, .int .i64 x.n, .string (bs x.s), kv, .int .i64 x.cut] W := by
  refine run_loadCells_list (w := W) b [.int .u8 x.kind, .int .i64 x.n, .string (bs x.s), kv, .int .i64 x.cut] (fun j v hv => ?_)
  rcases j with _ | _ | _ | _ | _ | j
  · simp at hv; subst hv; rw [show b.add 0 = b from by simp [Addr.add]]; exact h0
  · simp at hv; subst hv; rw [add1_add]; exact h1
  · simp at hv; subst hv; rw [add1_add]; exact h2
  · simp at hv; subst hv; rw [add1_add]; exact h3
  · simp at hv; subst hv; rw [add1_add]; exact h4
  · simp at hv
/-- A step is loaded. -/
theorem wpl_loadStep {P : Program} {o : Oper} {ops : Array Oper} {rest : List Oper} {a : Act} {w : World} {Q : Exit → Act → World → Prop} (ty : TypeId) (x : Operand) (ho : o.op = .load ty x) (b : Addr) (hx : a.eval x = .pointer (some b))
    (hg : ∀ w, (isAgg ty).run P w = .ok true w) (hs : ∀ w, (sizeOf ty).run P w = .ok 5 w) (s : Stp) (kv : Value) (h0 : w.cell? b = some (.int .u8 s.kind)) (h1 : w.cell? ⟨b.block, b.off + 1, none⟩ = some (.int .i64 s.n)) (h2 : w.cell? ⟨b.block, b.off + 2, none⟩ = some (.string (bs s.s)))
    (h3 : w.cell? ⟨b.block, b.off + 3, none⟩ = some kv) (h4 : w.cell? ⟨b.block, b.off + 4, none⟩ = some (.int .i64 s.cut)) (hgd : o.guard = none)
    (h : wpList P ops Q rest (a.put o.dst (stpV s kv)) w) : wpList P ops Q (o :: rest) a w := by
  refine wpl_run (s := Instr.loadAt ty (a.eval x)) (by simp only [execOp, ho]) ?_ hgd h
  rw [hx]
  have := run_loadCells_at (P := P) h0 h1 h2 h3 h4
  simp [Instr.loadAt, Instr.sureAddr, loadVar, hg, hs, this, Result.andThen, stpV]
set_option maxHeartbeats 2000000 in
theorem large_calls (sv : Value) (l : List Stp) (w : World) (hs : StepsAt w sv l) (hl : l.length ≤ maxLen) : Calls Try.prog 23 #[sv] w fun e w' => (e = .returned (.bool false) ∨ e = .returned (.bool true)) ∧ Keeps noB w w' := by
  obtain ⟨ad, cap, rfl⟩ := hs.form
  have hm : (l.length : Int) ≤ 9223372036854775807 := by unfold maxLen at hl; omega
  go_enter Try.func23, Try.ntmps23
  go_wp2_with fail
  go_loopw [3, 4] (fun n i wr => ∃ (k : Nat) (x : Int), k ≤ l.length ∧ n = .int .i64 x ∧ i = .int .i64 k ∧ Keeps noB w wr) (fun _ i _ => l.length - (intOf i).toNat)
  case atStart => exact ⟨0, 0, by omega, rfl, rfl, Keeps.refl _ _⟩
  case round =>
    obtain ⟨k, x, hk1, rfl, rfl, hk⟩ := hrel
    by_cases c : k < l.length
    · have d1 : decide ((k : Int) < (l.length : Int)) = true := by rw [decide_eq_true_eq]; omega
      by_cases d2 : x < 20000
      · have d2 : decide (x < 20000) = true := by rw [decide_eq_true_eq]; omega
        obtain ⟨a, rfl, hst⟩ := hs.at_ k c
        obtain ⟨kv, hb, h0, h1, h2, h3, h4⟩ := hst.keep hk
        obtain ⟨akk, ckk, rfl⟩ := hb.form
        generalize l[k] = st at *
        go_wp2_with fail
        refine wp_region_text [(0, true), (1, true), (2, true), (3, true), (4, true), (5, true), (6, true), (7, true), (8, true), (9, true), (10, true), (11, true), (12, true), (13, true), (14, true), (15, true), (16, true)] (fun W' => W'.cell? ⟨(a.add (k * 5)).block, (a.add (k * 5)).off + 2, none⟩ = some (.string (bs st.s)) ∧ W'.cell? ⟨(a.add (k * 5)).block, (a.add (k * 5)).off + 3, none⟩ = some (.slice akk st.keep.length ckk)) (by kernel_rfl) (by kernel_rfl) (fun d _ _ _ _ h => by cases d <;> exact h) ⟨h2, h3⟩ ?_
        iterate 17 (apply wpText_take; rfl; rfl; (intro W hS; (try dsimp only at hS); (try (have hS1 := hS.1; have hS2 := hS.2)); go_simp; exact rfl); try simp only [Act.put, List.setIfInBounds_toArray, List.set_cons_succ, List.set_cons_zero])
        apply wpText_done
        go_wp2
        exact ⟨⟨k + 1, _, by omega, rfl, by simp, hk.drew⟩, by simp [intOf]; omega⟩
      · have d2 : decide (x < 20000) = false := by rw [decide_eq_false_iff_not]; omega
        go_wp2
        all_goals go_ret
        all_goals exact ⟨by first | (simp; done) | (simp; omega), hk⟩
    · have d1 : decide ((k : Int) < (l.length : Int)) = false := by rw [decide_eq_false_iff_not]; omega
      go_wp2
      all_goals go_ret
      all_goals exact ⟨by first | (simp; done) | (simp; omega), hk⟩
end Go.Proofs.Ytckopikeegegkaa
/- WORKS: the examples of the disk's laws. -/
namespace Go.Proofs.Ytckopikeegegkaa
open Go.RowKit Go.MapKept Go.Shelf
set_option linter.unusedSimpArgs false
set_option linter.unusedVariables false
theorem of_at {n : Int} (b : UInt8) (w : World) (h : (b.toNat : Int) = n) : Calls Try.prog 33 #[.int .u8 n] w fun e w' => e = .returned (.string (bs (ofB b))) ∧ Keeps noB w w' := by
  subst h; exact of_calls b w
theorem boolsAt_new (W : World) (l : List Bool) (t : TypeId) : BoolsAt (W.alloc (.cells (l.map Value.bool).toArray t)) (.slice (some ⟨W.heap.size, 0, none⟩) l.length l.length) l := by
  refine .inr ⟨_, _, rfl, fun i hi => ?_⟩
  have f := heap_alloc_eq W (.cells (l.map Value.bool).toArray t) _ rfl
  have : (⟨W.heap.size, 0, none⟩ : Addr).add i = ⟨W.heap.size, i, none⟩ := by rw [addr_add]; simp
  rw [this]
  exact cell_blk f i _ (by simp [hi])
theorem boolsAt_new1 (W : World) (b : Bool) (t : TypeId) : BoolsAt (W.alloc (.cells #[.bool b] t)) (.slice (some ⟨W.heap.size, 0, none⟩) 1 1) [b] := boolsAt_new W [b] t
theorem boolsAt_new2 (W : World) (b c : Bool) (t : TypeId) : BoolsAt (W.alloc (.cells #[.bool b, .bool c] t)) (.slice (some ⟨W.heap.size, 0, none⟩) 2 2) [b, c] := boolsAt_new W [b, c] t
theorem boolsAt_new2d (W : World) (b c : Bool) (t : TypeId) : BoolsAt (W.alloc (.cells #[.bool b, .bool c] t)).drew (.slice (some ⟨W.heap.size, 0, none⟩) 2 2) [b, c] := boolsAt_new2 W b c t
theorem boolsAt_nil (W : World) : BoolsAt W (.slice none 0 0) [] := .inl ⟨rfl, rfl⟩
def wkD1 : Dk := ((Dk.zero 2).write 1 (ofB 7)).2
def wkD2 : Dk := (wkD1.crash [] (-1) 0).2
def wkD3 : Dk := (wkD2.fuse 1).2
def wkD4 : Dk := (wkD3.write 0 (ofB 1)).2
def wkD5 : Dk := (wkD4.crash [true] (-1) 0).2
def wkD6 : Dk := (wkD5.write 0 (ofB 3)).2
def wkD7 : Dk := (wkD6.write 1 (ofB 4)).2
def wkD8 : Dk := (wkD7.crash [true, false] 1 3).2
theorem works_all : ∃ D0 D1 D2 D3 D4 D5 D6 D7 D8, Dk.make 2 = some D0 ∧ D0.read 1 = (ofB 0, 0) ∧ D0.write 1 (ofB 7) = (0, D1) ∧ D1.aside.length = 1 ∧ D1.read 1 = (ofB 7, 0) ∧ D1.crash [] (-1) 0 = (0, D2) ∧ D2.read 1 = (ofB 0, 0) ∧ D2.fuse 1 = (0, D3) ∧ D3.dead = false ∧
    D3.write 0 (ofB 1) = (0, D4) ∧ D4.dead = true ∧ D4.write 0 (ofB 2) = (42, D4) ∧ D4.flush = (42, D4) ∧ D4.crash [true] (-1) 0 = (0, D5) ∧ D5.dead = false ∧ D5.read 0 = (ofB 1, 0) ∧ D5.write 0 (ofB 3) = (0, D6) ∧ D6.write 1 (ofB 4) = (0, D7) ∧
    D7.crash [true, false] 1 3 = (0, D8) ∧ D8.read 0 = (ofB 3, 0) ∧ D8.read 1 = (sub (ofB 4) 0 3 ++ sub (ofB 0) 3 64, 0) :=
  ⟨Dk.zero 2, wkD1, wkD2, wkD3, wkD4, wkD5, wkD6, wkD7, wkD8, by kernel_rfl, by kernel_rfl, by kernel_rfl, by kernel_rfl, by kernel_rfl, by kernel_rfl, by kernel_rfl, by kernel_rfl, by kernel_rfl, by kernel_rfl, by kernel_rfl, by kernel_rfl, by kernel_rfl, by kernel_rfl, by kernel_rfl, by kernel_rfl, by kernel_rfl, by kernel_rfl, by kernel_rfl, by kernel_rfl, by kernel_rfl⟩
set_option maxRecDepth 20000 in
set_option maxHeartbeats 20000000 in
theorem works_calls (w : World) : Calls Try.prog 22 #[] w fun e w' => e = .returned (.bool true) ∧ Keeps noB w w' := by
  obtain ⟨D0, D1, D2, D3, D4, D5, D6, D7, D8, e0, e1, e2, hal, e3, e4, e5, e6, e7, e8, e9, e10, e11, e12, e13, e14, e15, e16, e17, e18, e19⟩ := works_all
  have l4 : (ofB 4).length = 64 := by unfold ofB; rw [List.length_replicate]
  have l0 : (ofB 0).length = 64 := by unfold ofB; rw [List.length_replicate]
  obtain ⟨B, hB⟩ : ∃ B, B = w.heap.size := ⟨_, rfl⟩
  go_enter Try.func22, Try.ntmps22
  go_wp2_with (first | (go_at_call 16; (refine (dNew e0).mono ?_); rintro e W2 ⟨p, q, j, rfl, hA, hk, lp, lq, lm⟩; have hz : B ≤ W2.heap.size := (by have := hk.size; omega); replace lp : B ≤ p := (by omega); replace lq : B ≤ q := (by omega); replace lm : B ≤ j := (by omega)) | (go_at_call 33; (first | refine (of_at 0 _ (by decide)).mono ?_ | refine (of_at 7 _ (by decide)).mono ?_ | refine (of_at 1 _ (by decide)).mono ?_ | refine (of_at 2 _ (by decide)).mono ?_ | refine (of_at 3 _ (by decide)).mono ?_ | refine (of_at 4 _ (by decide)).mono ?_ | refine (of_at 8 _ (by decide)).mono ?_ | refine (of_at 9 _ (by decide)).mono ?_); rintro e Wx ⟨rfl, kx⟩; replace hA := ((by first | exact hA | exact hA.alloc _ | exact (hA.alloc _).alloc _ | exact hA.drew | exact hA.drew.alloc _ | exact (hA.alloc _).drew | exact ((hA.alloc _).alloc _).drew) : DiskAt _ _ _ _ _).held kx; have zx := kx.size; (try simp only [World.size_alloc, World.size_drew] at zx); skip; replace hk := Keeps.trans_new (by first | exact hk | exact hk.alloc _ | exact (hk.alloc _).alloc _ | exact hk.drew | exact hk.drew.alloc _ | exact (hk.alloc _).drew | exact ((hk.alloc _).alloc _).drew) kx (fun k hk q => by first | exact q.elim | (simp only [dset] at q; omega) | omega | (dsimp only at q; omega)); replace hz := Nat.le_trans hz (Nat.le_trans (by omega) zx); clear kx zx) | (go_at_call 40; refine (reads_calls _ (by first | exact hA | exact hA.alloc _ | exact (hA.alloc _).alloc _ | exact hA.drew | exact hA.drew.alloc _ | exact (hA.alloc _).drew | exact ((hA.alloc _).alloc _).drew) (by assumption)).mono ?_; rintro e Wx ⟨rfl, hx, kx⟩; have zx := kx.size; (try simp only [World.size_alloc, World.size_drew] at zx); skip; replace hk := Keeps.trans_new (by first | exact hk | exact hk.alloc _ | exact (hk.alloc _).alloc _ | exact hk.drew | exact hk.drew.alloc _ | exact (hk.alloc _).drew | exact ((hk.alloc _).alloc _).drew) kx (fun k hk q => by first | exact q.elim | (simp only [dset] at q; omega) | omega | (dsimp only at q; omega)); replace hz := Nat.le_trans hz (Nat.le_trans (by omega) zx); replace hA := hx; clear hx kx zx) | (go_at_call 32; refine (dWrite (by first | exact hA | exact hA.alloc _ | exact (hA.alloc _).alloc _ | exact hA.drew | exact hA.drew.alloc _ | exact (hA.alloc _).drew | exact ((hA.alloc _).alloc _).drew) (by assumption)).mono ?_; rintro e Wx ⟨rfl, hx, kx⟩; have zx := kx.size; (try simp only [World.size_alloc, World.size_drew] at zx); skip; replace hk := Keeps.trans_new (by first | exact hk | exact hk.alloc _ | exact (hk.alloc _).alloc _ | exact hk.drew | exact hk.drew.alloc _ | exact (hk.alloc _).drew | exact ((hk.alloc _).alloc _).drew) kx (fun k hk q => by first | exact q.elim | (simp only [dset] at q; omega) | omega | (dsimp only at q; omega)); replace hz := Nat.le_trans hz (Nat.le_trans (by omega) zx); replace hA := hx; clear hx kx zx) | (go_at_call 27; (refine (dAside (by first | exact hA | exact hA.alloc _ | exact (hA.alloc _).alloc _ | exact hA.drew | exact hA.drew.alloc _ | exact (hA.alloc _).drew | exact ((hA.alloc _).alloc _).drew)).mono ?_); rintro e Wx ⟨vas, rfl, hrow, hnil, hx, kx⟩; obtain ⟨ada, capa, rfl, hkeys⟩ := keys_row hrow; have zx := kx.size; (try simp only [World.size_alloc, World.size_drew] at zx); skip; replace hk := Keeps.trans_new (by first | exact hk | exact hk.alloc _ | exact (hk.alloc _).alloc _ | exact hk.drew | exact hk.drew.alloc _ | exact (hk.alloc _).drew | exact ((hk.alloc _).alloc _).drew) kx (fun k hk q => by first | exact q.elim | (simp only [dset] at q; omega) | omega | (dsimp only at q; omega)); replace hz := Nat.le_trans hz (Nat.le_trans (by omega) zx); replace hA := hx; clear hx kx zx hrow hnil) | (go_at_call 29; (with_reducible refine (dCrash (by first | exact hA | exact hA.alloc _ | exact (hA.alloc _).alloc _ | exact hA.drew | exact hA.drew.alloc _ | exact (hA.alloc _).drew | exact ((hA.alloc _).alloc _).drew) (boolsAt_nil _) (fun h => absurd h (by decide)) (by assumption)).mono ?_); rintro e Wx ⟨rfl, hx, kx⟩; skip; have zx := kx.size; (try simp only [World.size_alloc, World.size_drew] at zx); skip; replace hk := Keeps.trans_new (by first | exact hk | exact hk.alloc _ | exact (hk.alloc _).alloc _ | exact hk.drew | exact hk.drew.alloc _ | exact (hk.alloc _).drew | exact ((hk.alloc _).alloc _).drew) kx (fun k hk q => by first | exact q.elim | (simp only [dset] at q; omega) | omega | (dsimp only at q; omega)); replace hz := Nat.le_trans hz (Nat.le_trans (by omega) zx); replace hA := hx; clear hx kx zx) | (go_at_call 29; (with_reducible refine (dCrash (by first | exact hA | exact hA.alloc _ | exact (hA.alloc _).alloc _ | exact hA.drew | exact hA.drew.alloc _ | exact (hA.alloc _).drew | exact ((hA.alloc _).alloc _).drew) (boolsAt_new1 _ true _) (fun _ a n c e => by cases e; have y1 := hA.lt_p; have y2 := hA.lt_q; have y3 := hA.lt_m; simp only [dset]; first | omega | (simp only [World.size_drew]; omega)) (by assumption)).mono ?_); rintro e Wx ⟨rfl, hx, kx⟩; skip; have zx := kx.size; (try simp only [World.size_alloc, World.size_drew] at zx); skip; replace hk := Keeps.trans_new (by first | exact hk | exact hk.alloc _ | exact (hk.alloc _).alloc _ | exact hk.drew | exact hk.drew.alloc _ | exact (hk.alloc _).drew | exact ((hk.alloc _).alloc _).drew) kx (fun k hk q => by first | exact q.elim | (simp only [dset] at q; omega) | omega | (dsimp only at q; omega)); replace hz := Nat.le_trans hz (Nat.le_trans (by omega) zx); replace hA := hx; clear hx kx zx) | (go_at_call 35; refine (dFuse (by first | exact hA | exact hA.alloc _ | exact (hA.alloc _).alloc _ | exact hA.drew | exact hA.drew.alloc _ | exact (hA.alloc _).drew | exact ((hA.alloc _).alloc _).drew) (by decide) (by assumption)).mono ?_; rintro e Wx ⟨rfl, hx, kx⟩; have zx := kx.size; (try simp only [World.size_alloc, World.size_drew] at zx); skip; replace hk := Keeps.trans_new (by first | exact hk | exact hk.alloc _ | exact (hk.alloc _).alloc _ | exact hk.drew | exact hk.drew.alloc _ | exact (hk.alloc _).drew | exact ((hk.alloc _).alloc _).drew) kx (fun k hk q => by first | exact q.elim | (simp only [dset] at q; omega) | omega | (dsimp only at q; omega)); replace hz := Nat.le_trans hz (Nat.le_trans (by omega) zx); replace hA := hx; clear hx kx zx) | (go_at_call 31; refine (dFlush (by first | exact hA | exact hA.alloc _ | exact (hA.alloc _).alloc _ | exact hA.drew | exact hA.drew.alloc _ | exact (hA.alloc _).drew | exact ((hA.alloc _).alloc _).drew) (by assumption)).mono ?_; rintro e Wx ⟨rfl, hx, kx⟩; have zx := kx.size; (try simp only [World.size_alloc, World.size_drew] at zx); skip; replace hk := Keeps.trans_new (by first | exact hk | exact hk.alloc _ | exact (hk.alloc _).alloc _ | exact hk.drew | exact hk.drew.alloc _ | exact (hk.alloc _).drew | exact ((hk.alloc _).alloc _).drew) kx (fun k hk q => by first | exact q.elim | (simp only [dset] at q; omega) | omega | (dsimp only at q; omega)); replace hz := Nat.le_trans hz (Nat.le_trans (by omega) zx); replace hA := hx; clear hx kx zx) | (go_at_call 30; (refine (dDead (by first | exact hA | exact hA.alloc _ | exact (hA.alloc _).alloc _ | exact hA.drew | exact hA.drew.alloc _ | exact (hA.alloc _).drew | exact ((hA.alloc _).alloc _).drew) (by assumption)).mono ?_); rintro e Wx ⟨rfl, rfl⟩))
  refine wp_region_text [(0, true), (1, false), (2, false), (3, true), (4, true), (5, true), (6, false), (7, false), (8, true), (9, true), (10, true), (11, false), (12, true), (13, false), (14, true), (15, true), (16, false), (17, true), (18, true)] (fun _ => True) (by kernel_rfl) (by kernel_rfl) (fun d _ _ _ _ h => by cases d <;> exact h) trivial ?_
  (repeat (first | (apply wpText_take; rfl; rfl; (intro W hS; (try dsimp only at hS); (try (have hS1 := hS.1; have hS2 := hS.2)); go_simp; exact rfl); try simp only [Act.put, List.setIfInBounds_toArray, List.set_cons_succ, List.set_cons_zero]) | (apply wpText_takeG; rfl; rfl; (intro W hS; (try dsimp only at hS); (try have hS1 := hS.2.2); go_simp; exact rfl); try simp only [Act.put, List.setIfInBounds_toArray, List.set_cons_succ, List.set_cons_zero]) | (apply wpText_skip; rfl; rfl; try simp only [Act.put, List.setIfInBounds_toArray, List.set_cons_succ, List.set_cons_zero]) | (apply wpText_goL; rfl; intro K hK; go_wp2_with (first | (go_at_call 33; (first | refine (of_at 0 _ (by decide)).mono ?_ | refine (of_at 7 _ (by decide)).mono ?_ | refine (of_at 1 _ (by decide)).mono ?_ | refine (of_at 2 _ (by decide)).mono ?_ | refine (of_at 3 _ (by decide)).mono ?_ | refine (of_at 4 _ (by decide)).mono ?_ | refine (of_at 8 _ (by decide)).mono ?_ | refine (of_at 9 _ (by decide)).mono ?_); rintro e Wx ⟨rfl, kx⟩; replace hA := ((by first | exact hA | exact hA.alloc _ | exact (hA.alloc _).alloc _ | exact hA.drew | exact hA.drew.alloc _ | exact (hA.alloc _).drew | exact ((hA.alloc _).alloc _).drew) : DiskAt _ _ _ _ _).held kx; have zx := kx.size; (try simp only [World.size_alloc, World.size_drew] at zx); skip; replace hk := Keeps.trans_new (by first | exact hk | exact hk.alloc _ | exact (hk.alloc _).alloc _ | exact hk.drew | exact hk.drew.alloc _ | exact (hk.alloc _).drew | exact ((hk.alloc _).alloc _).drew) kx (fun k hk q => by first | exact q.elim | (simp only [dset] at q; omega) | omega | (dsimp only at q; omega)); replace hz := Nat.le_trans hz (Nat.le_trans (by omega) zx); clear kx zx) | (simp only [bs_extract, bs_app, l4, l0]; fail) | (go_at_call 40; refine (reads_calls _ (by first | exact hA | exact hA.alloc _ | exact (hA.alloc _).alloc _ | exact hA.drew | exact hA.drew.alloc _ | exact (hA.alloc _).drew | exact ((hA.alloc _).alloc _).drew) (by assumption)).mono ?_; rintro e Wx ⟨rfl, hx, kx⟩; have zx := kx.size; (try simp only [World.size_alloc, World.size_drew] at zx); skip; replace hk := Keeps.trans_new (by first | exact hk | exact hk.alloc _ | exact (hk.alloc _).alloc _ | exact hk.drew | exact hk.drew.alloc _ | exact (hk.alloc _).drew | exact ((hk.alloc _).alloc _).drew) kx (fun k hk q => by first | exact q.elim | (simp only [dset] at q; omega) | omega | (dsimp only at q; omega)); replace hz := Nat.le_trans hz (Nat.le_trans (by omega) zx); replace hA := hx; clear hx kx zx) | (go_at_call 29; (with_reducible refine (dCrash (by first | exact hA | exact hA.alloc _ | exact (hA.alloc _).alloc _ | exact hA.drew | exact hA.drew.alloc _ | exact (hA.alloc _).drew | exact ((hA.alloc _).alloc _).drew) (boolsAt_new2d _ true false _) (fun _ a n c e => by cases e; have y1 := hA.lt_p; have y2 := hA.lt_q; have y3 := hA.lt_m; simp only [dset]; first | omega | (simp only [World.size_drew]; omega)) (by assumption)).mono ?_); rintro e Wx ⟨rfl, hx, kx⟩; skip; have zx := kx.size; (try simp only [World.size_alloc, World.size_drew] at zx); skip; replace hk := Keeps.trans_new (by first | exact hk | exact hk.alloc _ | exact (hk.alloc _).alloc _ | exact hk.drew | exact hk.drew.alloc _ | exact (hk.alloc _).drew | exact ((hk.alloc _).alloc _).drew) kx (fun k hk q => by first | exact q.elim | (simp only [dset] at q; omega) | omega | (dsimp only at q; omega)); replace hz := Nat.le_trans hz (Nat.le_trans (by omega) zx); replace hA := hx; clear hx kx zx)); (refine hK _ _ trivial ?_); clear hK K; try simp only [Act.put, List.setIfInBounds_toArray, List.set_cons_succ, List.set_cons_zero])))
  apply wpText_done
  go_wp2
  go_ret
  exact ⟨rfl, (by first | exact hk | exact hk.alloc _ | exact (hk.alloc _).alloc _ | exact hk.drew | exact hk.drew.alloc _ | exact (hk.alloc _).drew | exact ((hk.alloc _).alloc _).drew)⟩
end Go.Proofs.Ytckopikeegegkaa
/- DISKREADS: the walk of the law. -/
namespace Go.Proofs.Ytckopikeegegkaa
open Go.RowKit Go.MapKept Go.Shelf
set_option linter.unusedSimpArgs false
set_option linter.unusedVariables false
theorem make_some {n : Int} (h : 1 ≤ n) (h2 : n ≤ 4096) : Dk.make n = some (Dk.zero n.toNat) := by unfold Dk.make; rw [if_neg (by omega)]
theorem make_none {n : Int} (h : n < 1) : Dk.make n = none := by unfold Dk.make; rw [if_pos (by omega)]
structure StpOk (x : Stp) : Prop where
  k0 : 0 ≤ x.kind
  k1 : x.kind ≤ 255
  n1 : x.n ≤ 9223372036854775807
theorem read_err (d : Dk) (n : Int) : (d.read n).2 = if d.has n then 0 else 5 := by unfold Dk.read; split <;> simp_all
set_option maxRecDepth 20000 in
set_option maxHeartbeats 20000000 in
theorem diskReads_walk (sectors n : Int) (sv : Value) (l : List Stp) (w : World) (hs : StepsAt w sv l) (hl : l.length ≤ maxLen) (hok : ∀ x ∈ l, StpOk x) :
    Calls Try.prog 5 #[.int .i64 sectors, sv, .int .i64 n] w fun e w' => e = .returned (.bool true) ∧ Keeps noB w w' := by
  have hw := fun W => works_calls W
  have hlg := fun W h => large_calls sv l W h hl
  obtain ⟨ad, cap, rfl⟩ := hs.form
  have hm : (l.length : Int) ≤ 9223372036854775807 := by unfold maxLen at hl; omega
  by_cases hc : 60 < sectors
  · have d0 : decide (60 < sectors) = true := by simpa using hc
    go_enter Try.func5, Try.ntmps5
    go_wp2_with (first | (go_at_call 23; refine (hlg _ (hs.keep q1)).mono ?_; rintro e W2 ⟨rfl | rfl, q2⟩) | (go_at_call 22; refine (hw _).mono ?_; first | (rintro e W3 ⟨rfl, q3⟩; have q2' := q2) | rintro e W1 ⟨rfl, q1⟩))
    all_goals go_ret
    all_goals exact ⟨rfl, by first | exact (q1.trans q2).trans q3 | exact q1.trans q3⟩
  · have d0 : decide (60 < sectors) = false := by simpa using hc
    by_cases hc1 : sectors < 1
    · have hn := fun W => new_bad sectors W (make_none hc1)
      go_enter Try.func5, Try.ntmps5
      go_wp2_with (first | (first | (go_at_call 23; refine (hlg _ (hs.keep q1)).mono ?_; rintro e W2 ⟨rfl | rfl, q2⟩) | (go_at_call 22; refine (hw _).mono ?_; first | (rintro e W3 ⟨rfl, q3⟩; have q2' := q2) | rintro e W1 ⟨rfl, q1⟩)) | (go_at_call 16; refine (hn _).mono ?_; rintro e W3 ⟨rfl, rfl⟩))
      all_goals go_ret
      all_goals exact ⟨rfl, by first | exact (q1.trans q2).trans q3 | exact q1.trans q2⟩
    · have hmk := make_some (n := sectors) (by omega) (by omega)
      generalize Dk.zero sectors.toNat = D0 at *
      go_enter Try.func5, Try.ntmps5
      go_wp2_with (first | (first | (go_at_call 23; refine (hlg _ (hs.keep q1)).mono ?_; rintro e W2 ⟨rfl | rfl, q2⟩) | (go_at_call 22; refine (hw _).mono ?_; first | (rintro e W3 ⟨rfl, q3⟩; have q2' := q2) | rintro e W1 ⟨rfl, q1⟩)) | (go_at_call 16; (refine (dNew hmk).mono ?_); rintro e W3 ⟨p, q, j, rfl, hA, q3, lp, lq, lm⟩))
      · have z1 := q1.size; have z2 := q2.size
        replace lp : w.heap.size ≤ p := by omega
        replace lq : w.heap.size ≤ q := by omega
        replace lm : w.heap.size ≤ j := by omega
        have hk := (q1.trans q2).trans q3
        clear q1 q2 q3 z1 z2 hw hlg
        go_loopw [9] (fun i wr => ∃ (k : Nat) (D : Dk), k ≤ l.length ∧ i = .int .i64 k ∧ DiskAt wr p q j D ∧ Keeps noB w wr) (fun i _ => l.length - (intOf i).toNat)
        case atStart => exact ⟨0, D0, by omega, rfl, hA, hk⟩
        case round =>
          obtain ⟨k, D, hk1, rfl, hA, hk⟩ := hrel
          by_cases c : k < l.length
          · have d1 : decide ((k : Int) < (l.length : Int)) = true := by rw [decide_eq_true_eq]; omega
            obtain ⟨a, rfl, hst⟩ := hs.at_ k c
            have ho := hok _ (List.getElem_mem c)
            generalize l[k] = st at *
            obtain ⟨kv, hsv⟩ := hst
            obtain ⟨hb, h0, h1, h2, h3, h4⟩ := hsv.keep hk
            by_cases ck : 2 < st.kind
            · have d2 : decide (2 < st.kind) = true := by simpa using ck
              go_wp2_with fail
              exact ⟨⟨k + 1, D, by omega, by simp, hA, hk⟩, by simp [intOf]; omega⟩
            · have d2 : decide (2 < st.kind) = false := by simpa using ck
              obtain ⟨f, D', he⟩ : ∃ f D', doStep st D = (f, D') := ⟨_, _, rfl⟩
              obtain ⟨s1, e1, r1⟩ : ∃ s e, D.read n = (s, e) := ⟨_, _, rfl⟩
              have hr := doStep_read st D hA.wf n (by have := ho.k0; omega)
              have hlen := doStep_len st D
              rw [he] at hr hlen
              dsimp only at hr hlen
              have hap : 0 < st.keep.length → ∀ a n c, kv = .slice (some a) n c → ¬ dset p q j a.block := hsv.1.apart lp lq lm
              have fin : ∀ W, Keeps noB w W → DiskAt W p q j D' → (∃ (k_1 : Nat) (D : Dk), k_1 ≤ l.length ∧ Value.int .i64 (↑k + 1) = .int .i64 k_1 ∧ DiskAt W p q j D ∧ Keeps noB w W) := fun W h1 h2 => ⟨k + 1, D', by omega, by simp, h2, h1⟩
              by_cases hcond : st.kind = 0 ∧ st.n = n ∧ f = 0
              · rw [if_pos hcond] at hr
                have e0 : e1 = 0 := by
                  have h1 := read_err D' n
                  have h2 := read_err D n
                  rw [hr, has_len hlen] at h1
                  rw [r1] at h2
                  dsimp only at h1 h2
                  rw [h2]; exact h1.symm
                subst e0
                obtain ⟨c1, c2, c3⟩ := hcond
                subst c3
                have b1 : (st.kind == 0) = true := by simpa using c1
                have b2 : (st.n == n) = true := by simpa using c2
                clear c1 c2
                have hz : 0 ≤ wr.heap.size := Nat.zero_le _
                go_wp2_with (first | (go_at_call 24; (with_reducible refine (dRead (by first | exact hA | exact hA.alloc _ | exact (hA.alloc _).alloc _ | exact hA.drew | exact hA.drew.alloc _ | exact (hA.alloc _).drew | exact ((hA.alloc _).alloc _).drew) r1).mono ?_); rintro e Wx ⟨rfl, hx, kx⟩; have zx := kx.size; (try simp only [World.size_alloc, World.size_drew] at zx); skip; replace hk := Keeps.trans_new (by first | exact hk | exact hk.alloc _ | exact (hk.alloc _).alloc _ | exact hk.drew | exact hk.drew.alloc _ | exact (hk.alloc _).drew | exact ((hk.alloc _).alloc _).drew) kx (fun k hk q => by first | exact q.elim | (simp only [dset] at q; omega) | omega | (dsimp only at q; omega)); replace hz := Nat.le_trans hz (Nat.le_trans (by omega) zx); replace hA := hx; clear hx kx zx; obtain ⟨hb, h0, h1, h2, h3, h4⟩ := hsv.keep hk) | (go_at_call 24; (with_reducible refine (dRead (by first | exact hA | exact hA.alloc _ | exact (hA.alloc _).alloc _ | exact hA.drew | exact hA.drew.alloc _ | exact (hA.alloc _).drew | exact ((hA.alloc _).alloc _).drew) hr).mono ?_); rintro e Wx ⟨rfl, hx, kx⟩; have zx := kx.size; (try simp only [World.size_alloc, World.size_drew] at zx); skip; replace hk := Keeps.trans_new (by first | exact hk | exact hk.alloc _ | exact (hk.alloc _).alloc _ | exact hk.drew | exact hk.drew.alloc _ | exact (hk.alloc _).drew | exact ((hk.alloc _).alloc _).drew) kx (fun k hk q => by first | exact q.elim | (simp only [dset] at q; omega) | omega | (dsimp only at q; omega)); replace hz := Nat.le_trans hz (Nat.le_trans (by omega) zx); replace hA := hx; clear hx kx zx; obtain ⟨hb, h0, h1, h2, h3, h4⟩ := hsv.keep hk) | ((with_reducible apply wpl_loadStep 42 (hg := Try.isAgg42) (hs := Try.sizeOf42) (s := st) (kv := kv)); rfl; rfl; exact h0; exact h1; exact h2; exact h3; exact h4; rfl) | (go_at_call 25; (with_reducible refine (do_calls _ (by first | exact hA | exact hA.alloc _ | exact (hA.alloc _).alloc _ | exact hA.drew | exact hA.drew.alloc _ | exact (hA.alloc _).drew | exact ((hA.alloc _).alloc _).drew) hb hap ho.n1 he).mono ?_); rintro e Wx ⟨rfl, hx, kx⟩; have zx := kx.size; (try simp only [World.size_alloc, World.size_drew] at zx); skip; replace hk := Keeps.trans_new (by first | exact hk | exact hk.alloc _ | exact (hk.alloc _).alloc _ | exact hk.drew | exact hk.drew.alloc _ | exact (hk.alloc _).drew | exact ((hk.alloc _).alloc _).drew) kx (fun k hk q => by first | exact q.elim | (simp only [dset] at q; omega) | omega | (dsimp only at q; omega)); replace hz := Nat.le_trans hz (Nat.le_trans (by omega) zx); replace hA := hx; clear hx kx zx; obtain ⟨hb, h0, h1, h2, h3, h4⟩ := hsv.keep hk))
                refine wp_region_text [(0, true), (1, true), (2, true), (3, true), (4, true), (5, true), (6, true), (7, true), (8, true), (9, true), (10, true), (11, false), (12, true)] (fun W' => W'.cell? ⟨(a.add (k * 5)).block, (a.add (k * 5)).off + 2, none⟩ = some (.string (bs st.s)) ∧ W'.cell? ⟨(a.add (k * 5)).block, (a.add (k * 5)).off + 4, none⟩ = some (.int .i64 st.cut)) (by kernel_rfl) (by kernel_rfl) (fun d _ _ _ _ h => by cases d <;> exact h) ⟨h2, h4⟩ ?_
                (repeat (first | (apply wpText_take; rfl; rfl; (intro W hS; (try dsimp only at hS); (try (have hS1 := hS.1; have hS2 := hS.2)); go_simp; exact rfl); try simp only [Act.put, List.setIfInBounds_toArray, List.set_cons_succ, List.set_cons_zero]) | (apply wpText_takeG; rfl; rfl; (intro W hS; (try dsimp only at hS); (try have hS1 := hS.2.2); go_simp; exact rfl); try simp only [Act.put, List.setIfInBounds_toArray, List.set_cons_succ, List.set_cons_zero]) | (apply wpText_skip; rfl; rfl; try simp only [Act.put, List.setIfInBounds_toArray, List.set_cons_succ, List.set_cons_zero]) | (apply wpText_goL; rfl; intro K hK; go_wp2_with (first | (go_at_call 26; (refine (whole_calls st.s st.cut _).mono ?_); rintro e Wx ⟨rfl, kx⟩; replace hA := ((by first | exact hA | exact hA.alloc _ | exact (hA.alloc _).alloc _ | exact hA.drew | exact hA.drew.alloc _ | exact (hA.alloc _).drew | exact ((hA.alloc _).alloc _).drew) : DiskAt _ _ _ _ _).held kx; have zx := kx.size; (try simp only [World.size_alloc, World.size_drew] at zx); skip; replace hk := Keeps.trans_new (by first | exact hk | exact hk.alloc _ | exact (hk.alloc _).alloc _ | exact hk.drew | exact hk.drew.alloc _ | exact (hk.alloc _).drew | exact ((hk.alloc _).alloc _).drew) kx (fun k hk q => by first | exact q.elim | (simp only [dset] at q; omega) | omega | (dsimp only at q; omega)); replace hz := Nat.le_trans hz (Nat.le_trans (by omega) zx); clear kx zx; obtain ⟨hb, h0, h1, h2, h3, h4⟩ := hsv.keep hk)); (refine hK _ _ ⟨h2, h4⟩ ?_); clear hK K; try simp only [Act.put, List.setIfInBounds_toArray, List.set_cons_succ, List.set_cons_zero])))
                apply wpText_done
                go_wp2
                exact ⟨fin _ hk hA, by simp [intOf]; omega⟩
              · rw [if_neg hcond] at hr
                rw [r1] at hr
                have hz : 0 ≤ wr.heap.size := Nat.zero_le _
                have hb4 : (st.kind == 0) = false ∨ (st.kind == 0) = true ∧ (st.n == n) = false ∨ (st.kind == 0) = true ∧ (st.n == n) = true ∧ (f == 0) = false := by
                  cases g1 : (st.kind == 0) <;> cases g2 : (st.n == n) <;> cases g3 : (f == 0) <;> simp_all
                clear hcond
                rcases hb4 with b1 | ⟨b1, b2⟩ | ⟨b1, b2, b3⟩
                all_goals go_wp2_with (first | (go_at_call 24; (with_reducible refine (dRead (by first | exact hA | exact hA.alloc _ | exact (hA.alloc _).alloc _ | exact hA.drew | exact hA.drew.alloc _ | exact (hA.alloc _).drew | exact ((hA.alloc _).alloc _).drew) r1).mono ?_); rintro e Wx ⟨rfl, hx, kx⟩; have zx := kx.size; (try simp only [World.size_alloc, World.size_drew] at zx); skip; replace hk := Keeps.trans_new (by first | exact hk | exact hk.alloc _ | exact (hk.alloc _).alloc _ | exact hk.drew | exact hk.drew.alloc _ | exact (hk.alloc _).drew | exact ((hk.alloc _).alloc _).drew) kx (fun k hk q => by first | exact q.elim | (simp only [dset] at q; omega) | omega | (dsimp only at q; omega)); replace hz := Nat.le_trans hz (Nat.le_trans (by omega) zx); replace hA := hx; clear hx kx zx; obtain ⟨hb, h0, h1, h2, h3, h4⟩ := hsv.keep hk) | (go_at_call 24; (with_reducible refine (dRead (by first | exact hA | exact hA.alloc _ | exact (hA.alloc _).alloc _ | exact hA.drew | exact hA.drew.alloc _ | exact (hA.alloc _).drew | exact ((hA.alloc _).alloc _).drew) hr).mono ?_); rintro e Wx ⟨rfl, hx, kx⟩; have zx := kx.size; (try simp only [World.size_alloc, World.size_drew] at zx); skip; replace hk := Keeps.trans_new (by first | exact hk | exact hk.alloc _ | exact (hk.alloc _).alloc _ | exact hk.drew | exact hk.drew.alloc _ | exact (hk.alloc _).drew | exact ((hk.alloc _).alloc _).drew) kx (fun k hk q => by first | exact q.elim | (simp only [dset] at q; omega) | omega | (dsimp only at q; omega)); replace hz := Nat.le_trans hz (Nat.le_trans (by omega) zx); replace hA := hx; clear hx kx zx; obtain ⟨hb, h0, h1, h2, h3, h4⟩ := hsv.keep hk) | ((with_reducible apply wpl_loadStep 42 (hg := Try.isAgg42) (hs := Try.sizeOf42) (s := st) (kv := kv)); rfl; rfl; exact h0; exact h1; exact h2; exact h3; exact h4; rfl) | (go_at_call 25; (with_reducible refine (do_calls _ (by first | exact hA | exact hA.alloc _ | exact (hA.alloc _).alloc _ | exact hA.drew | exact hA.drew.alloc _ | exact (hA.alloc _).drew | exact ((hA.alloc _).alloc _).drew) hb hap ho.n1 he).mono ?_); rintro e Wx ⟨rfl, hx, kx⟩; have zx := kx.size; (try simp only [World.size_alloc, World.size_drew] at zx); skip; replace hk := Keeps.trans_new (by first | exact hk | exact hk.alloc _ | exact (hk.alloc _).alloc _ | exact hk.drew | exact hk.drew.alloc _ | exact (hk.alloc _).drew | exact ((hk.alloc _).alloc _).drew) kx (fun k hk q => by first | exact q.elim | (simp only [dset] at q; omega) | omega | (dsimp only at q; omega)); replace hz := Nat.le_trans hz (Nat.le_trans (by omega) zx); replace hA := hx; clear hx kx zx; obtain ⟨hb, h0, h1, h2, h3, h4⟩ := hsv.keep hk))
                all_goals exact ⟨fin _ hk hA, by simp [intOf]; omega⟩
          · have d1 : decide ((k : Int) < (l.length : Int)) = false := by rw [decide_eq_false_iff_not]; omega
            go_wp2
            go_ret
            exact ⟨rfl, hk⟩
      · go_ret
        exact ⟨rfl, q1.trans (q2.trans q3)⟩
end Go.Proofs.Ytckopikeegegkaa
/- OPENS 3: the steps of the disk's laws, opened. -/
namespace Go.Proofs.Ytckopikeegegkaa
open Go.ChangeShapes Go.WideShapes Go.ChangeAt Go.RowKit Go.Joins Go.Deep
section
variable {H : Type} {enc : TypeId × Value → H} {P : Program} {w : World} {base : Nat} {spare : Nat → Bool} {held : Bool}
theorem open_slice_fields {t e : TypeId} {fs : Array Field} {fuel : Nat} {cs : List Value} {x : DataW H × List MemPlace} (ht : P.underlying t = some (.slice e)) (he : P.underlying e = some (.struct fs))
    (hone : oneCellFields P fs = true) (hC : P.cellsOf e = fs.size) (h : DataW.trod enc P w base spare held fuel t cs = some x) :
    (cs = [.slice none 0 0] ∧ x = (.nil, [])) ∨
    ∃ (a : Addr) (len cap m : Nat) (D : Nat → DataW H) (Pl : Nat → List MemPlace), cs = [.slice (some a) len cap] ∧ base ≤ a.block ∧ len ≤ cap ∧ cap ≤ maxLen ∧ m = (if spare a.block then cap else len) ∧
      x = (.slice ((List.range len).map D) ((List.range (m - len)).map fun j => D (len + j)), MemPlace.row a (m * fs.size) ++ (List.range m).flatMap Pl) ∧
      ∀ i, i < m → ∃ (ys : List (DataW H × List MemPlace)) (n : Nat), D i = .agg (ys.map (·.1)) ∧ Pl i = ys.flatMap (·.2) ∧ ys.length = fs.size ∧
        ∀ (j : Nat) (f : Field), fs[j]? = some f → ∃ (v : Value) (y : DataW H × List MemPlace), w.cell? (a.add (i * fs.size + j)) = some v ∧ ys[j]? = some y ∧ DataW.trod enc P w base spare held n f.type [v] = some y := by
  rcases open_slice ht h with h0 | ⟨a, len, cap, m, n, D, Pl, hcs, hb, hl, hm, hmm, hx, hi⟩
  · exact .inl h0
  · refine .inr ⟨a, len, cap, m, D, Pl, hcs, hb, hl, hm, hmm, by rw [hC] at hx; exact hx, fun i him => ?_⟩
    obtain ⟨cs', hc, ht'⟩ := hi i him
    rw [hC] at hc
    obtain ⟨ys, n', hn', hy, hlen, hyl, hf⟩ := DataW.trod_struct he ht'
    obtain ⟨_, hcl, hat⟩ := World.cells?_some hc
    simp only [Prod.mk.injEq] at hy
    refine ⟨ys, n', hy.1, hy.2, hyl, fun j f hj => ?_⟩
    obtain ⟨ho, hk⟩ := hone_of hone j f hj
    have hjl : j < fs.size := (Array.getElem?_eq_some_iff.1 hj).1
    have hcell := hat j hjl
    have hv : cs'[j]? = some (cs'[j]'(by omega)) := List.getElem?_eq_getElem (by omega)
    have h1 := hf j f hj
    rw [ho, hk] at h1
    have hone' : (cs'.drop j).take 1 = [cs'[j]'(by omega)] := by
      rw [List.drop_eq_getElem_cons (by omega)]
      rfl
    rw [hone'] at h1
    have hys : ys[j]? = some (ys[j]'(by omega)) := List.getElem?_eq_getElem (by omega)
    refine ⟨_, _, ?_, hys, h1.trans hys⟩
    rw [← Go.Deep.add_add, hcell, hv]
end

theorem boolsAt_trod {H : Type} {enc : TypeId × Value → H} {w : World} {base fuel : Nat} {held : Bool} {v : Value} {y : DataW H × List MemPlace}
    (h : DataW.trod enc Try.prog w base (fun _ => true) held fuel 40 [v] = some y) : ∃ l : List Bool, BoolsAt w v l ∧ l.length ≤ maxLen := by
  rcases open_bools Try.underlying40 Try.underlying4 (by kernel_rfl) h with ⟨hc, _⟩ | ⟨a, len, cap, B, hc, _, hl, hm, _, hcell⟩
  · simp at hc; subst hc
    exact ⟨[], .inl ⟨rfl, rfl⟩, by simp⟩
  · simp at hc; subst hc
    refine ⟨(List.range len).map B, .inr ⟨a, cap, by simp, fun i hi => ?_⟩, by simp; omega⟩
    rw [hcell i (by simp at hi; omega)]
    simp
set_option maxRecDepth 100000 in
theorem open_stepsAt {H : Type} {enc : TypeId × Value → H} {w : World} {base b0 : Nat} {held : Bool} {r : Reach} {v : Value} {d : DataW H} {p : List MemPlace}
    (hv : Value.okWide Try.prog w r b0 38 v) (h : DataW.Trod enc Try.prog w base (fun _ => true) held 38 v d p) : ∃ l : List Stp, StepsAt w v l ∧ l.length ≤ maxLen ∧ ∀ x ∈ l, StpOk x := by
  obtain ⟨a0, len, cap, rfl⟩ := okWide_slice Try.underlying38 hv
  obtain ⟨fuel, hf⟩ := h
  rcases open_slice_fields Try.underlying38 Try.underlying42 (by kernel_rfl) (by kernel_rfl) hf with ⟨hc, _⟩ | ⟨a, len', cap', m, D, Pl, hc, _, hl, hm, hmm, _, hff⟩
  · simp [Value.cells] at hc
    obtain ⟨rfl, rfl, rfl⟩ := hc
    exact ⟨[], .inl ⟨rfl, rfl⟩, by simp, by simp⟩
  · simp [Value.cells] at hc
    obtain ⟨rfl, rfl, rfl⟩ := hc
    simp at hmm
    have each : ∀ i, i < len → ∃ x : Stp, StepAt w (a.add (i * 5)) x ∧ StpOk x := by
      intro i hi
      obtain ⟨ys, n, _, _, _, hj⟩ := hff i (by omega)
      obtain ⟨v0, y0, c0, _, t0⟩ := hj 0 _ rfl
      obtain ⟨v1, y1, c1, _, t1⟩ := hj 1 _ rfl
      obtain ⟨v2, y2, c2, _, t2⟩ := hj 2 _ rfl
      obtain ⟨v3, y3, c3, _, t3⟩ := hj 3 _ rfl
      obtain ⟨v4, y4, c4, _, t4⟩ := hj 4 _ rfl
      obtain ⟨k, e0, _, w0⟩ := DataW.trod_int Try.underlying5 t0
      obtain ⟨nn, e1, _, w1⟩ := DataW.trod_int Try.underlying3 t1
      obtain ⟨s, e2, _⟩ := DataW.trod_string Try.underlying9 t2
      obtain ⟨keep, hkeep, hkl⟩ := boolsAt_trod t3
      obtain ⟨cut, e4, _, w4⟩ := DataW.trod_int Try.underlying3 t4
      simp at e0 e1 e2 e4
      subst e0 e1 e2 e4
      refine ⟨⟨k, nn, s.data.toList, keep, cut⟩, ⟨v3, hkeep, ?_, ?_, ?_, ?_, ?_⟩, ⟨(u8_bounds w0).1, (u8_bounds w0).2, (i64_bounds w1).2⟩⟩
      · exact c0
      · rw [← add1_add, add_add]; exact c1
      · rw [← add1_add, add_add]; dsimp only; rw [bs_of]; exact c2
      · rw [← add1_add, add_add]; exact c3
      · rw [← add1_add, add_add]; exact c4
    obtain ⟨F, hF⟩ := choose_lt (α := Stp) (p := fun i x => StepAt w (a.add (i * 5)) x ∧ StpOk x) each
    refine ⟨(List.range len).map F, .inr ⟨a, cap, by simp, fun i hi => ?_⟩, by simp; omega, fun x hx => ?_⟩
    · simp at hi
      simp only [List.getElem_map, List.getElem_range]
      exact (hF i hi).1
    · obtain ⟨i, hi, rfl⟩ := List.mem_map.1 hx
      exact (hF i (List.mem_range.1 hi)).2
end Go.Proofs.Ytckopikeegegkaa
/- A region that draws its order, walked in ONE order, where some operations come LATE: they wait for every read that is taken ahead; behind them the reads' condition is not asked any more ('a, b = f(a), g(b)'). -/
namespace Go.Proofs.Ytckopikeegegkaa
open Go.RowKit
section
variable {P : Program} {ops : Array Oper} {Q : Exit → Act → World → Prop} {md : Region.Mode} {S : World → Prop} {late : List Nat}

def wpAnyL (P : Program) (md : Region.Mode) (ops : Array Oper) (Q : Exit → Act → World → Prop) (S : World → Prop) (late : List Nat) : Nat → Array Bool → Act → World → Prop
  | 0, listed, a, w => Region.ready md ops listed = [] ∧ Q .normal a w
  | fuel + 1, listed, a, w => (Region.ready md ops listed = [] → Q .normal a w) ∧
    ∀ i ∈ Region.ready md ops listed, wpOp P ops Q i (fun a' w' => (late.contains i = false → S w') ∧ wpAnyL P md ops Q S late fuel (listed.setIfInBounds i true) a' w') a w
theorem wpAny_of_late : ∀ (fuel : Nat) (listed : Array Bool) (a : Act) (w : World), wpAnyL P md ops Q S late fuel listed a w → wpAny P md ops Q fuel listed a w
  | 0, _, _, _, h => h
  | fuel + 1, _, _, _, h => ⟨h.1, fun i hi => wpOp_mono (fun a' w' h' => wpAny_of_late fuel _ a' w' h'.2) (h.2 i hi)⟩
/-- Operation j waits for operation i, over at most f steps. -/
def waitsB (md : Region.Mode) (ops : Array Oper) (i : Nat) : Nat → Nat → Bool
  | 0, _ => false
  | f + 1, j => match ops[j]? with | none => false | some o => o.after.toList.any fun e => Region.binds md e && (e.on == i || waitsB md ops i f e.on)
/-- Every late operation waits for number i. -/
def lateB (md : Region.Mode) (ops : Array Oper) (late : List Nat) (i : Nat) : Bool := !late.contains i && late.all fun j => waitsB md ops i 12 j
/-- What is listed waits for nothing that is not. -/
def Shut (md : Region.Mode) (ops : Array Oper) (listed : Array Bool) : Prop := ∀ (k : Nat) (o : Oper), ops[k]? = some o → listed.getD k false = true → ∀ e ∈ o.after, Region.binds md e = true → listed.getD e.on false = true
theorem shut_set {listed : Array Bool} (h : Shut md ops listed) {j : Nat} (hj : j ∈ Region.ready md ops listed) : Shut md ops (listed.setIfInBounds j true) := by
  obtain ⟨hjun, oj, hoj, hall⟩ := mem_ready.1 hj
  have mono : ∀ k, listed.getD k false = true → (listed.setIfInBounds j true).getD k false = true := fun k hk => by
    by_cases e : j = k
    · subst e
      rcases Nat.lt_or_ge j listed.size with h' | h'
      · simp [h']
      · simp [Array.getElem?_eq_none h'] at hk
    · simpa [Array.getElem?_setIfInBounds_ne e] using hk
  intro k o ho hk e he hb
  by_cases ek : j = k
  · subst ek
    rw [hoj] at ho; cases ho
    exact mono _ (by simpa using hall e he hb)
  · have hk' : listed.getD k false = true := by simpa [Array.getElem?_setIfInBounds_ne ek] using hk
    exact mono _ (h k o ho hk' e he hb)
theorem waits_listed {listed : Array Bool} (h : Shut md ops listed) {i : Nat} : ∀ (f k : Nat), listed.getD k false = true → waitsB md ops i f k = true → listed.getD i false = true
  | 0, _, _, hw => by simp [waitsB] at hw
  | f + 1, k, hk, hw => by
    unfold waitsB at hw
    cases ho : ops[k]? with
    | none => rw [ho] at hw; cases hw
    | some o =>
      rw [ho] at hw
      simp only [List.any_eq_true, Bool.and_eq_true, Bool.or_eq_true, beq_iff_eq] at hw
      obtain ⟨e, he, hb, hw⟩ := hw
      have hl := h k o ho hk e (by simpa using he) hb
      rcases hw with rfl | hw
      · exact hl
      · exact waits_listed h f e.on hl hw
theorem waits_ready {listed : Array Bool} (h : Shut md ops listed) {i j : Nat} (hj : j ∈ Region.ready md ops listed) {f : Nat} (hw : waitsB md ops i f j = true) : listed.getD i false = true := by
  obtain ⟨hjun, oj, hoj, hall⟩ := mem_ready.1 hj
  cases f with
  | zero => simp [waitsB] at hw
  | succ f =>
    unfold waitsB at hw
    rw [hoj] at hw
    simp only [List.any_eq_true, Bool.and_eq_true, Bool.or_eq_true, beq_iff_eq] at hw
    obtain ⟨e, he, hb, hw⟩ := hw
    have hl : listed.getD e.on false = true := by simpa using hall e (by simpa using he) hb
    rcases hw with rfl | hw
    · exact hl
    · exact waits_listed h f e.on hl hw
theorem wpAnyL_first {i : Nat} {oi : Oper} {v : Value} (hi : ops[i]? = some oi) (hsel : ∀ (j : Nat) (o : Oper) cs b, ops[j]? = some o → o.op ≠ .select cs b)
    (hQ : ∀ c a w, Q (.panic c) (a.put oi.dst v) w → Q (.panic c) a w) (hL : lateB md ops late i = true) :
    ∀ (fuel : Nat) (listed : Array Bool) (a : Act) (w : World), Shut md ops listed →
      (∀ j oj, ops[j]? = some oj → j ≠ i → listed.getD j true = false → (∀ e ∈ oj.after, Region.binds md e = true → e.on ≠ i) → oi.apart ops oj = true) →
      i ∈ Region.ready md ops listed → YieldsIf P ops S oi v a → S w →
      wpAnyL P md ops Q S late fuel (listed.setIfInBounds i true) (a.put oi.dst v) w → wpAnyL P md ops Q S late (fuel + 1) listed a w := by
  intro fuel
  induction fuel with
  | zero =>
    intro listed a w hsh _ hr hy hS H
    refine ⟨fun h => (by rw [h] at hr; cases hr), fun j hj => ?_⟩
    by_cases hji : j = i
    · subst hji; exact hy.wpOp hi hS ⟨fun _ => hS, H⟩
    · have := ready_mono hj hji
      rw [H.1] at this
      cases this
  | succ fuel ih =>
    intro listed a w hsh hfree hr hy hS H
    refine ⟨fun h => (by rw [h] at hr; cases hr), fun j hj => ?_⟩
    by_cases hji : j = i
    · subst hji; exact hy.wpOp hi hS ⟨fun _ => hS, H⟩
    · have h1 := H.2 j (ready_mono hj hji)
      obtain ⟨hjun, oj, hoj, hall⟩ := mem_ready.1 hj
      have hnot : ∀ e ∈ oj.after, Region.binds md e = true → e.on ≠ i := fun e he hb heq => by
        have h1 := hall e he hb
        have h0 := (mem_ready.1 hr).1
        rw [heq] at h1
        rcases Nat.lt_or_ge i listed.size with h' | h'
        · simp [h'] at h0 h1; rw [h0] at h1; cases h1
        · simp [Array.getElem?_eq_none h'] at h1
      have hnl : late.contains j = false := by
        cases hc : late.contains j with
        | false => rfl
        | true =>
          simp only [lateB, Bool.and_eq_true, List.all_eq_true] at hL
          have h1 := waits_ready hsh hj (hL.2 j (by simpa using hc))
          have h0 := (mem_ready.1 hr).1
          rcases Nat.lt_or_ge i listed.size with h' | h'
          · simp [h'] at h0 h1; rw [h0] at h1; cases h1
          · simp [Array.getElem?_eq_none h'] at h1
      have h2 := wpOp_putIf hoj (hfree j oj hoj hji hjun hnot) (fun cs b => hsel i oi cs b hi) (fun cs b => hsel j oj cs b hoj) hQ hy h1
      have hfree' : ∀ k ok, ops[k]? = some ok → k ≠ i → (listed.setIfInBounds j true).getD k true = false →
          (∀ e ∈ ok.after, Region.binds md e = true → e.on ≠ i) → oi.apart ops ok = true := fun k ok hk hki hun hno => by
        refine hfree k ok hk hki ?_ hno
        by_cases hjk : j = k
        · subst hjk; exact hjun
        · rw [getD_set_ne true hjk] at hun; exact hun
      refine wpOp_mono (fun a' w' h3 => ⟨h3.2.1, ih (listed.setIfInBounds j true) a' w' (shut_set hsh hj) hfree' (ready_mono hr (Ne.symm hji)) h3.1 (h3.2.1 hnl) ?_⟩) h2
      rw [Array.setIfInBounds_comm _ _ hji]
      exact h3.2.2

/-- The walk in the order ord: (i, true): operation i only reads; (i, false): it is the only one that is ready. -/
def wpLate (P : Program) (ops : Array Oper) (Q : Exit → Act → World → Prop) (S : World → Prop) (late : List Nat) : List (Nat × Bool) → Act → World → Prop
  | [], a, w => Q .normal a w
  | (i, true) :: r, a, w => ∃ o v, ops[i]? = some o ∧ YieldsIf P ops S o v a ∧ wpLate P ops Q S late r (a.put o.dst v) w
  | (i, false) :: r, a, w => wpOp P ops Q i (fun a' w' => (late.contains i = false → S w') ∧ wpLate P ops Q S late r a' w') a w
def lateOk (ops : Array Oper) (late : List Nat) : List (Nat × Bool) → Bool → Array Bool → Bool
  | [], _, listed => (Region.ready .any ops listed).isEmpty
  | (i, true) :: r, ok, listed => ok && lateB .any ops late i && (Region.ready .any ops listed).contains i && Region.free .any ops listed i && lateOk ops late r ok (listed.setIfInBounds i true)
  | (i, false) :: r, ok, listed => decide (Region.ready .any ops listed = [i]) && lateOk ops late r (ok && !late.contains i) (listed.setIfInBounds i true)
theorem wpLate_any (hs : Region.noSelect ops = true) (hQ : ∀ d v c a w, Q (.panic c) (Act.put a d v) w → Q (.panic c) a w) :
    ∀ (l : List (Nat × Bool)) (ok : Bool) (listed : Array Bool) (a : Act) (w : World), lateOk ops late l ok listed = true → Shut .any ops listed → (ok = true → S w) → wpLate P ops Q S late l a w → wpAnyL P .any ops Q S late l.length listed a w
  | [], _, _, _, _, hB, _, _, h => ⟨by simpa [lateOk] using hB, h⟩
  | (i, true) :: r, ok, listed, a, w, hB, hsh, hS, h => by
    obtain ⟨o, v, hi, hy, h⟩ := h
    simp only [lateOk, Bool.and_eq_true] at hB
    obtain ⟨⟨⟨⟨h0, hl⟩, hr⟩, hf⟩, hB⟩ := hB
    exact wpAnyL_first hi (Region.noSelect_spec hs) (fun c a w => hQ o.dst v c a w) hl _ _ _ _ hsh (Region.free_spec hi hf) (by simpa using hr) hy (hS h0) (wpLate_any hs hQ r _ _ _ _ hB (shut_set hsh (by simpa using hr)) hS h)
  | (i, false) :: r, ok, listed, a, w, hB, hsh, hS, h => by
    simp only [lateOk, Bool.and_eq_true, decide_eq_true_eq] at hB
    obtain ⟨hr, hB⟩ := hB
    refine ⟨fun h0 => absurd (hr ▸ h0) (by simp), fun j hj => ?_⟩
    have : j = i := by rw [hr] at hj; simpa using hj
    subst this
    exact wpOp_mono (fun a' w' h' => ⟨h'.1, wpLate_any hs hQ r _ _ _ _ hB (shut_set hsh (by rw [hr]; simp)) (fun ho => h'.1 (by simp only [Bool.and_eq_true, Bool.not_eq_true'] at ho; exact ho.2)) h'.2⟩) h
theorem wp_region_late {id : Nat} {a : Act} {w : World} (late : List Nat) (ord : List (Nat × Bool)) (S : World → Prop) (hm : P.follows .mixedOrders = true)
    (hB : (Region.noSelect ops && decide (ord.length = ops.size) && lateOk ops late ord true (Array.replicate ops.size false)) = true)
    (hQ : ∀ d v c a w, Q (.panic c) (Act.put a d v) w → Q (.panic c) a w) (hS : S w.drew)
    (h : wpLate P ops Q S late ord a w.drew) : (Code.region id ops true).wp P Q a w := by
  simp only [Bool.and_eq_true, decide_eq_true_eq] at hB
  obtain ⟨⟨h1, h2⟩, h3⟩ := hB
  refine wp_region_any hm (wpAny_of_late (S := S) (late := late) _ _ _ _ ?_)
  rw [← h2]
  exact wpLate_any h1 hQ ord true _ a _ (by rw [h2]; exact h3) (fun k o _ hk => by simp [Array.getElem?_replicate] at hk; split at hk <;> simp at hk) (fun _ => hS) h
theorem wpLate_done {a : Act} {w : World} (h : Q .normal a w) : wpLate P ops Q S late [] a w := h
theorem wpLate_take {i : Nat} {r : List (Nat × Bool)} {o : Oper} {v : Value} {a : Act} {w : World} (hi : ops.toList[i]? = some o) (hg : o.guard = none)
    (hv : ∀ w, S w → (execOp a.eval o).run P w = .ok (.value v) w) (h : wpLate P ops Q S late r (a.put o.dst v) w) : wpLate P ops Q S late ((i, true) :: r) a w :=
  ⟨o, v, by simpa using hi, .inl ⟨by simp [Region.wanted, hg], hv⟩, h⟩
theorem wpLate_goL {i : Nat} {r : List (Nat × Bool)} {o : Oper} {a : Act} {w : World} (hi : ops.toList[i]? = some o)
    (h : ∀ K : Act → World → Prop, (∀ a w, (late.contains i = false → S w) → wpLate P ops Q S late r a w → K a w) → wpList P ops (Exit.then K Q) [o] a w) : wpLate P ops Q S late ((i, false) :: r) a w := by
  have hi' : ops[i]? = some o := by simpa using hi
  have h' := h _ (fun a w h1 h2 => (⟨h1, h2⟩ : (late.contains i = false → S w) ∧ wpLate P ops Q S late r a w))
  unfold wpLate wpOp
  simp only [hi']
  unfold wpList at h'
  split
  · rename_i hw
    rw [if_pos hw] at h'
    rcases h' with h' | ⟨h1, a2, w2, h2⟩
    · exact .inl (upon_then h' (fun a w q => q))
    · exact .inr ⟨h1, a2, w2, h2⟩
  · rename_i hw
    rw [if_neg hw] at h'
    exact h'
/-- A whole row is loaded. -/
theorem wpLate_load {i : Nat} {r : List (Nat × Bool)} {o : Oper} {a : Act} {w : World} (ty : TypeId) (n b : Nat) (x : Operand) (L : List Value) (t : TypeId) (fr : Nat × Nat) (hi : ops.toList[i]? = some o) (hgd : o.guard = none) (ho : o.op = .load ty x)
    (hx : a.eval x = .pointer (some ⟨b, 0, none⟩)) (hg : ∀ w, (isAgg ty).run P w = .ok true w) (hs : ∀ w, (sizeOf ty).run P w = .ok n w) (hb : ∀ w, S w → w.heap[b]? = some (.cells L.toArray t fr)) (hl : L.length = n)
    (h : wpLate P ops Q S late r (a.put o.dst (.agg L.toArray)) w) : wpLate P ops Q S late ((i, true) :: r) a w :=
  wpLate_take hi hgd (fun w hS => exec_run (s := Instr.loadAt ty (.pointer (some ⟨b, 0, none⟩))) (by simp only [execOp, ho, hx]) (run_loadAll ty n b L t fr hg hs (hb w hS) hl)) h
theorem wpText_load {i : Nat} {r : List (Nat × Bool)} {o : Oper} {a : Act} {w : World} (ty : TypeId) (n b : Nat) (x : Operand) (L : List Value) (t : TypeId) (fr : Nat × Nat) (hi : ops.toList[i]? = some o) (hgd : o.guard = none) (ho : o.op = .load ty x)
    (hx : a.eval x = .pointer (some ⟨b, 0, none⟩)) (hg : ∀ w, (isAgg ty).run P w = .ok true w) (hs : ∀ w, (sizeOf ty).run P w = .ok n w) (hb : ∀ w, S w → w.heap[b]? = some (.cells L.toArray t fr)) (hl : L.length = n)
    (h : wpText P ops Q S r (a.put o.dst (.agg L.toArray)) w) : wpText P ops Q S ((i, true) :: r) a w :=
  wpText_take hi hgd (fun w hS => exec_run (s := Instr.loadAt ty (.pointer (some ⟨b, 0, none⟩))) (by simp only [execOp, ho, hx]) (run_loadAll ty n b L t fr hg hs (hb w hS) hl)) h
theorem run_loadPart {P : Program} {w : World} (ty : TypeId) (n b off : Nat) (L V : List Value) (t : TypeId) (fr : Nat × Nat) (hg : ∀ w, (isAgg ty).run P w = .ok true w) (hs : ∀ w, (sizeOf ty).run P w = .ok n w)
    (hb : w.heap[b]? = some (.cells L.toArray t fr)) (hl : off + n ≤ L.length) (hV : (L.drop off).take n = V) : (Instr.loadAt ty (.pointer (some ⟨b, off, none⟩))).run P w = .ok (.agg V.toArray) w := by
  have := run_loadCells_row (P := P) (w := w) b off n L t fr hb hl
  rw [hV] at this
  simp [Instr.loadAt, Instr.sureAddr, loadVar, hg, hs, this, Result.andThen]
theorem wpText_loadPart {i : Nat} {r : List (Nat × Bool)} {o : Oper} {a : Act} {w : World} (ty : TypeId) (n b off : Nat) (x : Operand) (L V : List Value) (t : TypeId) (fr : Nat × Nat) (hi : ops.toList[i]? = some o) (hgd : o.guard = none) (ho : o.op = .load ty x)
    (hx : a.eval x = .pointer (some ⟨b, off, none⟩)) (hg : ∀ w, (isAgg ty).run P w = .ok true w) (hs : ∀ w, (sizeOf ty).run P w = .ok n w) (hb : ∀ w, S w → w.heap[b]? = some (.cells L.toArray t fr)) (hl : off + n ≤ L.length) (hV : (L.drop off).take n = V)
    (h : wpText P ops Q S r (a.put o.dst (.agg V.toArray)) w) : wpText P ops Q S ((i, true) :: r) a w :=
  wpText_take hi hgd (fun w hS => exec_run (s := Instr.loadAt ty (.pointer (some ⟨b, off, none⟩))) (by simp only [execOp, ho, hx]) (run_loadPart ty n b off L V t fr hg hs (hb w hS) hl hV)) h
theorem wpLate_take' {i : Nat} {r : List (Nat × Bool)} {o : Oper} {v : Value} {a : Act} {w : World} (hi : ops.toList[i]? = some o) (hg : o.guard = none)
    (hv : ∀ w, S w → (execOp a.eval o).run P w = .ok (.value v) w) (h : wpLate P ops Q S late r (a.put o.dst v) w) : wpLate P ops Q S late ((i, true) :: r) a w := wpLate_take hi hg hv h
end
end Go.Proofs.Ytckopikeegegkaa
/- DISKCOPY: the contracts of Copy and Same. -/
namespace Go.Proofs.Ytckopikeegegkaa
open Go.RowKit Go.MapKept Go.Shelf
set_option linter.unusedSimpArgs false
set_option linter.unusedVariables false
variable {p q m : Nat} {D : Dk}
theorem keeps_of_grown {w w' : World} {row : Option Nat} (h : w.grownBy w' row) (S : Nat → Prop) (hS : ∀ k, row = some k → S k) : Keeps S w w' :=
  ⟨h.os, h.tape, h.output, h.size, fun k hk hs => h.block k hk (fun e => hs (hS k e.symm))⟩
theorem row_cell {W : World} {b : Nat} {L : List Value} {t : TypeId} {fr : Nat × Nat} (f : W.heap[b]? = some (.cells L.toArray t fr)) (j : Nat) (u : Value) (h : L[j]? = some u) : W.cell? ((⟨b, 0, none⟩ : Addr).add j) = some u := by
  rw [addr_add]; simp only [Nat.zero_add]
  exact cell_blk f j u (by simpa using h)
theorem flat_one (t : List Str) : ∀ u ∈ t.flatMap encB, u.oneCell' = true := fun u hu => by
  obtain ⟨s, _, hs⟩ := List.mem_flatMap.1 hu
  exact encB_one s u hs
set_option maxRecDepth 20000 in
set_option maxHeartbeats 2000000 in
theorem cloneS_calls (T : List Str) (cap : Nat) (rest : List Value) (w : World) (hT : ∀ s ∈ T, s.length = 64) (h1 : 1 ≤ T.length) (h2 : T.length ≤ 4096) (hq : w.heap[q]? = some (.cells (T.flatMap encB ++ rest).toArray 96 (0, 0))) :
    Calls Try.prog 60 #[.slice (some ⟨q, 0, none⟩) T.length cap] w fun e w' => ∃ g c, e = .returned (.slice (some ⟨g, 0, none⟩) T.length c) ∧ w.heap.size ≤ g ∧ T.length ≤ c ∧
      (∃ rest, w'.heap[g]? = some (.cells (T.flatMap encB ++ rest).toArray 96 (0, 0))) ∧ Keeps noB w w' := by
  obtain ⟨i, hi, hz0, hz1, hz2⟩ := info_parts info_sector
  have hfl := flat_length hT
  have hqn := fun W => Lib.run_eql_slice_nil (P := Try.prog) W 85 96 (some ⟨q, 0, none⟩) T.length cap 0 0 Try.underlying85
  go_enter Try.func60, Try.ntmps60
  have hw1 := heap_alloc_eq w (.cells #[] 96) _ rfl
  have hq1 := blk_alloc hq (.cells #[] 96)
  have k1 : Keeps noB w (w.alloc (.cells #[] 96)) := (Keeps.refl _ _).alloc _
  have own : (w.alloc (.cells #[] 96)).ownsRow w.heap.size 96 64 (.slice (some ⟨w.heap.size, 0, none⟩) 0 0) 0 [] :=
    ⟨by simp, .inr ⟨w.heap.size, 0, #[], rfl, Nat.le_refl _, hw1, Nat.le_refl _, by unfold maxLen; omega, by simp, by simp⟩⟩
  have hsz : w.heap.size ≤ (w.alloc (.cells #[] 96)).heap.size := k1.size
  have hcell : ∀ (j : Nat) (u : Value), (T.flatMap encB)[j]? = some u → (w.alloc (.cells #[] 96)).cell? ((⟨q, 0, none⟩ : Addr).add j) = some u := fun j u hu =>
    row_cell hq1 j u (by rw [List.getElem?_append_left (List.getElem?_eq_some_iff.1 hu).1]; exact hu)
  have hlq : q < w.heap.size := (Array.getElem?_eq_some_iff.1 hq).1
  clear hT
  have HC := Lib.hid hcell; clear hcell
  go_wp2_with (at_builtin; refine wpList_append_own _ rfl _ _ 85 rfl w.heap.size 96 i (.agg Z64.toArray) 64 64 Try.underlying85 hi hz0 hz1 hz2 rfl (by decide) _ 0 [] rfl own _ T.length cap (T.flatMap encB) rfl hfl HC.out (flat_one T) (by unfold maxLen; omega) (by omega) hsz ?_; intro v' w' ho hg hiff)
  go_ret
  obtain ⟨_, ⟨rfl, h0⟩ | ⟨g, c, cur, rfl, hb, hh, hc, hm, hcs, htk⟩⟩ := ho
  · omega
  · refine ⟨g, c, by simp, by omega, by omega, ⟨cur.toList.drop ((0 + T.length) * 64), ?_⟩, k1.trans_new (keeps_of_grown hg (fun k => k = w.heap.size) (fun k hk => by cases hk; rfl)) (fun k hk e => by omega)⟩
    rw [hh]
    congr 2
    apply Array.ext'
    simp only [List.nil_append] at htk
    rw [← htk]
    simp
set_option maxRecDepth 20000 in
set_option maxHeartbeats 2000000 in
theorem mclone_calls (es : Array MapEntry) (clock : Nat) (w : World) (hb : w.heap[m]? = some (.map es clock)) : Calls Try.prog 61 #[.map (some m)] w fun e w' => e = .returned (.map (some w.heap.size)) ∧ w' = w.alloc (.map es clock) := by
  have hq := fun w => run_eql_map_nil_sl (P := Try.prog) w 86 _ _ (some m) Try.underlying86
  go_enter Try.func61, Try.ntmps61
  go_wp2
  rw [run_callFunc_extern Try.func74 (by kernel_rfl) (by kernel_rfl) (by kernel_rfl) (e := Extern.MapsClone.clone) (by kernel_rfl), run_maps_clone_sl w 86 hb]
  simp only [Result.andThen]
  rw [Oper.upon_value]
  go_wp2
  rw [run_typeAssert_map_sl _ 86 20 _ _ _ Try.underlying86]
  simp only [Result.andThen]
  rw [Oper.upon_value]
  go_wp2
  go_ret
  exact ⟨rfl, rfl⟩
set_option maxRecDepth 20000 in
set_option maxHeartbeats 2000000 in
theorem copy_calls (w : World) (h : DiskAt w p q m D) : Calls Try.prog 28 #[.pointer (some ⟨p, 0, none⟩)] w fun e w' => ∃ p' q' m', e = .returned (.pointer (some ⟨p', 0, none⟩)) ∧ DiskAt w' p' q' m' D ∧ Keeps noB w w' ∧ w.heap.size ≤ p' ∧ w.heap.size ≤ q' ∧ w.heap.size ≤ m' := by
  obtain ⟨cap, hc, hs⟩ := h.strct
  obtain ⟨rest, hrow⟩ := h.row
  obtain ⟨es, clock, hm, hR⟩ := h.kept
  have wf := h.wf
  have cS := fun W f => cloneS_calls (q := q) D.there cap rest W wf.there wf.pos wf.small f
  go_enter Try.func28, Try.ntmps28
  go_wp2_with fail
  refine wp_region_text [(0, true), (1, true), (2, true), (3, true), (5, true), (6, true), (7, true), (8, true), (10, true), (11, true), (12, true), (13, true), (4, false), (9, false), (14, true), (15, false), (16, true)] (Blk1 p (.cells #[.slice (some ⟨q, 0, none⟩) D.there.length cap, .map (some m), .int .i64 D.left] 88)) (by kernel_rfl) (by kernel_rfl) (fun d _ _ _ _ h => by cases d <;> exact h) hs ?_
  iterate 12 (apply wpText_take; rfl; rfl; (intro W hS; have c0 := cell_blk hS 0 _ rfl; have c1 := cell_blk hS 1 _ rfl; have c2 := cell_blk hS 2 _ rfl; go_simp; exact rfl); try simp only [Act.put, List.setIfInBounds_toArray, List.set_cons_succ, List.set_cons_zero])
  apply wpText_goL; rfl; intro K hK
  go_wp2_with (go_at_call 60; (refine (cS w.drew hrow).mono ?_); rintro e W1 ⟨g, c, rfl, hg, hcc, ⟨rest', hg'⟩, k1⟩)
  have hs1 := carry k1 hs (fun q => q)
  refine hK _ _ hs1 ?_
  clear hK K
  have hm1 := carry k1 hm (fun q => q)
  have z1 := k1.size
  simp only [World.size_drew] at z1 hg
  apply wpText_goL; rfl; intro K hK
  go_wp2_with (go_at_call 61; (refine (mclone_calls es clock _ hm1).mono ?_); rintro e W2 ⟨rfl, rfl⟩)
  refine hK _ _ (blk_alloc hs1 _) ?_
  clear hK K
  iterate 1 (apply wpText_take; rfl; rfl; (intro W hS; skip; go_simp; exact rfl); try simp only [Act.put, List.setIfInBounds_toArray, List.set_cons_succ, List.set_cons_zero])
  apply wpText_goL; rfl; intro K hK
  go_wp2
  refine hK _ _ (blk_alloc (blk_alloc hs1 _) _) ?_
  clear hK K
  iterate 1 (apply wpText_take; rfl; rfl; (intro W hS; skip; go_simp; exact rfl); try simp only [Act.put, List.setIfInBounds_toArray, List.set_cons_succ, List.set_cons_zero])
  apply wpText_done
  go_wp2
  go_ret
  have hlg := (Array.getElem?_eq_some_iff.1 hg').1
  refine ⟨W1.heap.size + 1, g, W1.heap.size, rfl, ⟨⟨c, hcc, by simp (disch := (first | (simp only [World.size_alloc, World.size_setCell, World.size_drew, size_setRow, heap_drew, heap_drewN]; done) | ((try simp only [World.size_alloc, World.size_setCell, World.size_drew, size_setRow, heap_drew, heap_drewN]); omega))) only [heap_drew, heap_drewN, heap_alloc_ne, heap_alloc_eq, heap_setCell_ne, heap_setRow_ne]⟩, ⟨rest', by (simp (disch := (first | (simp only [World.size_alloc, World.size_setCell, World.size_drew, size_setRow, heap_drew, heap_drewN]; done) | ((try simp only [World.size_alloc, World.size_setCell, World.size_drew, size_setRow, heap_drew, heap_drewN]); omega))) only [heap_drew, heap_drewN, heap_alloc_ne, heap_alloc_eq, heap_setCell_ne, heap_setRow_ne]); exact hg'⟩, ⟨es, clock, by simp (disch := (first | (simp only [World.size_alloc, World.size_setCell, World.size_drew, size_setRow, heap_drew, heap_drewN]; done) | ((try simp only [World.size_alloc, World.size_setCell, World.size_drew, size_setRow, heap_drew, heap_drewN]); omega))) only [heap_drew, heap_drewN, heap_alloc_ne, heap_alloc_eq, heap_setCell_ne, heap_setRow_ne], hR⟩, wf⟩, ((Keeps.trans ((Keeps.refl noB w).drew) k1).alloc _).alloc _, by omega, by omega, by omega⟩
theorem run_eq_sector {W : World} {s t : Str} (hs : s.length = 64) (ht : t.length = 64) : (Op.equalIn 10000 96 (.agg (encB s).toArray) (.agg (encB t).toArray)).run Try.prog W = .ok (s == t) W :=
  run_equalIn_bytes (P := Try.prog) W 9998 96 5 64 Try.underlying96 Try.underlying5 Try.sizeOf5 s t hs ht
theorem differ {T U : List Str} (hl : T.length = U.length) {k : Nat} (hk : k < T.length) (h : T.getD k [] ≠ U.getD k []) : T ≠ U := fun e => h (by rw [e])
theorem alike {T U : List Str} (hl : T.length = U.length) (h : ∀ k, k < T.length → T.getD k [] = U.getD k []) : T = U := by
  refine List.ext_getElem hl (fun i h1 h2 => ?_)
  have := h i h1
  simpa [List.getD_eq_getElem?_getD, h1, h2] using this
set_option maxRecDepth 20000 in
set_option maxHeartbeats 2000000 in
theorem equalS_calls {q2 : Nat} (T U : List Str) (c1 c2 : Nat) (r1 r2 : List Value) (w : World) (hT : ∀ s ∈ T, s.length = 64) (hU : ∀ s ∈ U, s.length = 64) (hT1 : T.length ≤ 4096) (hU1 : U.length ≤ 4096)
    (hq : w.heap[q]? = some (.cells (T.flatMap encB ++ r1).toArray 96 (0, 0))) (hq2 : w.heap[q2]? = some (.cells (U.flatMap encB ++ r2).toArray 96 (0, 0))) :
    Calls Try.prog 64 #[.slice (some ⟨q, 0, none⟩) T.length c1, .slice (some ⟨q2, 0, none⟩) U.length c2] w fun e w' => e = .returned (.bool (decide (T = U))) ∧ Keeps noB w w' := by
  by_cases hlen : T.length = U.length
  · have b0 : ((T.length : Int) == (U.length : Int)) = true := by rw [hlen]; simp
    have Hlen := Lib.hid hlen
    clear hlen
    go_enter Try.func64, Try.ntmps64
    go_wp2_with fail
    go_loopw [13] (fun i wr => ∃ k : Nat, k ≤ T.length ∧ i = .int .i64 k ∧ (∀ j, j < k → T.getD j [] = U.getD j []) ∧ wr.heap[q]? = some (.cells (T.flatMap encB ++ r1).toArray 96 (0, 0)) ∧ wr.heap[q2]? = some (.cells (U.flatMap encB ++ r2).toArray 96 (0, 0)) ∧ Keeps noB w wr) (fun i _ => T.length - (intOf i).toNat)
    case atStart => exact ⟨0, by omega, rfl, fun j hj => absurd hj (by omega), hq, hq2, Keeps.refl _ _⟩
    case round =>
      obtain ⟨k, hk1, rfl, hal, hq, hq2, hk⟩ := hrel
      by_cases c : k < T.length
      · have d1 : decide ((k : Int) < (T.length : Int)) = true := by rw [decide_eq_true_eq]; omega
        obtain ⟨s1, s2⟩ := there_split hT k c r1
        obtain ⟨t1, t2⟩ := there_split hU k (by have := Hlen.out; omega) r2
        have ls := getD_64 hT c
        have lt := getD_64 hU (n := k) (by have := Hlen.out; omega)
        have heq := fun W => run_eq_sector (W := W) ls lt
        have hcu : k < U.length := by have := Hlen.out; omega
        have R1 := Lib.hid s1; have R2 := Lib.hid t1
        clear s1 t1
        generalize hs0 : T.getD k [] = s at *
        generalize ht0 : U.getD k [] = t at *
        go_wp2_with fail
        refine wp_region_text [(0, true), (1, true), (2, true), (3, true), (4, true), (5, true), (6, true), (7, true), (8, true)] (Blk2 q (.cells (T.flatMap encB ++ r1).toArray 96 (0, 0)) q2 (.cells (U.flatMap encB ++ r2).toArray 96 (0, 0))) (by kernel_rfl) (by kernel_rfl) (fun d _ _ _ _ h => by cases d <;> exact h) ⟨hq, hq2⟩ ?_
        iterate 2 (apply wpText_take; rfl; rfl; (intro W hS; (try dsimp only at hS); (try (have hS1 := hS.1; have hS2 := hS.2)); go_simp; exact rfl); try simp only [Act.put, List.setIfInBounds_toArray, List.set_cons_succ, List.set_cons_zero])
        apply wpText_take (v := .pointer (some ⟨q, k * 64, none⟩)); rfl; rfl; intro W' hS; refine exec_run (s := Instr.indexAt 85 (.slice (some ⟨q, 0, none⟩) T.length c1) (.int .i64 (k : Nat))) rfl (run_indexRows 85 96 64 q T.length c1 k Try.underlying85 Try.sizeOf96 c)
        try simp only [Act.put, List.setIfInBounds_toArray, List.set_cons_succ, List.set_cons_zero]
        ((with_reducible apply wpText_loadPart 96 (n := 64) (t := 96) (fr := (0, 0)) (L := T.flatMap encB ++ r1) (V := encB s) (hg := Try.isAgg96) (hs := Try.sizeOf96)); rfl; rfl; rfl; rfl; (intro W hS; exact hS.1); exact s2; exact R1.out; try simp only [Act.put, List.setIfInBounds_toArray, List.set_cons_succ, List.set_cons_zero])
        iterate 2 (apply wpText_take; rfl; rfl; (intro W hS; (try dsimp only at hS); (try (have hS1 := hS.1; have hS2 := hS.2)); go_simp; exact rfl); try simp only [Act.put, List.setIfInBounds_toArray, List.set_cons_succ, List.set_cons_zero])
        apply wpText_take (v := .pointer (some ⟨q2, k * 64, none⟩)); rfl; rfl; intro W' hS; refine exec_run (s := Instr.indexAt 85 (.slice (some ⟨q2, 0, none⟩) U.length c2) (.int .i64 (k : Nat))) rfl (run_indexRows 85 96 64 q2 U.length c2 k Try.underlying85 Try.sizeOf96 hcu)
        try simp only [Act.put, List.setIfInBounds_toArray, List.set_cons_succ, List.set_cons_zero]
        ((with_reducible apply wpText_loadPart 96 (n := 64) (t := 96) (fr := (0, 0)) (L := U.flatMap encB ++ r2) (V := encB t) (hg := Try.isAgg96) (hs := Try.sizeOf96)); rfl; rfl; rfl; rfl; (intro W hS; exact hS.2); exact t2; exact R2.out; try simp only [Act.put, List.setIfInBounds_toArray, List.set_cons_succ, List.set_cons_zero])
        generalize hbb : (s == t) = bb at *
        have HBB := Lib.hid hbb
        clear hbb
        (apply wpText_take; rfl; rfl; (intro W hS; (try dsimp only at hS); (try (have hS1 := hS.1; have hS2 := hS.2)); go_simp; exact rfl); try simp only [Act.put, List.setIfInBounds_toArray, List.set_cons_succ, List.set_cons_zero])
        apply wpText_done
        cases bb with
        | true =>
          go_wp2
          have hst : s = t := by simpa using HBB.out
          refine ⟨⟨k + 1, by omega, by simp, fun j hj => ?_, hq, hq2, hk.drew⟩, by simp [intOf]; omega⟩
          by_cases e : j = k
          · subst e; rw [hs0, ht0, hst]
          · exact hal j (by omega)
        | false =>
          go_wp2
          go_ret
          have hst : s ≠ t := by simpa using HBB.out
          have hne : T ≠ U := differ Hlen.out c (by rw [hs0, ht0]; exact hst)
          refine ⟨by simp [hne], hk.drew⟩
      · have d1 : decide ((k : Int) < (T.length : Int)) = false := by rw [decide_eq_false_iff_not]; omega
        go_wp2
        go_ret
        have hTU : T = U := alike Hlen.out (fun j hj => hal j (by omega))
        exact ⟨by simp [hTU], hk⟩
  · have b0 : ((T.length : Int) == (U.length : Int)) = false := by simp; omega
    have hne : T ≠ U := fun e => hlen (by rw [e])
    go_enter Try.func64, Try.ntmps64
    go_wp2
    go_ret
    exact ⟨by simp [hne], Keeps.refl _ _⟩
end Go.Proofs.Ytckopikeegegkaa
