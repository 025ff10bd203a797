/- Texts of one proof, one behind the other: DiskSame, DiskDead, DiskFlushed, DiskCrash. No condition. -/
import Derived.Test.YtckopikeegegkaaGPagePlaysP2
/- DISKSAME: the contract of Same. -/
namespace Go.Proofs.Ytckopikeegegkaa
open Go.RowKit Go.MapKept Go.Shelf
set_option linter.unusedSimpArgs false
set_option linter.unusedVariables false
variable {p q m : Nat} {D : Dk}
theorem run_lenMap {P : Program} {w : World} {m : Nat} {es : Array MapEntry} {clock : Nat} (t k e ty : TypeId) (hu : P.underlying t = some (.map k e)) (hm : w.heap[m]? = some (.map es clock)) : (Builtin.len_ #[t] ty #[.map (some m)]).run P w = .ok (.int .i64 es.size) w := by
  simp [Builtin.len_, run_underlying hu, Go.MapKept.run_getObj_map hm, goInt, Result.andThen]
theorem MapRep.size {es : Array MapEntry} {clock : Nat} {A : List (Nat × Str)} (h : MapRep es clock A) : es.size = A.length := by
  have := h.perm.length_eq
  simpa using this
theorem alikeM {A B : List (Nat × Str)} (hA : A.Pairwise (fun p q => p.1 < q.1)) (hB : B.Pairwise (fun p q => p.1 < q.1)) (hl : A.length = B.length) (h : ∀ x ∈ A, Dk.look x.1 B = some x.2) : A = B := by
  have nA : A.Nodup := (hA.imp (fun {a b} h e => by subst e; omega))
  have sub : ∀ x ∈ A, x ∈ B := fun x hx => look_some (h x hx)
  have back : ∀ x ∈ B, x ∈ A := fun x hx => Decidable.byContradiction fun hn => by
    have h1 : (x :: A).Nodup := List.nodup_cons.2 ⟨hn, nA⟩
    have := nodup_le h1 (fun y hy => by rcases List.mem_cons.1 hy with rfl | hy; exact hx; exact sub y hy)
    simp at this; omega
  have nB : B.Nodup := (hB.imp (fun {a b} h e => by subst e; omega))
  have hp : A.Perm B := (List.perm_ext_iff_of_nodup nA nB).2 (fun x => ⟨sub x, back x⟩)
  exact hp.eq_of_pairwise (fun a b _ _ h1 h2 => by omega) hA hB
set_option maxRecDepth 20000 in
set_option maxHeartbeats 2000000 in
theorem equalM_calls {m2 : Nat} (A B : List (Nat × Str)) (es es2 : Array MapEntry) (clock clock2 : Nat) (w : World) (hA : A.Pairwise (fun p q => p.1 < q.1)) (hB : B.Pairwise (fun p q => p.1 < q.1)) (lA : ∀ x ∈ A, x.2.length = 64) (lB : ∀ x ∈ B, x.2.length = 64)
    (hm : w.heap[m]? = some (.map es clock)) (hR : MapRep es clock A) (hm2 : w.heap[m2]? = some (.map es2 clock2)) (hR2 : MapRep es2 clock2 B) :
    Calls Try.prog 65 #[.map (some m), .map (some m2)] w fun e w' => e = .returned (.bool (decide (A = B))) ∧ Keeps noB w w' := by
  have hn1 := fun ty => run_lenMap (P := Try.prog) 86 3 96 ty Try.underlying86 hm
  have hn2 := fun ty => run_lenMap (P := Try.prog) 86 3 96 ty Try.underlying86 hm2
  rw [hR.size] at hn1
  rw [hR2.size] at hn2
  by_cases hlen : A.length = B.length
  · have b0 : ((A.length : Int) == (B.length : Int)) = true := by rw [hlen]; simp
    have b0' : ((A.length : Int) != (B.length : Int)) = false := by rw [hlen]; simp
    have Hlen := Lib.hid hlen
    clear hlen
    obtain ⟨hrun0, hrg0⟩ := ranging_start (P := Try.prog) 86 3 96 Try.underlying86 hm hR
    go_enter Try.func65, Try.ntmps65
    go_wp2_with fail
    have zw : (w.alloc (.mapIter (some m) clock #[] clock)).heap.size = w.heap.size + 1 := by simp
    have f2 := blk_alloc hm2 (.mapIter (some m) clock #[] clock)
    have hk : Keeps noB w (w.alloc (.mapIter (some m) clock #[] clock)) := (Keeps.refl _ _).alloc _
    clear hn1 hn2 hrun0
    generalize (w.alloc (.mapIter (some m) clock #[] clock)) = W2 at *
    go_loopw [5] (fun _ wr => ∃ done, Ranging wr m w.heap.size A done ∧ (∀ x ∈ A, x.1 ∈ done → Dk.look x.1 B = some x.2) ∧ wr.heap[m2]? = some (.map es2 clock2) ∧ Keeps noB w wr ∧ w.heap.size < wr.heap.size) (fun _ wr => wr.rangeLeft m w.heap.size)
    case atStart => exact ⟨[], hrg0, fun x _ h => by simp at h, f2, hk, by omega⟩
    case round =>
      obtain ⟨done, hrg, hal, f2, hk, zr⟩ := hrel
      rcases ranging_next (P := Try.prog) hrg hA 0 with ⟨hall, hrun⟩ | ⟨n, s, w2, hmem, hnd, hrun, hrg2, hlt, hk2, hsz, hen⟩
      · go_wp2
        go_ret
        have hAB : A = B := alikeM hA hB Hlen.out (fun x hx => hal x hx (hall _ (List.mem_map.2 ⟨x, hx, rfl⟩)))
        exact ⟨by simp [hAB], hk⟩
      · have sl : s.length = 64 := lA _ hmem
        have lm2 := (Array.getElem?_eq_some_iff.1 hm2).1
        have f2' : w2.heap[m2]? = some (.map es2 clock2) := (hk2.block m2 (by omega) (by omega)).trans f2
        have rlt := hrg2.lt
        cases hl : Dk.look n B with
        | none =>
          have Hl := Lib.hid hl; clear hl
          go_wp2_with (first | (with_reducible refine wpl_alloc 96 Z64 rfl zero_sector rfl ?_) | ((with_reducible apply wpl_store_all 96 (n := 64) (vs := encB s) (hs := Try.sizeOf96) (L := Z64) (t := 96)); rfl; rfl; rfl; simp (disch := (first | (simp only [World.size_alloc, World.size_setCell, World.size_drew, size_setRow, heap_drew, heap_drewN]; done) | ((try simp only [World.size_alloc, World.size_setCell, World.size_drew, size_setRow, heap_drew, heap_drewN]); omega))) only [heap_drew, heap_drewN, heap_alloc_ne, heap_alloc_eq, heap_setCell_ne, heap_setRow_ne]; exact (encB_length s).trans sl; exact encB_one _; exact Z64_length; rfl; simp (disch := (first | (simp only [World.size_alloc, World.size_setCell, World.size_drew, size_setRow, heap_drew, heap_drewN]; done) | ((try simp only [World.size_alloc, World.size_setCell, World.size_drew, size_setRow, heap_drew, heap_drewN]); omega))) only [setRow_alloc_top, setRow_alloc_under]) | ((with_reducible apply wpl_lookup_none (m := m2) (hR := hR2) (hr := hB) (hl := Hl.out)); rfl; rfl; rfl; (simp (disch := (first | (simp only [World.size_alloc, World.size_setCell, World.size_drew, size_setRow, heap_drew, heap_drewN]; done) | ((try simp only [World.size_alloc, World.size_setCell, World.size_drew, size_setRow, heap_drew, heap_drewN]); omega))) only [heap_drew, heap_drewN, heap_alloc_ne, heap_alloc_eq, heap_setCell_ne, heap_setRow_ne]; exact f2'); rfl) | ((with_reducible apply wpl_store_all 96 (n := 64) (vs := Z64) (hs := Try.sizeOf96) (L := Z64) (t := 96)); rfl; rfl; rfl; simp (disch := (first | (simp only [World.size_alloc, World.size_setCell, World.size_drew, size_setRow, heap_drew, heap_drewN]; done) | ((try simp only [World.size_alloc, World.size_setCell, World.size_drew, size_setRow, heap_drew, heap_drewN]); omega))) only [heap_drew, heap_drewN, heap_alloc_ne, heap_alloc_eq, heap_setCell_ne, heap_setRow_ne]; exact Z64_length; exact encB_one _; exact Z64_length; rfl; simp (disch := (first | (simp only [World.size_alloc, World.size_setCell, World.size_drew, size_setRow, heap_drew, heap_drewN]; done) | ((try simp only [World.size_alloc, World.size_setCell, World.size_drew, size_setRow, heap_drew, heap_drewN]); omega))) only [setRow_alloc_top, setRow_alloc_under]))
          go_ret
          have hne : A ≠ B := fun e => by subst e; have := Hl.out; rw [look_mem hA hmem] at this; cases this
          exact ⟨by simp [hne], ((hk.trans_new hk2 (fun k hk e => by omega)).alloc _).alloc _⟩
        | some t =>
          have lt : t.length = 64 := lB _ (look_some hl)
          have heq := fun W => run_eq_sector (W := W) sl lt
          have Hl := Lib.hid hl; clear hl
          generalize hbb : (s == t) = bb at *
          have HBB := Lib.hid hbb
          clear hbb
          cases bb with
          | true =>
            go_wp2_with (first | (with_reducible refine wpl_alloc 96 Z64 rfl zero_sector rfl ?_) | ((with_reducible apply wpl_store_all 96 (n := 64) (vs := encB s) (hs := Try.sizeOf96) (L := Z64) (t := 96)); rfl; rfl; rfl; simp (disch := (first | (simp only [World.size_alloc, World.size_setCell, World.size_drew, size_setRow, heap_drew, heap_drewN]; done) | ((try simp only [World.size_alloc, World.size_setCell, World.size_drew, size_setRow, heap_drew, heap_drewN]); omega))) only [heap_drew, heap_drewN, heap_alloc_ne, heap_alloc_eq, heap_setCell_ne, heap_setRow_ne]; exact (encB_length s).trans sl; exact encB_one _; exact Z64_length; rfl; simp (disch := (first | (simp only [World.size_alloc, World.size_setCell, World.size_drew, size_setRow, heap_drew, heap_drewN]; done) | ((try simp only [World.size_alloc, World.size_setCell, World.size_drew, size_setRow, heap_drew, heap_drewN]); omega))) only [setRow_alloc_top, setRow_alloc_under]) | ((with_reducible apply wpl_lookup_some (m := m2) (hR := hR2) (hr := hB) (hl := Hl.out)); rfl; rfl; rfl; (simp (disch := (first | (simp only [World.size_alloc, World.size_setCell, World.size_drew, size_setRow, heap_drew, heap_drewN]; done) | ((try simp only [World.size_alloc, World.size_setCell, World.size_drew, size_setRow, heap_drew, heap_drewN]); omega))) only [heap_drew, heap_drewN, heap_alloc_ne, heap_alloc_eq, heap_setCell_ne, heap_setRow_ne]; exact f2'); rfl) | ((with_reducible apply wpl_store_all 96 (n := 64) (vs := encB t) (hs := Try.sizeOf96) (L := Z64) (t := 96)); rfl; rfl; rfl; simp (disch := (first | (simp only [World.size_alloc, World.size_setCell, World.size_drew, size_setRow, heap_drew, heap_drewN]; done) | ((try simp only [World.size_alloc, World.size_setCell, World.size_drew, size_setRow, heap_drew, heap_drewN]); omega))) only [heap_drew, heap_drewN, heap_alloc_ne, heap_alloc_eq, heap_setCell_ne, heap_setRow_ne]; exact (encB_length t).trans lt; exact encB_one _; exact Z64_length; rfl; simp (disch := (first | (simp only [World.size_alloc, World.size_setCell, World.size_drew, size_setRow, heap_drew, heap_drewN]; done) | ((try simp only [World.size_alloc, World.size_setCell, World.size_drew, size_setRow, heap_drew, heap_drewN]); omega))) only [setRow_alloc_top, setRow_alloc_under]) | ((with_reducible apply wplg_load_all 96 (n := 64) (hg := Try.isAgg96) (hs := Try.sizeOf96) (L := encB s) (t := 96) (fr := (0, 0))); rfl; rfl; (simp (disch := (first | (simp only [World.size_alloc, World.size_setCell, World.size_drew, size_setRow, heap_drew, heap_drewN]; done) | ((try simp only [World.size_alloc, World.size_setCell, World.size_drew, size_setRow, heap_drew, heap_drewN]); omega))) only [heap_drew, heap_drewN, heap_alloc_ne, heap_alloc_eq, heap_setCell_ne, heap_setRow_ne]); exact (encB_length s).trans sl; rfl) | ((with_reducible apply wplg_load_all 96 (n := 64) (hg := Try.isAgg96) (hs := Try.sizeOf96) (L := encB t) (t := 96) (fr := (0, 0))); rfl; rfl; (simp (disch := (first | (simp only [World.size_alloc, World.size_setCell, World.size_drew, size_setRow, heap_drew, heap_drewN]; done) | ((try simp only [World.size_alloc, World.size_setCell, World.size_drew, size_setRow, heap_drew, heap_drewN]); omega))) only [heap_drew, heap_drewN, heap_alloc_ne, heap_alloc_eq, heap_setCell_ne, heap_setRow_ne]); exact (encB_length t).trans lt; rfl))
            have k3 : Keeps noB w ((w2.alloc (.cells (encB s).toArray 96)).alloc (.cells (encB t).toArray 96)) := ((hk.trans_new hk2 (fun k hk e => by omega)).alloc _).alloc _
            have hst : s = t := by simpa using HBB.out
            refine ⟨⟨done ++ [n], (hrg2.same (heap_alloc_ne _ _ _ (by omega)) (heap_alloc_ne _ _ _ (by omega))).same (heap_alloc_ne _ _ _ (by simp; omega)) (heap_alloc_ne _ _ _ (by simp; omega)), fun x hx hd => ?_, blk_alloc (blk_alloc f2' _) _, k3, by simp; omega⟩, ?_⟩
            · rcases List.mem_append.1 hd with hd | hd
              · exact hal x hx hd
              · simp at hd
                have : x = (n, s) := rises_inj hA hx hmem hd
                subst this
                rw [Hl.out, hst]
            · rw [rangeLeft_same (heap_alloc_ne _ _ _ (by simp; omega)) (heap_alloc_ne _ _ _ (by simp; omega)), rangeLeft_same (heap_alloc_ne _ _ _ (by omega)) (heap_alloc_ne _ _ _ (by omega))]
              exact hlt
          | false =>
            go_wp2_with (first | (with_reducible refine wpl_alloc 96 Z64 rfl zero_sector rfl ?_) | ((with_reducible apply wpl_store_all 96 (n := 64) (vs := encB s) (hs := Try.sizeOf96) (L := Z64) (t := 96)); rfl; rfl; rfl; simp (disch := (first | (simp only [World.size_alloc, World.size_setCell, World.size_drew, size_setRow, heap_drew, heap_drewN]; done) | ((try simp only [World.size_alloc, World.size_setCell, World.size_drew, size_setRow, heap_drew, heap_drewN]); omega))) only [heap_drew, heap_drewN, heap_alloc_ne, heap_alloc_eq, heap_setCell_ne, heap_setRow_ne]; exact (encB_length s).trans sl; exact encB_one _; exact Z64_length; rfl; simp (disch := (first | (simp only [World.size_alloc, World.size_setCell, World.size_drew, size_setRow, heap_drew, heap_drewN]; done) | ((try simp only [World.size_alloc, World.size_setCell, World.size_drew, size_setRow, heap_drew, heap_drewN]); omega))) only [setRow_alloc_top, setRow_alloc_under]) | ((with_reducible apply wpl_lookup_some (m := m2) (hR := hR2) (hr := hB) (hl := Hl.out)); rfl; rfl; rfl; (simp (disch := (first | (simp only [World.size_alloc, World.size_setCell, World.size_drew, size_setRow, heap_drew, heap_drewN]; done) | ((try simp only [World.size_alloc, World.size_setCell, World.size_drew, size_setRow, heap_drew, heap_drewN]); omega))) only [heap_drew, heap_drewN, heap_alloc_ne, heap_alloc_eq, heap_setCell_ne, heap_setRow_ne]; exact f2'); rfl) | ((with_reducible apply wpl_store_all 96 (n := 64) (vs := encB t) (hs := Try.sizeOf96) (L := Z64) (t := 96)); rfl; rfl; rfl; simp (disch := (first | (simp only [World.size_alloc, World.size_setCell, World.size_drew, size_setRow, heap_drew, heap_drewN]; done) | ((try simp only [World.size_alloc, World.size_setCell, World.size_drew, size_setRow, heap_drew, heap_drewN]); omega))) only [heap_drew, heap_drewN, heap_alloc_ne, heap_alloc_eq, heap_setCell_ne, heap_setRow_ne]; exact (encB_length t).trans lt; exact encB_one _; exact Z64_length; rfl; simp (disch := (first | (simp only [World.size_alloc, World.size_setCell, World.size_drew, size_setRow, heap_drew, heap_drewN]; done) | ((try simp only [World.size_alloc, World.size_setCell, World.size_drew, size_setRow, heap_drew, heap_drewN]); omega))) only [setRow_alloc_top, setRow_alloc_under]) | ((with_reducible apply wplg_load_all 96 (n := 64) (hg := Try.isAgg96) (hs := Try.sizeOf96) (L := encB s) (t := 96) (fr := (0, 0))); rfl; rfl; (simp (disch := (first | (simp only [World.size_alloc, World.size_setCell, World.size_drew, size_setRow, heap_drew, heap_drewN]; done) | ((try simp only [World.size_alloc, World.size_setCell, World.size_drew, size_setRow, heap_drew, heap_drewN]); omega))) only [heap_drew, heap_drewN, heap_alloc_ne, heap_alloc_eq, heap_setCell_ne, heap_setRow_ne]); exact (encB_length s).trans sl; rfl) | ((with_reducible apply wplg_load_all 96 (n := 64) (hg := Try.isAgg96) (hs := Try.sizeOf96) (L := encB t) (t := 96) (fr := (0, 0))); rfl; rfl; (simp (disch := (first | (simp only [World.size_alloc, World.size_setCell, World.size_drew, size_setRow, heap_drew, heap_drewN]; done) | ((try simp only [World.size_alloc, World.size_setCell, World.size_drew, size_setRow, heap_drew, heap_drewN]); omega))) only [heap_drew, heap_drewN, heap_alloc_ne, heap_alloc_eq, heap_setCell_ne, heap_setRow_ne]); exact (encB_length t).trans lt; rfl))
            go_ret
            have hst : s ≠ t := by simpa using HBB.out
            have hne : A ≠ B := fun e => by
              subst e
              have := Hl.out
              rw [look_mem hA hmem] at this
              exact hst (by simpa using this)
            exact ⟨by simp [hne], ((hk.trans_new hk2 (fun k hk e => by omega)).alloc _).alloc _⟩

  · have b0 : ((A.length : Int) == (B.length : Int)) = false := by simp; omega
    have hne : A ≠ B := fun e => hlen (by rw [e])
    go_enter Try.func65, Try.ntmps65
    go_wp2
    go_ret
    exact ⟨by simp [hne], Keeps.refl _ _⟩
theorem dk_ext {D E : Dk} (h1 : D.there = E.there) (h2 : D.aside = E.aside) (h3 : D.left = E.left) : D = E := by cases D; cases E; simp_all
set_option maxRecDepth 20000 in
set_option maxHeartbeats 2000000 in
theorem same_nil (w : World) : Calls Try.prog 38 #[.pointer none, .pointer none] w fun e w' => e = .returned (.bool true) ∧ w = w' := by
  go_enter Try.func38, Try.ntmps38
  go_wp2
  go_ret
  exact ⟨rfl, rfl⟩
set_option maxRecDepth 20000 in
set_option maxHeartbeats 2000000 in
theorem same_one (a : Addr) (w : World) : Calls Try.prog 38 #[.pointer (some a), .pointer none] w fun e w' => e = .returned (.bool false) ∧ w = w' := by
  go_enter Try.func38, Try.ntmps38
  go_wp2
  go_ret
  exact ⟨rfl, rfl⟩
set_option maxRecDepth 20000 in
set_option maxHeartbeats 2000000 in
theorem same_calls {p2 q2 m2 : Nat} {E : Dk} (w : World) (h : DiskAt w p q m D) (h2 : DiskAt w p2 q2 m2 E) : Calls Try.prog 38 #[.pointer (some ⟨p, 0, none⟩), .pointer (some ⟨p2, 0, none⟩)] w fun e w' => ∃ b : Bool, e = .returned (.bool b) ∧ (b = true ↔ D = E) ∧ Keeps noB w w' := by
  obtain ⟨cap, hc, hs⟩ := h.strct
  obtain ⟨rest, hrow⟩ := h.row
  obtain ⟨es, clock, hm, hR⟩ := h.kept
  obtain ⟨cap2, hc2, hs2⟩ := h2.strct
  obtain ⟨rest2, hrow2⟩ := h2.row
  obtain ⟨es2, clock2, hm2, hR2⟩ := h2.kept
  have wf := h.wf
  have wf2 := h2.wf
  have cS := fun W f1 f2 => equalS_calls (q := q) (q2 := q2) D.there E.there cap cap2 rest rest2 W wf.there wf2.there wf.small wf2.small f1 f2
  have cM := fun W f1 f2 => equalM_calls (m := m) (m2 := m2) D.aside E.aside es es2 clock clock2 W wf.rises wf2.rises (fun x hx => (wf.aside x hx).2) (fun x hx => (wf2.aside x hx).2) f1 hR f2 hR2
  by_cases hl : D.left = E.left
  · have bl : (D.left == E.left) = true := by simpa using hl
    have Hl := Lib.hid hl; clear hl
    by_cases ht : D.there = E.there
    · have bt : decide (D.there = E.there) = true := by simpa using ht
      have Ht := Lib.hid ht; clear ht
      simp only [bt] at cS
      generalize hba : decide (D.aside = E.aside) = ba at *
      have HBA := Lib.hid hba; clear hba
      go_enter Try.func38, Try.ntmps38
      go_wp2_with fail
      refine wp_region_text [(0, true), (1, true), (2, true), (3, true), (4, true), (5, true), (6, true), (7, true), (8, true), (9, true), (10, true), (11, true), (12, true), (13, true), (14, true), (15, true), (16, true), (17, true), (18, false), (19, true), (20, true), (21, true), (22, true), (23, true), (24, true), (25, true), (26, true), (27, true), (28, true), (29, false), (30, true), (31, true)] (Blk2 p (.cells #[.slice (some ⟨q, 0, none⟩) D.there.length cap, .map (some m), .int .i64 D.left] 88) p2 (.cells #[.slice (some ⟨q2, 0, none⟩) E.there.length cap2, .map (some m2), .int .i64 E.left] 88)) (by kernel_rfl) (by kernel_rfl) (fun d _ _ _ _ h => by cases d <;> exact h) ⟨hs, hs2⟩ ?_
      (repeat (first | (apply wpText_take; rfl; rfl; (intro W hS; have a0 := cell_blk hS.1 0 _ rfl; have a1 := cell_blk hS.1 1 _ rfl; have a2 := cell_blk hS.1 2 _ rfl; have b0 := cell_blk hS.2 0 _ rfl; have b1 := cell_blk hS.2 1 _ rfl; have b2 := cell_blk hS.2 2 _ rfl; go_simp; exact rfl); try simp only [Act.put, List.setIfInBounds_toArray, List.set_cons_succ, List.set_cons_zero]) | (apply wpText_takeG; rfl; rfl; (intro W hS; have a0 := cell_blk hS.1 0 _ rfl; have a1 := cell_blk hS.1 1 _ rfl; have a2 := cell_blk hS.1 2 _ rfl; have b0 := cell_blk hS.2 0 _ rfl; have b1 := cell_blk hS.2 1 _ rfl; have b2 := cell_blk hS.2 2 _ rfl; go_simp; exact rfl); try simp only [Act.put, List.setIfInBounds_toArray, List.set_cons_succ, List.set_cons_zero]) | (apply wpText_skip; rfl; rfl; try simp only [Act.put, List.setIfInBounds_toArray, List.set_cons_succ, List.set_cons_zero])))
      apply wpText_goL; rfl; intro K hK
      go_wp2_with (go_at_call 64; (refine (cS w.drew hrow hrow2).mono ?_); rintro e W1 ⟨rfl, k1⟩)
      have hs1 := carry k1 hs (fun q => q)
      have hs3 := carry k1 hs2 (fun q => q)
      have hm1 := carry k1 hm (fun q => q)
      have hm3 := carry k1 hm2 (fun q => q)
      refine hK _ _ ⟨hs1, hs3⟩ ?_
      clear hK K
      (repeat (first | (apply wpText_take; rfl; rfl; (intro W hS; have a0 := cell_blk hS.1 0 _ rfl; have a1 := cell_blk hS.1 1 _ rfl; have a2 := cell_blk hS.1 2 _ rfl; have b0 := cell_blk hS.2 0 _ rfl; have b1 := cell_blk hS.2 1 _ rfl; have b2 := cell_blk hS.2 2 _ rfl; go_simp; exact rfl); try simp only [Act.put, List.setIfInBounds_toArray, List.set_cons_succ, List.set_cons_zero]) | (apply wpText_takeG; rfl; rfl; (intro W hS; have a0 := cell_blk hS.1 0 _ rfl; have a1 := cell_blk hS.1 1 _ rfl; have a2 := cell_blk hS.1 2 _ rfl; have b0 := cell_blk hS.2 0 _ rfl; have b1 := cell_blk hS.2 1 _ rfl; have b2 := cell_blk hS.2 2 _ rfl; go_simp; exact rfl); try simp only [Act.put, List.setIfInBounds_toArray, List.set_cons_succ, List.set_cons_zero]) | (apply wpText_skip; rfl; rfl; try simp only [Act.put, List.setIfInBounds_toArray, List.set_cons_succ, List.set_cons_zero])))
      apply wpText_goL; rfl; intro K hK
      go_wp2_with (go_at_call 65; (refine (cM _ hm1 hm3).mono ?_); rintro e W2 ⟨rfl, k2⟩)
      refine hK _ _ ⟨carry k2 hs1 (fun q => q), carry k2 hs3 (fun q => q)⟩ ?_
      clear hK K
      (repeat (first | (apply wpText_take; rfl; rfl; (intro W hS; have a0 := cell_blk hS.1 0 _ rfl; have a1 := cell_blk hS.1 1 _ rfl; have a2 := cell_blk hS.1 2 _ rfl; have b0 := cell_blk hS.2 0 _ rfl; have b1 := cell_blk hS.2 1 _ rfl; have b2 := cell_blk hS.2 2 _ rfl; go_simp; exact rfl); try simp only [Act.put, List.setIfInBounds_toArray, List.set_cons_succ, List.set_cons_zero]) | (apply wpText_takeG; rfl; rfl; (intro W hS; have a0 := cell_blk hS.1 0 _ rfl; have a1 := cell_blk hS.1 1 _ rfl; have a2 := cell_blk hS.1 2 _ rfl; have b0 := cell_blk hS.2 0 _ rfl; have b1 := cell_blk hS.2 1 _ rfl; have b2 := cell_blk hS.2 2 _ rfl; go_simp; exact rfl); try simp only [Act.put, List.setIfInBounds_toArray, List.set_cons_succ, List.set_cons_zero]) | (apply wpText_skip; rfl; rfl; try simp only [Act.put, List.setIfInBounds_toArray, List.set_cons_succ, List.set_cons_zero])))
      apply wpText_done
      go_wp2
      go_ret
      exact ⟨ba, rfl, ⟨fun e => dk_ext Ht.out (by have := HBA.out; rw [e] at this; simpa using this) Hl.out, fun e => by rw [← HBA.out, e]; simp⟩, Keeps.trans ((Keeps.refl noB w).drew.trans k1) k2⟩
    · have bt : decide (D.there = E.there) = false := by simpa using ht
      have hne : D ≠ E := fun e => ht (by rw [e])
      clear ht
      simp only [bt] at cS
      have Hne := Lib.hid hne; clear hne
      go_enter Try.func38, Try.ntmps38
      go_wp2_with fail
      refine wp_region_text [(0, true), (1, true), (2, true), (3, true), (4, true), (5, true), (6, true), (7, true), (8, true), (9, true), (10, true), (11, true), (12, true), (13, true), (14, true), (15, true), (16, true), (17, true), (18, false), (19, true), (20, true), (21, true), (22, true), (23, true), (24, true), (25, true), (26, true), (27, true), (28, true), (29, false), (30, true), (31, true)] (Blk2 p (.cells #[.slice (some ⟨q, 0, none⟩) D.there.length cap, .map (some m), .int .i64 D.left] 88) p2 (.cells #[.slice (some ⟨q2, 0, none⟩) E.there.length cap2, .map (some m2), .int .i64 E.left] 88)) (by kernel_rfl) (by kernel_rfl) (fun d _ _ _ _ h => by cases d <;> exact h) ⟨hs, hs2⟩ ?_
      (repeat (first | (apply wpText_take; rfl; rfl; (intro W hS; have a0 := cell_blk hS.1 0 _ rfl; have a1 := cell_blk hS.1 1 _ rfl; have a2 := cell_blk hS.1 2 _ rfl; have b0 := cell_blk hS.2 0 _ rfl; have b1 := cell_blk hS.2 1 _ rfl; have b2 := cell_blk hS.2 2 _ rfl; go_simp; exact rfl); try simp only [Act.put, List.setIfInBounds_toArray, List.set_cons_succ, List.set_cons_zero]) | (apply wpText_takeG; rfl; rfl; (intro W hS; have a0 := cell_blk hS.1 0 _ rfl; have a1 := cell_blk hS.1 1 _ rfl; have a2 := cell_blk hS.1 2 _ rfl; have b0 := cell_blk hS.2 0 _ rfl; have b1 := cell_blk hS.2 1 _ rfl; have b2 := cell_blk hS.2 2 _ rfl; go_simp; exact rfl); try simp only [Act.put, List.setIfInBounds_toArray, List.set_cons_succ, List.set_cons_zero]) | (apply wpText_skip; rfl; rfl; try simp only [Act.put, List.setIfInBounds_toArray, List.set_cons_succ, List.set_cons_zero])))
      apply wpText_goL; rfl; intro K hK
      go_wp2_with (go_at_call 64; (refine (cS w.drew hrow hrow2).mono ?_); rintro e W1 ⟨rfl, k1⟩)
      have hs1 := carry k1 hs (fun q => q)
      have hs3 := carry k1 hs2 (fun q => q)
      refine hK _ _ ⟨hs1, hs3⟩ ?_
      clear hK K
      (repeat (first | (apply wpText_take; rfl; rfl; (intro W hS; have a0 := cell_blk hS.1 0 _ rfl; have a1 := cell_blk hS.1 1 _ rfl; have a2 := cell_blk hS.1 2 _ rfl; have b0 := cell_blk hS.2 0 _ rfl; have b1 := cell_blk hS.2 1 _ rfl; have b2 := cell_blk hS.2 2 _ rfl; go_simp; exact rfl); try simp only [Act.put, List.setIfInBounds_toArray, List.set_cons_succ, List.set_cons_zero]) | (apply wpText_takeG; rfl; rfl; (intro W hS; have a0 := cell_blk hS.1 0 _ rfl; have a1 := cell_blk hS.1 1 _ rfl; have a2 := cell_blk hS.1 2 _ rfl; have b0 := cell_blk hS.2 0 _ rfl; have b1 := cell_blk hS.2 1 _ rfl; have b2 := cell_blk hS.2 2 _ rfl; go_simp; exact rfl); try simp only [Act.put, List.setIfInBounds_toArray, List.set_cons_succ, List.set_cons_zero]) | (apply wpText_skip; rfl; rfl; try simp only [Act.put, List.setIfInBounds_toArray, List.set_cons_succ, List.set_cons_zero])))
      apply wpText_skipF; rfl; rfl; exact ⟨hs1, hs3⟩; try simp only [Act.put, List.setIfInBounds_toArray, List.set_cons_succ, List.set_cons_zero]
      (repeat (first | (apply wpText_take; rfl; rfl; (intro W hS; have a0 := cell_blk hS.1 0 _ rfl; have a1 := cell_blk hS.1 1 _ rfl; have a2 := cell_blk hS.1 2 _ rfl; have b0 := cell_blk hS.2 0 _ rfl; have b1 := cell_blk hS.2 1 _ rfl; have b2 := cell_blk hS.2 2 _ rfl; go_simp; exact rfl); try simp only [Act.put, List.setIfInBounds_toArray, List.set_cons_succ, List.set_cons_zero]) | (apply wpText_takeG; rfl; rfl; (intro W hS; have a0 := cell_blk hS.1 0 _ rfl; have a1 := cell_blk hS.1 1 _ rfl; have a2 := cell_blk hS.1 2 _ rfl; have b0 := cell_blk hS.2 0 _ rfl; have b1 := cell_blk hS.2 1 _ rfl; have b2 := cell_blk hS.2 2 _ rfl; go_simp; exact rfl); try simp only [Act.put, List.setIfInBounds_toArray, List.set_cons_succ, List.set_cons_zero]) | (apply wpText_skip; rfl; rfl; try simp only [Act.put, List.setIfInBounds_toArray, List.set_cons_succ, List.set_cons_zero])))
      apply wpText_done
      go_wp2
      go_ret
      exact ⟨false, rfl, ⟨(fun e => by cases e), fun e => absurd e Hne.out⟩, (Keeps.refl noB w).drew.trans k1⟩
  · have bl : (D.left == E.left) = false := by simpa using hl
    have hne : D ≠ E := fun e => hl (by rw [e])
    clear hl
    have Hne := Lib.hid hne; clear hne
    go_enter Try.func38, Try.ntmps38
    go_wp2_with fail
    refine wp_region_text [(0, true), (1, true), (2, true), (3, true), (4, true), (5, true), (6, true), (7, true), (8, true), (9, true), (10, true), (11, true), (12, true), (13, true), (14, true), (15, true), (16, true), (17, true), (18, false), (19, true), (20, true), (21, true), (22, true), (23, true), (24, true), (25, true), (26, true), (27, true), (28, true), (29, false), (30, true), (31, true)] (Blk2 p (.cells #[.slice (some ⟨q, 0, none⟩) D.there.length cap, .map (some m), .int .i64 D.left] 88) p2 (.cells #[.slice (some ⟨q2, 0, none⟩) E.there.length cap2, .map (some m2), .int .i64 E.left] 88)) (by kernel_rfl) (by kernel_rfl) (fun d _ _ _ _ h => by cases d <;> exact h) ⟨hs, hs2⟩ ?_
    (repeat (first | (apply wpText_take; rfl; rfl; (intro W hS; have a0 := cell_blk hS.1 0 _ rfl; have a1 := cell_blk hS.1 1 _ rfl; have a2 := cell_blk hS.1 2 _ rfl; have b0 := cell_blk hS.2 0 _ rfl; have b1 := cell_blk hS.2 1 _ rfl; have b2 := cell_blk hS.2 2 _ rfl; go_simp; exact rfl); try simp only [Act.put, List.setIfInBounds_toArray, List.set_cons_succ, List.set_cons_zero]) | (apply wpText_takeG; rfl; rfl; (intro W hS; have a0 := cell_blk hS.1 0 _ rfl; have a1 := cell_blk hS.1 1 _ rfl; have a2 := cell_blk hS.1 2 _ rfl; have b0 := cell_blk hS.2 0 _ rfl; have b1 := cell_blk hS.2 1 _ rfl; have b2 := cell_blk hS.2 2 _ rfl; go_simp; exact rfl); try simp only [Act.put, List.setIfInBounds_toArray, List.set_cons_succ, List.set_cons_zero]) | (apply wpText_skip; rfl; rfl; try simp only [Act.put, List.setIfInBounds_toArray, List.set_cons_succ, List.set_cons_zero])))
    apply wpText_skipF; rfl; rfl; exact ⟨hs, hs2⟩; try simp only [Act.put, List.setIfInBounds_toArray, List.set_cons_succ, List.set_cons_zero]
    (repeat (first | (apply wpText_take; rfl; rfl; (intro W hS; have a0 := cell_blk hS.1 0 _ rfl; have a1 := cell_blk hS.1 1 _ rfl; have a2 := cell_blk hS.1 2 _ rfl; have b0 := cell_blk hS.2 0 _ rfl; have b1 := cell_blk hS.2 1 _ rfl; have b2 := cell_blk hS.2 2 _ rfl; go_simp; exact rfl); try simp only [Act.put, List.setIfInBounds_toArray, List.set_cons_succ, List.set_cons_zero]) | (apply wpText_takeG; rfl; rfl; (intro W hS; have a0 := cell_blk hS.1 0 _ rfl; have a1 := cell_blk hS.1 1 _ rfl; have a2 := cell_blk hS.1 2 _ rfl; have b0 := cell_blk hS.2 0 _ rfl; have b1 := cell_blk hS.2 1 _ rfl; have b2 := cell_blk hS.2 2 _ rfl; go_simp; exact rfl); try simp only [Act.put, List.setIfInBounds_toArray, List.set_cons_succ, List.set_cons_zero]) | (apply wpText_skip; rfl; rfl; try simp only [Act.put, List.setIfInBounds_toArray, List.set_cons_succ, List.set_cons_zero])))
    apply wpText_skipF; rfl; rfl; exact ⟨hs, hs2⟩; try simp only [Act.put, List.setIfInBounds_toArray, List.set_cons_succ, List.set_cons_zero]
    (repeat (first | (apply wpText_take; rfl; rfl; (intro W hS; have a0 := cell_blk hS.1 0 _ rfl; have a1 := cell_blk hS.1 1 _ rfl; have a2 := cell_blk hS.1 2 _ rfl; have b0 := cell_blk hS.2 0 _ rfl; have b1 := cell_blk hS.2 1 _ rfl; have b2 := cell_blk hS.2 2 _ rfl; go_simp; exact rfl); try simp only [Act.put, List.setIfInBounds_toArray, List.set_cons_succ, List.set_cons_zero]) | (apply wpText_takeG; rfl; rfl; (intro W hS; have a0 := cell_blk hS.1 0 _ rfl; have a1 := cell_blk hS.1 1 _ rfl; have a2 := cell_blk hS.1 2 _ rfl; have b0 := cell_blk hS.2 0 _ rfl; have b1 := cell_blk hS.2 1 _ rfl; have b2 := cell_blk hS.2 2 _ rfl; go_simp; exact rfl); try simp only [Act.put, List.setIfInBounds_toArray, List.set_cons_succ, List.set_cons_zero]) | (apply wpText_skip; rfl; rfl; try simp only [Act.put, List.setIfInBounds_toArray, List.set_cons_succ, List.set_cons_zero])))
    apply wpText_done
    go_wp2
    go_ret
    exact ⟨false, rfl, ⟨(fun e => by cases e), fun e => absurd e Hne.out⟩, (Keeps.refl noB w).drew⟩
end Go.Proofs.Ytckopikeegegkaa
/- DISKDEAD: the walk of the law. -/
namespace Go.Proofs.Ytckopikeegegkaa
open Go.RowKit Go.MapKept Go.Shelf
set_option linter.unusedSimpArgs false
set_option linter.unusedVariables false
def fuseE (f : Int) : Int := IntKind.u64.wrap f % 20
theorem fuseE_bounds (f : Int) : 0 ≤ fuseE f ∧ fuseE f ≤ 19 := by unfold fuseE; omega
set_option maxRecDepth 20000 in
set_option maxHeartbeats 20000000 in
theorem diskDead_walk (sectors fuse : Int) (sv : Value) (l : List Stp) (w : World) (hs : StepsAt w sv l) (hl : l.length ≤ maxLen) (hok : ∀ x ∈ l, StpOk x) :
    Calls Try.prog 9 #[.int .i64 sectors, sv, .int .i64 fuse] w fun e w' => e = .returned (.bool true) ∧ Keeps noB w w' := by
  have hw := fun W => works_calls W
  have hlg := fun W h => large_calls sv l W h hl
  obtain ⟨ad, cap, rfl⟩ := hs.form
  have hm : (l.length : Int) ≤ 9223372036854775807 := by unfold maxLen at hl; omega
  by_cases hc : 60 < sectors
  · have d0 : decide (60 < sectors) = true := by simpa using hc
    go_enter Try.func9, Try.ntmps9
    go_wp2_with (first | (go_at_call 23; refine (hlg _ (hs.keep q1)).mono ?_; rintro e W2 ⟨rfl | rfl, q2⟩) | (go_at_call 22; refine (hw _).mono ?_; first | (rintro e W3 ⟨rfl, q3⟩; have q2' := q2) | rintro e W1 ⟨rfl, q1⟩))
    all_goals go_ret
    all_goals exact ⟨rfl, by first | exact (q1.trans q2).trans q3 | exact q1.trans q3⟩
  · have d0 : decide (60 < sectors) = false := by simpa using hc
    by_cases hc1 : sectors < 1
    · have hn := fun W => new_bad sectors W (make_none hc1)
      go_enter Try.func9, Try.ntmps9
      go_wp2_with (first | (first | (go_at_call 23; refine (hlg _ (hs.keep q1)).mono ?_; rintro e W2 ⟨rfl | rfl, q2⟩) | (go_at_call 22; refine (hw _).mono ?_; first | (rintro e W3 ⟨rfl, q3⟩; have q2' := q2) | rintro e W1 ⟨rfl, q1⟩)) | (go_at_call 16; refine (hn _).mono ?_; rintro e W3 ⟨rfl, rfl⟩))
      all_goals go_ret
      all_goals exact ⟨rfl, by first | exact (q1.trans q2).trans q3 | exact q1.trans q2⟩
    · have hmk := make_some (n := sectors) (by omega) (by omega)
      have hz0 : (Dk.zero sectors.toNat).left = -1 := rfl
      generalize Dk.zero sectors.toNat = D0 at *
      have fb := fuseE_bounds fuse
      have ce2 : (IntKind.u64.wrap fuse).tmod 20 = fuseE fuse := by
        have u : 0 ≤ IntKind.u64.wrap fuse := by rw [IntKind.wrap_u64]; omega
        rw [Int.tmod_eq_emod_of_nonneg u]; rfl
      have ce3 : wrap64 (fuseE fuse) = fuseE fuse := IntWalk.wrap64_in _ (by omega)
      have e1 : D0.fuse (fuseE fuse) = (0, { D0 with left := fuseE fuse }) := by unfold Dk.fuse; rw [if_neg (by omega), if_neg (by omega)]
      have hl1 : ({ D0 with left := fuseE fuse } : Dk).left = fuseE fuse := rfl
      generalize ({ D0 with left := fuseE fuse } : Dk) = D1 at *
      generalize fuseE fuse = fe at *
      have z0 : 0 ≤ w.heap.size := Nat.zero_le _
      go_enter Try.func9, Try.ntmps9
      go_wp2_with (first | (first | (go_at_call 23; refine (hlg _ (hs.keep q1)).mono ?_; rintro e W2 ⟨rfl | rfl, q2⟩) | (go_at_call 22; refine (hw _).mono ?_; first | (rintro e W3 ⟨rfl, q3⟩; have q2' := q2) | rintro e W1 ⟨rfl, q1⟩)) | (go_at_call 16; (refine (dNew hmk).mono ?_); rintro e W3 ⟨p, q, j, rfl, hA, q3, lp, lq, lm⟩; have z1 := q1.size; have z2 := q2.size; replace lp : w.heap.size ≤ p := (by omega); replace lq : w.heap.size ≤ q := (by omega); replace lm : w.heap.size ≤ j := (by omega); have hk := (q1.trans q2).trans q3; have hz : 0 ≤ W3.heap.size := Nat.zero_le _; clear q1 q2 q3 z1 z2 hw hlg) | (go_at_call 35; (with_reducible refine (dFuse (by first | exact hA | exact hA.alloc _ | exact (hA.alloc _).alloc _ | exact hA.drew | exact hA.drew.alloc _ | exact (hA.alloc _).drew | exact ((hA.alloc _).alloc _).drew) (by omega) e1).mono ?_); rintro e Wx ⟨rfl, hx, kx⟩; skip; have zx := kx.size; (try simp only [World.size_alloc, World.size_drew] at zx); skip; replace hk := Keeps.trans_new (by first | exact hk | exact hk.alloc _ | exact (hk.alloc _).alloc _ | exact hk.drew | exact hk.drew.alloc _ | exact (hk.alloc _).drew | exact ((hk.alloc _).alloc _).drew) kx (fun k hk q => by first | exact q.elim | (simp only [dset] at q; omega) | omega | (dsimp only at q; omega)); replace hz := Nat.le_trans hz (Nat.le_trans (by omega) zx); replace hA := hx; clear hx kx zx))
      · go_loopw [2, 9] (fun f i wr => ∃ (k : Nat) (x : Int) (D : Dk), k ≤ l.length ∧ f = .int .i64 x ∧ i = .int .i64 k ∧ DiskAt wr p q j D ∧ D.left = x ∧ 0 ≤ x ∧ x ≤ 19 ∧ Keeps noB w wr) (fun _ i _ => l.length - (intOf i).toNat)
        case atStart => exact ⟨0, fe, D1, by omega, rfl, rfl, hA, hl1, by omega, by omega, hk⟩
        case round =>
          obtain ⟨k, x, D, hk1, rfl, rfl, hA, hxl, hx0, hx19, hk⟩ := hrel
          by_cases c : k < l.length
          · have d1 : decide ((k : Int) < (l.length : Int)) = true := by rw [decide_eq_true_eq]; omega
            obtain ⟨a, rfl, hst⟩ := hs.at_ k c
            have ho := hok _ (List.getElem_mem c)
            generalize l[k] = st at *
            obtain ⟨kv, hsv⟩ := hst
            obtain ⟨hb, h0, h1, h2, h3, h4⟩ := hsv.keep hk
            by_cases ck : 1 < st.kind
            · have d2 : decide (1 < st.kind) = true := by simpa using ck
              go_wp2_with fail
              exact ⟨⟨k + 1, x, D, by omega, rfl, by simp, hA, hxl, hx0, hx19, hk⟩, by simp [intOf]; omega⟩
            · have d2 : decide (1 < st.kind) = false := by simpa using ck
              obtain ⟨f, D', he⟩ : ∃ f D', doStep st D = (f, D') := ⟨_, _, rfl⟩
              have hr := doStep_fuse st D (by have := ho.k0; omega) (by omega)
              rw [he, hxl] at hr
              dsimp only at hr
              have hap : 0 < st.keep.length → ∀ a n c, kv = .slice (some a) n c → ¬ dset p q j a.block := hsv.1.apart lp lq lm
              have hz : 0 ≤ wr.heap.size := Nat.zero_le _
              clear ck
              rcases hr with ⟨rfl, hx1, hx'⟩ | ⟨hf, rfl⟩
              · have hdd : D'.dead = (x - 1 == 0) := by unfold Dk.dead; rw [hx']; rfl
                have b0 : (x == 0) = false := by simp; omega
                by_cases hx2 : x = 1
                · subst hx2
                  go_wp2_with (first | (go_at_call 28; (refine (copy_calls _ (by first | exact hA | exact hA.alloc _ | exact (hA.alloc _).alloc _ | exact hA.drew | exact hA.drew.alloc _ | exact (hA.alloc _).drew | exact ((hA.alloc _).alloc _).drew)).mono ?_); rintro e Wx ⟨p2, q2, m2, rfl, hB, kx, x1, x2, x3⟩; have y1 := hA.lt_p; have y2 := hA.lt_q; have y3 := hA.lt_m; have zx := kx.size; (try simp only [World.size_alloc, World.size_drew] at zx); skip; replace hk := Keeps.trans_new (by first | exact hk | exact hk.alloc _ | exact (hk.alloc _).alloc _ | exact hk.drew | exact hk.drew.alloc _ | exact (hk.alloc _).drew | exact ((hk.alloc _).alloc _).drew) kx (fun k hk q => by first | exact q.elim | (simp only [dset] at q; omega) | omega | (dsimp only at q; omega)); replace hz := Nat.le_trans hz (Nat.le_trans (by omega) zx); replace hA := ((by first | exact hA | exact hA.alloc _ | exact (hA.alloc _).alloc _ | exact hA.drew | exact hA.drew.alloc _ | exact (hA.alloc _).drew | exact ((hA.alloc _).alloc _).drew) : DiskAt _ _ _ _ _).held kx; clear kx zx; obtain ⟨hb, h0, h1, h2, h3, h4⟩ := hsv.keep hk) | ((with_reducible apply wpl_loadStep 42 (hg := Try.isAgg42) (hs := Try.sizeOf42) (s := st) (kv := kv)); rfl; rfl; exact h0; exact h1; exact h2; exact h3; exact h4; rfl) | (go_at_call 25; (with_reducible refine (do_calls _ (by first | exact hA | exact hA.alloc _ | exact (hA.alloc _).alloc _ | exact hA.drew | exact hA.drew.alloc _ | exact (hA.alloc _).drew | exact ((hA.alloc _).alloc _).drew) hb hap ho.n1 he).mono ?_); rintro e Wx ⟨rfl, hx, kx⟩; have zx := kx.size; (try simp only [World.size_alloc, World.size_drew] at zx); skip; replace hk := Keeps.trans_new (by first | exact hk | exact hk.alloc _ | exact (hk.alloc _).alloc _ | exact hk.drew | exact hk.drew.alloc _ | exact (hk.alloc _).drew | exact ((hk.alloc _).alloc _).drew) kx (fun k hk q => by first | exact q.elim | (simp only [dset] at q; omega) | omega | (dsimp only at q; omega)); replace hz := Nat.le_trans hz (Nat.le_trans (by omega) zx); replace hB := hB.keep kx (by simp only [dset]; omega) (by simp only [dset]; omega) (by simp only [dset]; omega); replace hA := hx; clear hx kx zx; obtain ⟨hb, h0, h1, h2, h3, h4⟩ := hsv.keep hk) | (go_at_call 30; (refine (dDead (by first | exact hA | exact hA.alloc _ | exact (hA.alloc _).alloc _ | exact hA.drew | exact hA.drew.alloc _ | exact (hA.alloc _).drew | exact ((hA.alloc _).alloc _).drew) hdd).mono ?_); rintro e W5 ⟨rfl, rfl⟩) | (go_at_call 38; (refine (same_calls _ hB hA).mono ?_); rintro e Wx ⟨bb, rfl, hbb, kx⟩; obtain rfl : bb = true := hbb.2 rfl; have zx := kx.size; (try simp only [World.size_alloc, World.size_drew] at zx); skip; replace hk := Keeps.trans_new (by first | exact hk | exact hk.alloc _ | exact (hk.alloc _).alloc _ | exact hk.drew | exact hk.drew.alloc _ | exact (hk.alloc _).drew | exact ((hk.alloc _).alloc _).drew) kx (fun k hk q => by first | exact q.elim | (simp only [dset] at q; omega) | omega | (dsimp only at q; omega)); replace hz := Nat.le_trans hz (Nat.le_trans (by omega) zx); replace hA := hA.held kx; replace hB := hB.held kx; clear kx zx hbb))
                  all_goals exact ⟨⟨k + 1, _, D', by omega, rfl, by simp, hA, by omega, by omega, by omega, hk⟩, by simp [intOf]; omega⟩
                · have b1 : (x == 1) = false := by simpa using hx2
                  have b2 : (x - 1 == 0) = false := by simp; omega
                  go_wp2_with (first | (go_at_call 28; (refine (copy_calls _ (by first | exact hA | exact hA.alloc _ | exact (hA.alloc _).alloc _ | exact hA.drew | exact hA.drew.alloc _ | exact (hA.alloc _).drew | exact ((hA.alloc _).alloc _).drew)).mono ?_); rintro e Wx ⟨p2, q2, m2, rfl, hB, kx, x1, x2, x3⟩; have y1 := hA.lt_p; have y2 := hA.lt_q; have y3 := hA.lt_m; have zx := kx.size; (try simp only [World.size_alloc, World.size_drew] at zx); skip; replace hk := Keeps.trans_new (by first | exact hk | exact hk.alloc _ | exact (hk.alloc _).alloc _ | exact hk.drew | exact hk.drew.alloc _ | exact (hk.alloc _).drew | exact ((hk.alloc _).alloc _).drew) kx (fun k hk q => by first | exact q.elim | (simp only [dset] at q; omega) | omega | (dsimp only at q; omega)); replace hz := Nat.le_trans hz (Nat.le_trans (by omega) zx); replace hA := ((by first | exact hA | exact hA.alloc _ | exact (hA.alloc _).alloc _ | exact hA.drew | exact hA.drew.alloc _ | exact (hA.alloc _).drew | exact ((hA.alloc _).alloc _).drew) : DiskAt _ _ _ _ _).held kx; clear kx zx; obtain ⟨hb, h0, h1, h2, h3, h4⟩ := hsv.keep hk) | ((with_reducible apply wpl_loadStep 42 (hg := Try.isAgg42) (hs := Try.sizeOf42) (s := st) (kv := kv)); rfl; rfl; exact h0; exact h1; exact h2; exact h3; exact h4; rfl) | (go_at_call 25; (with_reducible refine (do_calls _ (by first | exact hA | exact hA.alloc _ | exact (hA.alloc _).alloc _ | exact hA.drew | exact hA.drew.alloc _ | exact (hA.alloc _).drew | exact ((hA.alloc _).alloc _).drew) hb hap ho.n1 he).mono ?_); rintro e Wx ⟨rfl, hx, kx⟩; have zx := kx.size; (try simp only [World.size_alloc, World.size_drew] at zx); skip; replace hk := Keeps.trans_new (by first | exact hk | exact hk.alloc _ | exact (hk.alloc _).alloc _ | exact hk.drew | exact hk.drew.alloc _ | exact (hk.alloc _).drew | exact ((hk.alloc _).alloc _).drew) kx (fun k hk q => by first | exact q.elim | (simp only [dset] at q; omega) | omega | (dsimp only at q; omega)); replace hz := Nat.le_trans hz (Nat.le_trans (by omega) zx); replace hB := hB.keep kx (by simp only [dset]; omega) (by simp only [dset]; omega) (by simp only [dset]; omega); replace hA := hx; clear hx kx zx; obtain ⟨hb, h0, h1, h2, h3, h4⟩ := hsv.keep hk) | (go_at_call 30; (refine (dDead (by first | exact hA | exact hA.alloc _ | exact (hA.alloc _).alloc _ | exact hA.drew | exact hA.drew.alloc _ | exact (hA.alloc _).drew | exact ((hA.alloc _).alloc _).drew) hdd).mono ?_); rintro e W5 ⟨rfl, rfl⟩) | (go_at_call 38; (refine (same_calls _ hB hA).mono ?_); rintro e Wx ⟨bb, rfl, hbb, kx⟩; obtain rfl : bb = true := hbb.2 rfl; have zx := kx.size; (try simp only [World.size_alloc, World.size_drew] at zx); skip; replace hk := Keeps.trans_new (by first | exact hk | exact hk.alloc _ | exact (hk.alloc _).alloc _ | exact hk.drew | exact hk.drew.alloc _ | exact (hk.alloc _).drew | exact ((hk.alloc _).alloc _).drew) kx (fun k hk q => by first | exact q.elim | (simp only [dset] at q; omega) | omega | (dsimp only at q; omega)); replace hz := Nat.le_trans hz (Nat.le_trans (by omega) zx); replace hA := hA.held kx; replace hB := hB.held kx; clear kx zx hbb))
                  all_goals exact ⟨⟨k + 1, _, D', by omega, rfl, by simp, hA, by omega, by omega, by omega, hk⟩, by simp [intOf]; omega⟩
              · have hdd : D'.dead = (x == 0) := by unfold Dk.dead; rw [hxl]; rfl
                have bf : (f == 0) = false := by simpa using hf
                have bf2 : (f != 0) = true := by simpa using hf
                by_cases hx2 : x = 0
                · subst hx2
                  go_wp2_with (first | (go_at_call 28; (refine (copy_calls _ (by first | exact hA | exact hA.alloc _ | exact (hA.alloc _).alloc _ | exact hA.drew | exact hA.drew.alloc _ | exact (hA.alloc _).drew | exact ((hA.alloc _).alloc _).drew)).mono ?_); rintro e Wx ⟨p2, q2, m2, rfl, hB, kx, x1, x2, x3⟩; have y1 := hA.lt_p; have y2 := hA.lt_q; have y3 := hA.lt_m; have zx := kx.size; (try simp only [World.size_alloc, World.size_drew] at zx); skip; replace hk := Keeps.trans_new (by first | exact hk | exact hk.alloc _ | exact (hk.alloc _).alloc _ | exact hk.drew | exact hk.drew.alloc _ | exact (hk.alloc _).drew | exact ((hk.alloc _).alloc _).drew) kx (fun k hk q => by first | exact q.elim | (simp only [dset] at q; omega) | omega | (dsimp only at q; omega)); replace hz := Nat.le_trans hz (Nat.le_trans (by omega) zx); replace hA := ((by first | exact hA | exact hA.alloc _ | exact (hA.alloc _).alloc _ | exact hA.drew | exact hA.drew.alloc _ | exact (hA.alloc _).drew | exact ((hA.alloc _).alloc _).drew) : DiskAt _ _ _ _ _).held kx; clear kx zx; obtain ⟨hb, h0, h1, h2, h3, h4⟩ := hsv.keep hk) | ((with_reducible apply wpl_loadStep 42 (hg := Try.isAgg42) (hs := Try.sizeOf42) (s := st) (kv := kv)); rfl; rfl; exact h0; exact h1; exact h2; exact h3; exact h4; rfl) | (go_at_call 25; (with_reducible refine (do_calls _ (by first | exact hA | exact hA.alloc _ | exact (hA.alloc _).alloc _ | exact hA.drew | exact hA.drew.alloc _ | exact (hA.alloc _).drew | exact ((hA.alloc _).alloc _).drew) hb hap ho.n1 he).mono ?_); rintro e Wx ⟨rfl, hx, kx⟩; have zx := kx.size; (try simp only [World.size_alloc, World.size_drew] at zx); skip; replace hk := Keeps.trans_new (by first | exact hk | exact hk.alloc _ | exact (hk.alloc _).alloc _ | exact hk.drew | exact hk.drew.alloc _ | exact (hk.alloc _).drew | exact ((hk.alloc _).alloc _).drew) kx (fun k hk q => by first | exact q.elim | (simp only [dset] at q; omega) | omega | (dsimp only at q; omega)); replace hz := Nat.le_trans hz (Nat.le_trans (by omega) zx); replace hB := hB.keep kx (by simp only [dset]; omega) (by simp only [dset]; omega) (by simp only [dset]; omega); replace hA := hx; clear hx kx zx; obtain ⟨hb, h0, h1, h2, h3, h4⟩ := hsv.keep hk) | (go_at_call 30; (refine (dDead (by first | exact hA | exact hA.alloc _ | exact (hA.alloc _).alloc _ | exact hA.drew | exact hA.drew.alloc _ | exact (hA.alloc _).drew | exact ((hA.alloc _).alloc _).drew) hdd).mono ?_); rintro e W5 ⟨rfl, rfl⟩) | (go_at_call 38; (refine (same_calls _ hB hA).mono ?_); rintro e Wx ⟨bb, rfl, hbb, kx⟩; obtain rfl : bb = true := hbb.2 rfl; have zx := kx.size; (try simp only [World.size_alloc, World.size_drew] at zx); skip; replace hk := Keeps.trans_new (by first | exact hk | exact hk.alloc _ | exact (hk.alloc _).alloc _ | exact hk.drew | exact hk.drew.alloc _ | exact (hk.alloc _).drew | exact ((hk.alloc _).alloc _).drew) kx (fun k hk q => by first | exact q.elim | (simp only [dset] at q; omega) | omega | (dsimp only at q; omega)); replace hz := Nat.le_trans hz (Nat.le_trans (by omega) zx); replace hA := hA.held kx; replace hB := hB.held kx; clear kx zx hbb))
                  all_goals exact ⟨⟨k + 1, _, D', by omega, rfl, by simp, hA, by first | exact hxl | omega, by omega, by omega, hk⟩, by simp [intOf]; omega⟩
                · have b0 : (x == 0) = false := by simpa using hx2
                  go_wp2_with (first | (go_at_call 28; (refine (copy_calls _ (by first | exact hA | exact hA.alloc _ | exact (hA.alloc _).alloc _ | exact hA.drew | exact hA.drew.alloc _ | exact (hA.alloc _).drew | exact ((hA.alloc _).alloc _).drew)).mono ?_); rintro e Wx ⟨p2, q2, m2, rfl, hB, kx, x1, x2, x3⟩; have y1 := hA.lt_p; have y2 := hA.lt_q; have y3 := hA.lt_m; have zx := kx.size; (try simp only [World.size_alloc, World.size_drew] at zx); skip; replace hk := Keeps.trans_new (by first | exact hk | exact hk.alloc _ | exact (hk.alloc _).alloc _ | exact hk.drew | exact hk.drew.alloc _ | exact (hk.alloc _).drew | exact ((hk.alloc _).alloc _).drew) kx (fun k hk q => by first | exact q.elim | (simp only [dset] at q; omega) | omega | (dsimp only at q; omega)); replace hz := Nat.le_trans hz (Nat.le_trans (by omega) zx); replace hA := ((by first | exact hA | exact hA.alloc _ | exact (hA.alloc _).alloc _ | exact hA.drew | exact hA.drew.alloc _ | exact (hA.alloc _).drew | exact ((hA.alloc _).alloc _).drew) : DiskAt _ _ _ _ _).held kx; clear kx zx; obtain ⟨hb, h0, h1, h2, h3, h4⟩ := hsv.keep hk) | ((with_reducible apply wpl_loadStep 42 (hg := Try.isAgg42) (hs := Try.sizeOf42) (s := st) (kv := kv)); rfl; rfl; exact h0; exact h1; exact h2; exact h3; exact h4; rfl) | (go_at_call 25; (with_reducible refine (do_calls _ (by first | exact hA | exact hA.alloc _ | exact (hA.alloc _).alloc _ | exact hA.drew | exact hA.drew.alloc _ | exact (hA.alloc _).drew | exact ((hA.alloc _).alloc _).drew) hb hap ho.n1 he).mono ?_); rintro e Wx ⟨rfl, hx, kx⟩; have zx := kx.size; (try simp only [World.size_alloc, World.size_drew] at zx); skip; replace hk := Keeps.trans_new (by first | exact hk | exact hk.alloc _ | exact (hk.alloc _).alloc _ | exact hk.drew | exact hk.drew.alloc _ | exact (hk.alloc _).drew | exact ((hk.alloc _).alloc _).drew) kx (fun k hk q => by first | exact q.elim | (simp only [dset] at q; omega) | omega | (dsimp only at q; omega)); replace hz := Nat.le_trans hz (Nat.le_trans (by omega) zx); replace hB := hB.keep kx (by simp only [dset]; omega) (by simp only [dset]; omega) (by simp only [dset]; omega); replace hA := hx; clear hx kx zx; obtain ⟨hb, h0, h1, h2, h3, h4⟩ := hsv.keep hk) | (go_at_call 30; (refine (dDead (by first | exact hA | exact hA.alloc _ | exact (hA.alloc _).alloc _ | exact hA.drew | exact hA.drew.alloc _ | exact (hA.alloc _).drew | exact ((hA.alloc _).alloc _).drew) hdd).mono ?_); rintro e W5 ⟨rfl, rfl⟩) | (go_at_call 38; (refine (same_calls _ hB hA).mono ?_); rintro e Wx ⟨bb, rfl, hbb, kx⟩; obtain rfl : bb = true := hbb.2 rfl; have zx := kx.size; (try simp only [World.size_alloc, World.size_drew] at zx); skip; replace hk := Keeps.trans_new (by first | exact hk | exact hk.alloc _ | exact (hk.alloc _).alloc _ | exact hk.drew | exact hk.drew.alloc _ | exact (hk.alloc _).drew | exact ((hk.alloc _).alloc _).drew) kx (fun k hk q => by first | exact q.elim | (simp only [dset] at q; omega) | omega | (dsimp only at q; omega)); replace hz := Nat.le_trans hz (Nat.le_trans (by omega) zx); replace hA := hA.held kx; replace hB := hB.held kx; clear kx zx hbb))
                  all_goals exact ⟨⟨k + 1, _, D', by omega, rfl, by simp, hA, by first | exact hxl | omega, by omega, by omega, hk⟩, by simp [intOf]; omega⟩
          · have d1 : decide ((k : Int) < (l.length : Int)) = false := by rw [decide_eq_false_iff_not]; omega
            have hdd : D.dead = (x == 0) := by unfold Dk.dead; rw [hxl]; rfl
            go_wp2_with (go_at_call 30; (refine (dDead hA hdd).mono ?_); rintro e W5 ⟨rfl, rfl⟩)
            all_goals go_ret
            all_goals exact ⟨rfl, hk⟩
      · go_ret
        exact ⟨rfl, by first | exact (q1.trans q2).trans q3 | exact q1.trans q2⟩
end Go.Proofs.Ytckopikeegegkaa
/- DISKFLUSHED: the walk of the law. -/
namespace Go.Proofs.Ytckopikeegegkaa
open Go.RowKit Go.MapKept Go.Shelf
set_option linter.unusedSimpArgs false
set_option linter.unusedVariables false
/-- What was written behind a flush: there is what was there; aside lies only what was written. -/
structure Behind (F W : Dk) (bl : List Int) : Prop where
  there : W.there = F.there
  keys : ∀ p ∈ W.aside, (p.1 : Int) ∈ bl
theorem Behind.write {F W : Dk} {bl : List Int} (h : Behind F W bl) (n : Int) (s : Str) : Behind F (W.write n s).2 (bl ++ [n]) := by
  rcases write_cases W n s with ⟨_, e⟩ | ⟨k, rfl, _, _, _, e⟩
  · rw [e]; exact ⟨h.there, fun p hp => List.mem_append_left _ (h.keys p hp)⟩
  · rw [e]
    refine ⟨h.there, fun p hp => ?_⟩
    rcases put_mem hp with rfl | hp
    · simp
    · exact List.mem_append_left _ (h.keys p hp)
theorem Behind.crash {F W : Dk} {bl : List Int} (h : Behind F W bl) (hF : F.aside = []) (hw : W.Wf) (keep : List Bool) (torn : Int) (cut : Nat) (hc : cut ≤ 64) (n : Nat) (hn : (n : Int) ∉ bl) : (W.crash keep torn cut).2.read n = F.read n := by
  refine read_same (by rw [crash_len, h.there]) n (fun k hk => ?_)
  obtain rfl : n = k := by omega
  rw [crash_now W keep torn cut hc, now_flat hF, fall_none keep torn cut n W.aside 0 W.there (fun p hp => (hw.aside p hp).1) (fun p hp e => hn (by have := h.keys p hp; rwa [e] at this)), h.there]
set_option maxRecDepth 20000 in
set_option maxHeartbeats 20000000 in
theorem diskFlushed_walk (sectors torn cut : Int) (sv bv kv0 : Value) (l : List Stp) (behind : List Int) (keep : List Bool) (w : World) (hs : StepsAt w sv l) (hl : l.length ≤ maxLen) (hok : ∀ x ∈ l, StpOk x)
    (hbh : CellsAt (Value.int .i64) w bv behind) (hkv : BoolsAt w kv0 keep) (hbl : behind.length ≤ maxLen) (hkl : keep.length ≤ maxLen) :
    Calls Try.prog 7 #[.int .i64 sectors, sv, bv, kv0, .int .i64 torn, .int .i64 cut] w fun e w' => e = .returned (.bool true) ∧ Keeps noB w w' := by
  have hw := fun W => works_calls W
  have hlg := fun W h => large_calls sv l W h hl
  obtain ⟨ad, cap, rfl⟩ := hs.form
  obtain ⟨ab, cb, rfl⟩ := hbh.form
  obtain ⟨ak, ck, rfl⟩ := hkv.form
  have hm : (l.length : Int) ≤ 9223372036854775807 := by unfold maxLen at hl; omega
  by_cases hc : 200 < keep.length ∨ 100 < behind.length ∨ 60 < sectors
  · have h3 : decide (200 < (keep.length : Int)) = true ∨ decide (200 < (keep.length : Int)) = false ∧ decide (100 < (behind.length : Int)) = true ∨ decide (200 < (keep.length : Int)) = false ∧ decide (100 < (behind.length : Int)) = false ∧ decide (60 < sectors) = true := by
      simp only [decide_eq_true_eq, decide_eq_false_iff_not]; omega
    clear hc
    rcases h3 with d0 | ⟨d0, d1⟩ | ⟨d0, d1, d2⟩
    all_goals go_enter Try.func7, Try.ntmps7
    all_goals go_wp2_with (first | (go_at_call 23; refine (hlg _ (hs.keep q1)).mono ?_; rintro e W2 ⟨rfl | rfl, q2⟩) | (go_at_call 22; refine (hw _).mono ?_; first | (rintro e W3 ⟨rfl, q3⟩; have q2' := q2) | rintro e W1 ⟨rfl, q1⟩))
    all_goals go_ret
    all_goals exact ⟨rfl, by first | exact (q1.trans q2).trans q3 | exact q1.trans q3⟩
  · have d0 : decide (200 < (keep.length : Int)) = false := by simp only [decide_eq_false_iff_not]; omega
    have d1 : decide (100 < (behind.length : Int)) = false := by simp only [decide_eq_false_iff_not]; omega
    have d2 : decide (60 < sectors) = false := by simp only [decide_eq_false_iff_not]; omega
    by_cases hc1 : sectors < 1
    · have hn := fun W => new_bad sectors W (make_none hc1)
      go_enter Try.func7, Try.ntmps7
      go_wp2_with (first | (first | (go_at_call 23; refine (hlg _ (hs.keep q1)).mono ?_; rintro e W2 ⟨rfl | rfl, q2⟩) | (go_at_call 22; refine (hw _).mono ?_; first | (rintro e W3 ⟨rfl, q3⟩; have q2' := q2) | rintro e W1 ⟨rfl, q1⟩)) | (go_at_call 16; refine (hn _).mono ?_; rintro e W3 ⟨rfl, rfl⟩))
      all_goals go_ret
      all_goals exact ⟨rfl, by first | exact (q1.trans q2).trans q3 | exact q1.trans q2⟩
    · have hmk := make_some (n := sectors) (by omega) (by omega)
      obtain ⟨S, hS⟩ : ∃ S : Nat, sectors = S := ⟨sectors.toNat, by omega⟩
      subst hS
      rw [Int.toNat_natCast] at hmk
      have hlen0 : (Dk.zero S).there.length = S := by unfold Dk.zero; simp
      generalize Dk.zero S = D0 at *
      have cbn := cutE_bounds cut
      have ce2 : (IntKind.u64.wrap cut).tmod 65 = cutE cut := by
        have u : 0 ≤ IntKind.u64.wrap cut := by rw [IntKind.wrap_u64]; omega
        rw [Int.tmod_eq_emod_of_nonneg u]; rfl
      have ce3 : wrap64 (cutE cut) = cutE cut := IntWalk.wrap64_in _ (by omega)
      obtain ⟨ct, hct⟩ : ∃ ct : Nat, cutE cut = ct := ⟨(cutE cut).toNat, by omega⟩
      rw [hct] at ce2 ce3
      have hc64 : ct ≤ 64 := by omega
      clear hct cbn
      have z0 : 0 ≤ w.heap.size := Nat.zero_le _
      go_enter Try.func7, Try.ntmps7
      go_wp2_with (first | (first | (go_at_call 23; refine (hlg _ (hs.keep q1)).mono ?_; rintro e W2 ⟨rfl | rfl, q2⟩) | (go_at_call 22; refine (hw _).mono ?_; first | (rintro e W3 ⟨rfl, q3⟩; have q2' := q2) | rintro e W1 ⟨rfl, q1⟩)) | (go_at_call 16; (refine (dNew hmk).mono ?_); rintro e W3 ⟨p, q, j, rfl, hA, q3, lp, lq, lm⟩; have z1 := q1.size; have z2 := q2.size; replace lp : w.heap.size ≤ p := (by omega); replace lq : w.heap.size ≤ q := (by omega); replace lm : w.heap.size ≤ j := (by omega); have hk := (q1.trans q2).trans q3; have hz : 0 ≤ W3.heap.size := Nat.zero_le _; clear q1 q2 q3 z1 z2 hw hlg))
      · go_loopw [15] (fun i wr => ∃ (k : Nat) (D : Dk), k ≤ l.length ∧ i = .int .i64 k ∧ DiskAt wr p q j D ∧ D.there.length = S ∧ Keeps noB w wr) (fun i _ => l.length - (intOf i).toNat)
        case atStart => exact ⟨0, D0, by omega, rfl, hA, hlen0, hk⟩
        case round =>
          obtain ⟨k, D, hk1, rfl, hA, hD, hk⟩ := hrel
          by_cases c : k < l.length
          · have d3 : decide ((k : Int) < (l.length : Int)) = true := by rw [decide_eq_true_eq]; omega
            obtain ⟨a, rfl, hst⟩ := hs.at_ k c
            have ho := hok _ (List.getElem_mem c)
            generalize l[k] = st at *
            obtain ⟨kv, hsv⟩ := hst
            obtain ⟨hb, h0, h1, h2, h3, h4⟩ := hsv.keep hk
            obtain ⟨f, D', he⟩ : ∃ f D', doStep st D = (f, D') := ⟨_, _, rfl⟩
            have hD' := doStep_len st D
            rw [he] at hD'
            dsimp only at hD'
            have hap : 0 < st.keep.length → ∀ a n c, kv = .slice (some a) n c → ¬ dset p q j a.block := hsv.1.apart lp lq lm
            have hz : 0 ≤ wr.heap.size := Nat.zero_le _
            go_wp2_with (first | ((with_reducible apply wpl_loadStep 42 (hg := Try.isAgg42) (hs := Try.sizeOf42) (s := st) (kv := kv)); rfl; rfl; exact h0; exact h1; exact h2; exact h3; exact h4; rfl) | (go_at_call 25; (with_reducible refine (do_calls _ (by first | exact hA | exact hA.alloc _ | exact (hA.alloc _).alloc _ | exact hA.drew | exact hA.drew.alloc _ | exact (hA.alloc _).drew | exact ((hA.alloc _).alloc _).drew) hb hap ho.n1 he).mono ?_); rintro e Wx ⟨rfl, hx, kx⟩; have zx := kx.size; (try simp only [World.size_alloc, World.size_drew] at zx); skip; replace hk := Keeps.trans_new (by first | exact hk | exact hk.alloc _ | exact (hk.alloc _).alloc _ | exact hk.drew | exact hk.drew.alloc _ | exact (hk.alloc _).drew | exact ((hk.alloc _).alloc _).drew) kx (fun k hk q => by first | exact q.elim | (simp only [dset] at q; omega) | omega | (dsimp only at q; omega)); replace hz := Nat.le_trans hz (Nat.le_trans (by omega) zx); replace hA := hx; clear hx kx zx; skip))
            exact ⟨⟨k + 1, D', by omega, by simp, hA, by omega, hk⟩, by simp [intOf]; omega⟩
          · have d3 : decide ((k : Int) < (l.length : Int)) = false := by rw [decide_eq_false_iff_not]; omega
            by_cases hl0 : D.left = 0
            · have e1 : D.flush = (42, D) := by unfold Dk.flush; rw [if_pos hl0]
              have hdd : D.dead = true := by unfold Dk.dead; rw [hl0]; rfl
              have hz : 0 ≤ wr.heap.size := Nat.zero_le _
              go_wp2_with (first | (go_at_call 31; (with_reducible refine (dFlush (by first | exact hA | exact hA.alloc _ | exact (hA.alloc _).alloc _ | exact hA.drew | exact hA.drew.alloc _ | exact (hA.alloc _).drew | exact ((hA.alloc _).alloc _).drew) e1).mono ?_); rintro e Wx ⟨rfl, hx, kx⟩; have zx := kx.size; (try simp only [World.size_alloc, World.size_drew] at zx); skip; replace hk := Keeps.trans_new (by first | exact hk | exact hk.alloc _ | exact (hk.alloc _).alloc _ | exact hk.drew | exact hk.drew.alloc _ | exact (hk.alloc _).drew | exact ((hk.alloc _).alloc _).drew) kx (fun k hk q => by first | exact q.elim | (simp only [dset] at q; omega) | omega | (dsimp only at q; omega)); replace hz := Nat.le_trans hz (Nat.le_trans (by omega) zx); replace hA := hx; clear hx kx zx; skip) | (go_at_call 30; (refine (dDead (by first | exact hA | exact hA.alloc _ | exact (hA.alloc _).alloc _ | exact hA.drew | exact hA.drew.alloc _ | exact (hA.alloc _).drew | exact ((hA.alloc _).alloc _).drew) hdd).mono ?_); rintro e W5 ⟨rfl, rfl⟩))
              go_ret
              exact ⟨rfl, hk⟩
            · obtain ⟨F, e1, hF, hFl⟩ : ∃ F, D.flush = (0, F) ∧ F.aside = [] ∧ F.there.length = S := by
                refine ⟨D.flush.2, ?_, ?_, by rw [flush_len, hD]⟩
                · unfold Dk.flush; rw [if_neg hl0]
                · unfold Dk.flush; rw [if_neg hl0]
              have hz : 0 ≤ wr.heap.size := Nat.zero_le _
              go_wp2_with (first | (go_at_call 31; (with_reducible refine (dFlush (by first | exact hA | exact hA.alloc _ | exact (hA.alloc _).alloc _ | exact hA.drew | exact hA.drew.alloc _ | exact (hA.alloc _).drew | exact ((hA.alloc _).alloc _).drew) e1).mono ?_); rintro e Wx ⟨rfl, hx, kx⟩; have zx := kx.size; (try simp only [World.size_alloc, World.size_drew] at zx); skip; replace hk := Keeps.trans_new (by first | exact hk | exact hk.alloc _ | exact (hk.alloc _).alloc _ | exact hk.drew | exact hk.drew.alloc _ | exact (hk.alloc _).drew | exact ((hk.alloc _).alloc _).drew) kx (fun k hk q => by first | exact q.elim | (simp only [dset] at q; omega) | omega | (dsimp only at q; omega)); replace hz := Nat.le_trans hz (Nat.le_trans (by omega) zx); replace hA := hx; clear hx kx zx; skip) | (go_at_call 28; (refine (copy_calls _ (by first | exact hA | exact hA.alloc _ | exact (hA.alloc _).alloc _ | exact hA.drew | exact hA.drew.alloc _ | exact (hA.alloc _).drew | exact ((hA.alloc _).alloc _).drew)).mono ?_); rintro e Wx ⟨p2, q2, m2, rfl, hB, kx, x1, x2, x3⟩; have y1 := hA.lt_p; have y2 := hA.lt_q; have y3 := hA.lt_m; have zx := kx.size; (try simp only [World.size_alloc, World.size_drew] at zx); skip; replace hk := Keeps.trans_new (by first | exact hk | exact hk.alloc _ | exact (hk.alloc _).alloc _ | exact hk.drew | exact hk.drew.alloc _ | exact (hk.alloc _).drew | exact ((hk.alloc _).alloc _).drew) kx (fun k hk q => by first | exact q.elim | (simp only [dset] at q; omega) | omega | (dsimp only at q; omega)); replace hz := Nat.le_trans hz (Nat.le_trans (by omega) zx); replace hA := ((by first | exact hA | exact hA.alloc _ | exact (hA.alloc _).alloc _ | exact hA.drew | exact hA.drew.alloc _ | exact (hA.alloc _).drew | exact ((hA.alloc _).alloc _).drew) : DiskAt _ _ _ _ _).held kx; clear kx zx; skip))
              clear hD hl0 hlen0 hmk hc1
              go_loopw [17] (fun i wr => ∃ (k : Nat) (V : Dk), k ≤ behind.length ∧ i = .int .i64 k ∧ DiskAt wr p q j V ∧ Behind F V (behind.take k) ∧ DiskAt wr p2 q2 m2 F ∧ Keeps noB w wr) (fun i _ => behind.length - (intOf i).toNat)
              case atStart => exact ⟨0, F, by omega, rfl, hA, ⟨rfl, fun p hp => by rw [hF] at hp; cases hp⟩, hB, hk⟩
              case round =>
                obtain ⟨k, V, hk1, rfl, hA, hV, hB, hk⟩ := hrel
                by_cases c : k < behind.length
                · have d4 : decide ((k : Int) < (behind.length : Int)) = true := by rw [decide_eq_true_eq]; omega
                  obtain ⟨a, rfl, hc0⟩ := hbh.at_ k c
                  have htk : behind.take (k + 1) = behind.take k ++ [behind[k]] := by rw [List.take_succ_eq_append_getElem c]
                  generalize behind[k] = b at *
                  have y0 := cell_keeps hk hc0 (fun q => q)
                  have hz : 0 ≤ wr.heap.size := Nat.zero_le _
                  have hu : ((UInt8.ofNat k).toNat : Int) = k := by simp; omega
                  have hwr : IntKind.u8.wrap (k : Int) = k := by rw [IntKind.wrap_u8]; omega
                  obtain ⟨f, V', he⟩ : ∃ f V', V.write b (ofB (UInt8.ofNat k)) = (f, V') := ⟨_, _, rfl⟩
                  have hV' := hV.write b (ofB (UInt8.ofNat k))
                  rw [he, ← htk] at hV'
                  dsimp only at hV'
                  clear htk
                  go_wp2_with fail
                  refine wp_region_text [(0, true), (1, true), (2, true), (3, true), (4, true), (5, true), (6, true), (7, false), (8, false)] (fun W' => W'.cell? (a.add k) = some (.int .i64 b)) (by kernel_rfl) (by kernel_rfl) (fun d _ _ _ _ h => by cases d <;> exact h) y0 ?_
                  (repeat (first | (apply wpText_take; rfl; rfl; (intro W hS; (try dsimp only at hS); (try (have hS1 := hS.1; have hS2 := hS.2)); go_simp; exact rfl); try simp only [Act.put, List.setIfInBounds_toArray, List.set_cons_succ, List.set_cons_zero]) | (apply wpText_takeG; rfl; rfl; (intro W hS; (try dsimp only at hS); (try have hS1 := hS.2.2); go_simp; exact rfl); try simp only [Act.put, List.setIfInBounds_toArray, List.set_cons_succ, List.set_cons_zero]) | (apply wpText_skip; rfl; rfl; try simp only [Act.put, List.setIfInBounds_toArray, List.set_cons_succ, List.set_cons_zero]) | (apply wpText_goL; rfl; intro K hK; go_wp2_with (first | (go_at_call 33; (refine (of_at (UInt8.ofNat k) _ hu).mono ?_); rintro e Wx ⟨rfl, kx⟩; replace hA := ((by first | exact hA | exact hA.alloc _ | exact (hA.alloc _).alloc _ | exact hA.drew | exact hA.drew.alloc _ | exact (hA.alloc _).drew | exact ((hA.alloc _).alloc _).drew) : DiskAt _ _ _ _ _).held kx; replace hB := (hB.drew.held kx : DiskAt _ _ _ _ _); have zx := kx.size; (try simp only [World.size_alloc, World.size_drew] at zx); skip; replace hk := Keeps.trans_new (by first | exact hk | exact hk.alloc _ | exact (hk.alloc _).alloc _ | exact hk.drew | exact hk.drew.alloc _ | exact (hk.alloc _).drew | exact ((hk.alloc _).alloc _).drew) kx (fun k hk q => by first | exact q.elim | (simp only [dset] at q; omega) | omega | (dsimp only at q; omega)); replace hz := Nat.le_trans hz (Nat.le_trans (by omega) zx); have y0 := cell_keeps hk hc0 (fun q => q); clear kx zx) | (go_at_call 32; (with_reducible refine (dWrite (by first | exact hA | exact hA.alloc _ | exact (hA.alloc _).alloc _ | exact hA.drew | exact hA.drew.alloc _ | exact (hA.alloc _).drew | exact ((hA.alloc _).alloc _).drew) he).mono ?_); rintro e Wx ⟨rfl, hx, kx⟩; have zx := kx.size; (try simp only [World.size_alloc, World.size_drew] at zx); skip; replace hk := Keeps.trans_new (by first | exact hk | exact hk.alloc _ | exact (hk.alloc _).alloc _ | exact hk.drew | exact hk.drew.alloc _ | exact (hk.alloc _).drew | exact ((hk.alloc _).alloc _).drew) kx (fun k hk q => by first | exact q.elim | (simp only [dset] at q; omega) | omega | (dsimp only at q; omega)); replace hz := Nat.le_trans hz (Nat.le_trans (by omega) zx); replace hB := hB.keep kx (by simp only [dset]; omega) (by simp only [dset]; omega) (by simp only [dset]; omega); replace hA := hx; clear hx kx zx; have y0 := cell_keeps hk hc0 (fun q => q))); (refine hK _ _ y0 ?_); clear hK K; try simp only [Act.put, List.setIfInBounds_toArray, List.set_cons_succ, List.set_cons_zero])))
                  apply wpText_done
                  go_wp2
                  exact ⟨⟨k + 1, V', by omega, by simp, hA, hV', hB, hk⟩, by simp [intOf]; omega⟩
                · have d4 : decide ((k : Int) < (behind.length : Int)) = false := by rw [decide_eq_false_iff_not]; omega
                  obtain rfl : k = behind.length := by omega
                  rw [List.take_length] at hV
                  have hwf := hA.wf
                  have hVl : V.there.length = S := by rw [hV.there]; exact hFl
                  have hCn := fun n hn => hV.crash hF hwf keep torn ct hc64 n hn
                  obtain ⟨f, C, he⟩ : ∃ f C, V.crash keep torn (ct : Int) = (f, C) := ⟨_, _, rfl⟩
                  rw [he] at hCn
                  dsimp only at hCn
                  have hz : 0 ≤ wr.heap.size := Nat.zero_le _
                  go_wp2_with (go_at_call 29; (with_reducible refine (dCrash (by first | exact hA | exact hA.alloc _ | exact (hA.alloc _).alloc _ | exact hA.drew | exact hA.drew.alloc _ | exact (hA.alloc _).drew | exact ((hA.alloc _).alloc _).drew) (BoolsAt.carry hkv (by first | exact hk | exact hk.alloc _ | exact (hk.alloc _).alloc _ | exact hk.drew | exact hk.drew.alloc _ | exact (hk.alloc _).drew | exact ((hk.alloc _).alloc _).drew)) (hkv.apart (by omega) (by omega) (by omega)) he).mono ?_); rintro e Wx ⟨rfl, hx, kx⟩; have zx := kx.size; (try simp only [World.size_alloc, World.size_drew] at zx); skip; replace hk := Keeps.trans_new (by first | exact hk | exact hk.alloc _ | exact (hk.alloc _).alloc _ | exact hk.drew | exact hk.drew.alloc _ | exact (hk.alloc _).drew | exact ((hk.alloc _).alloc _).drew) kx (fun k hk q => by first | exact q.elim | (simp only [dset] at q; omega) | omega | (dsimp only at q; omega)); replace hz := Nat.le_trans hz (Nat.le_trans (by omega) zx); replace hB := hB.keep kx (by simp only [dset]; omega) (by simp only [dset]; omega) (by simp only [dset]; omega); replace hA := hx; clear hx kx zx; skip)
                  clear hV hwf hVl he
                  go_loopw [18] (fun i wr => ∃ k : Nat, k ≤ S ∧ i = .int .i64 k ∧ DiskAt wr p q j C ∧ DiskAt wr p2 q2 m2 F ∧ Keeps noB w wr) (fun i _ => S - (intOf i).toNat)
                  case atStart => exact ⟨0, by omega, rfl, hA, hB, hk⟩
                  case round =>
                    obtain ⟨k, hk1, rfl, hA, hB, hk⟩ := hrel
                    by_cases c : k < S
                    · have d5 : decide ((k : Int) < (S : Int)) = true := by rw [decide_eq_true_eq]; omega
                      go_wp2_with fail
                      go_loopw [19, 20] (fun g i wr => ∃ (m : Nat) (b : Bool), m ≤ behind.length ∧ g = .bool b ∧ b = decide ((k : Int) ∈ behind.take m) ∧ i = .int .i64 m ∧ DiskAt wr p q j C ∧ DiskAt wr p2 q2 m2 F ∧ Keeps noB w wr) (fun _ i _ => behind.length - (intOf i).toNat)
                      case atStart => exact ⟨0, false, by omega, rfl, by simp, rfl, hA, hB, hk⟩
                      case round =>
                        obtain ⟨m, b, hm1, rfl, hb, rfl, hA, hB, hk⟩ := hrel
                        by_cases c2 : m < behind.length
                        · have d6 : decide ((m : Int) < (behind.length : Int)) = true := by rw [decide_eq_true_eq]; omega
                          obtain ⟨a, rfl, hc0⟩ := hbh.at_ m c2
                          have htk : behind.take (m + 1) = behind.take m ++ [behind[m]] := by rw [List.take_succ_eq_append_getElem c2]
                          generalize behind[m] = y at *
                          have y0 := cell_keeps hk hc0 (fun q => q)
                          have Hb := Lib.hid hb; clear hb
                          have Htk := Lib.hid htk; clear htk
                          cases b with
                          | true =>
                            go_wp2
                            exact ⟨⟨m + 1, true, by omega, rfl, by rw [Htk.out]; have := Hb.out; simp at this ⊢; exact .inl this, by simp, hA, hB, hk⟩, by simp [intOf]; omega⟩
                          | false =>
                            go_wp2
                            exact ⟨⟨m + 1, (y == (k : Int)), by omega, rfl, by rw [Htk.out]; have := Hb.out; simp at this ⊢; simp [this, Bool.beq_eq_decide_eq, eq_comm], by simp, hA, hB, hk⟩, by simp [intOf]; omega⟩
                        · have d6 : decide ((m : Int) < (behind.length : Int)) = false := by rw [decide_eq_false_iff_not]; omega
                          obtain rfl : m = behind.length := by omega
                          rw [List.take_length] at hb
                          obtain ⟨s1, e1', r1⟩ : ∃ s e, C.read k = (s, e) := ⟨_, _, rfl⟩
                          obtain ⟨s2, e2', r2⟩ : ∃ s e, F.read k = (s, e) := ⟨_, _, rfl⟩
                          have hz : 0 ≤ wr.heap.size := Nat.zero_le _
                          have hrd : b = false → s1 = s2 := fun e => by
                            have := hCn k (by rw [e] at hb; simpa using hb.symm)
                            rw [r1, r2] at this
                            exact congrArg Prod.fst this
                          clear hb
                          cases b with
                          | true =>
                            clear hrd
                            go_wp2_with (first | (go_at_call 24; (with_reducible refine (dRead (by first | exact hA | exact hA.alloc _ | exact (hA.alloc _).alloc _ | exact hA.drew | exact hA.drew.alloc _ | exact (hA.alloc _).drew | exact ((hA.alloc _).alloc _).drew) r1).mono ?_); rintro e Wx ⟨rfl, hx, kx⟩; have zx := kx.size; (try simp only [World.size_alloc, World.size_drew] at zx); skip; replace hk := Keeps.trans_new (by first | exact hk | exact hk.alloc _ | exact (hk.alloc _).alloc _ | exact hk.drew | exact hk.drew.alloc _ | exact (hk.alloc _).drew | exact ((hk.alloc _).alloc _).drew) kx (fun k hk q => by first | exact q.elim | (simp only [dset] at q; omega) | omega | (dsimp only at q; omega)); replace hz := Nat.le_trans hz (Nat.le_trans (by omega) zx); replace hB := hB.held kx; replace hA := hx; clear hx kx zx; skip) | (go_at_call 24; (refine (dRead hB r2).mono ?_); rintro e Wx ⟨rfl, hx, kx⟩; have zx := kx.size; (try simp only [World.size_alloc, World.size_drew] at zx); skip; replace hk := Keeps.trans_new (by first | exact hk | exact hk.alloc _ | exact (hk.alloc _).alloc _ | exact hk.drew | exact hk.drew.alloc _ | exact (hk.alloc _).drew | exact ((hk.alloc _).alloc _).drew) kx (fun k hk q => by first | exact q.elim | (simp only [dset] at q; omega) | omega | (dsimp only at q; omega)); replace hz := Nat.le_trans hz (Nat.le_trans (by omega) zx); replace hA := hA.held kx; replace hB := hx; clear hx kx zx))
                            exact ⟨⟨k + 1, by omega, by simp, hA, hB, hk⟩, by simp [intOf]; omega⟩
                          | false =>
                            have hs12 := hrd rfl
                            subst hs12
                            go_wp2_with (first | (go_at_call 24; (with_reducible refine (dRead (by first | exact hA | exact hA.alloc _ | exact (hA.alloc _).alloc _ | exact hA.drew | exact hA.drew.alloc _ | exact (hA.alloc _).drew | exact ((hA.alloc _).alloc _).drew) r1).mono ?_); rintro e Wx ⟨rfl, hx, kx⟩; have zx := kx.size; (try simp only [World.size_alloc, World.size_drew] at zx); skip; replace hk := Keeps.trans_new (by first | exact hk | exact hk.alloc _ | exact (hk.alloc _).alloc _ | exact hk.drew | exact hk.drew.alloc _ | exact (hk.alloc _).drew | exact ((hk.alloc _).alloc _).drew) kx (fun k hk q => by first | exact q.elim | (simp only [dset] at q; omega) | omega | (dsimp only at q; omega)); replace hz := Nat.le_trans hz (Nat.le_trans (by omega) zx); replace hB := hB.held kx; replace hA := hx; clear hx kx zx; skip) | (go_at_call 24; (refine (dRead hB r2).mono ?_); rintro e Wx ⟨rfl, hx, kx⟩; have zx := kx.size; (try simp only [World.size_alloc, World.size_drew] at zx); skip; replace hk := Keeps.trans_new (by first | exact hk | exact hk.alloc _ | exact (hk.alloc _).alloc _ | exact hk.drew | exact hk.drew.alloc _ | exact (hk.alloc _).drew | exact ((hk.alloc _).alloc _).drew) kx (fun k hk q => by first | exact q.elim | (simp only [dset] at q; omega) | omega | (dsimp only at q; omega)); replace hz := Nat.le_trans hz (Nat.le_trans (by omega) zx); replace hA := hA.held kx; replace hB := hx; clear hx kx zx))
                            exact ⟨⟨k + 1, by omega, by simp, hA, hB, hk⟩, by simp [intOf]; omega⟩
                    · have d5 : decide ((k : Int) < (S : Int)) = false := by rw [decide_eq_false_iff_not]; omega
                      go_wp2
                      go_ret
                      exact ⟨rfl, hk⟩
      · go_ret
        exact ⟨rfl, by first | exact (q1.trans q2).trans q3 | exact q1.trans q2⟩
end Go.Proofs.Ytckopikeegegkaa
/- DISKCRASH: the walk of the law. -/
namespace Go.Proofs.Ytckopikeegegkaa
open Go.RowKit Go.MapKept Go.Shelf
set_option linter.unusedSimpArgs false
set_option linter.unusedVariables false
theorem info_bool : (Try.prog.info? 4).map (fun i => (i.zero, i.size, i.bytes)) = some (some (.bool false), 1, 1) := by kernel_rfl
theorem read_now {d : Dk} {n : Nat} (h : n < d.there.length) : d.read n = (d.now n, 0) := by
  have : d.has n = true := by unfold Dk.has; simp; exact h
  unfold Dk.read; rw [if_pos this]; rfl
/-- Behind three crashes, at a sector that was kept aside. -/
theorem crash3_some {D : Dk} (hw : D.Wf) (keep : List Bool) (torn : Int) {ct : Nat} (hc : ct ≤ 64) {i n : Nat} {s : Str} (hi : D.aside[i]? = some (n, s)) (hn : n < D.there.length) :
    (D.crash [] (-1) 0).2.now n = D.there.getD n [] ∧ (D.crash (List.replicate D.aside.length true) (-1) 0).2.now n = s ∧
    (D.crash keep torn ct).2.now n = if (i : Int) = torn then s.take ct ++ (D.there.getD n []).drop ct else if keep.getD i false then s else D.there.getD n [] := by
  have hl : ∀ p ∈ D.aside, p.1 < D.there.length := fun p hp => (hw.aside p hp).1
  have hil : i < D.aside.length := (List.getElem?_eq_some_iff.1 hi).1
  have z : (0 : Int) = ((0 : Nat) : Int) := rfl
  refine ⟨?_, ?_, ?_⟩
  · rw [z, crash_now D [] (-1) 0 (by omega), fall_some [] (-1) 0 n s D.aside 0 i D.there hw.rises hl hi, if_neg (by omega), if_neg (by simp)]
  · rw [z, crash_now D _ (-1) 0 (by omega), fall_some _ (-1) 0 n s D.aside 0 i D.there hw.rises hl hi, if_neg (by omega), if_pos (by simp [List.getD_eq_getElem?_getD, hil])]
  · rw [crash_now D keep torn ct hc, fall_some keep torn ct n s D.aside 0 i D.there hw.rises hl hi, Nat.zero_add]
theorem crash3_none {D : Dk} (hw : D.Wf) (keep : List Bool) (torn : Int) {ct : Nat} (hc : ct ≤ 64) {n : Nat} (hi : ∀ p ∈ D.aside, p.1 ≠ n) :
    (D.crash [] (-1) 0).2.now n = D.there.getD n [] ∧ (D.crash (List.replicate D.aside.length true) (-1) 0).2.now n = D.there.getD n [] ∧ (D.crash keep torn ct).2.now n = D.there.getD n [] := by
  have hl : ∀ p ∈ D.aside, p.1 < D.there.length := fun p hp => (hw.aside p hp).1
  have z : (0 : Int) = ((0 : Nat) : Int) := rfl
  refine ⟨?_, ?_, ?_⟩
  · rw [z, crash_now D [] (-1) 0 (by omega), fall_none [] (-1) 0 n D.aside 0 D.there hl hi]
  · rw [z, crash_now D _ (-1) 0 (by omega), fall_none _ (-1) 0 n D.aside 0 D.there hl hi]
  · rw [crash_now D keep torn ct hc, fall_none keep torn ct n D.aside 0 D.there hl hi]
/-- The keys that Aside told, in memory. -/
def KeysAt (W : World) (ad : Option Addr) (A : List (Nat × Str)) (g : Nat) : Prop := ∀ k (hk : k < A.length), ad = some ⟨g, 0, none⟩ ∧ W.cell? ⟨g, k, none⟩ = some (.int .i64 (A[k].1 : Nat))
theorem KeysAt.keep {S : Nat → Prop} {W W' : World} {ad : Option Addr} {A : List (Nat × Str)} {g : Nat} (h : KeysAt W ad A g) (k : Keeps S W W') (hg : A ≠ [] → ¬ S g) : KeysAt W' ad A g := fun i hi =>
  ⟨(h i hi).1, cell_keeps k (h i hi).2 (hg (fun e => by rw [e] at hi; simp at hi))⟩
theorem keysAt_of {W0 W : World} {ad : Option Addr} {A : List (Nat × Str)} (h : ∀ k (hk : k < A.length), ∃ g, ad = some ⟨g, 0, none⟩ ∧ W0.heap.size ≤ g ∧ g < W.heap.size ∧ W.cell? ⟨g, k, none⟩ = some (.int .i64 (A[k].1 : Nat))) :
    ∃ g, KeysAt W ad A g ∧ (A ≠ [] → W0.heap.size ≤ g ∧ g < W.heap.size) := by
  cases A with
  | nil => exact ⟨0, fun k hk => by simp at hk, fun e => absurd rfl e⟩
  | cons x A =>
    obtain ⟨g, e, h1, h2, _⟩ := h 0 (by simp)
    refine ⟨g, fun k hk => ?_, fun _ => ⟨h1, h2⟩⟩
    obtain ⟨g', e', _, _, h3⟩ := h k hk
    rw [e] at e'; cases e'
    exact ⟨e, h3⟩
def trues (k n : Nat) : List Bool := List.replicate k true ++ List.replicate (n - k) false
theorem trues_length {k n : Nat} (h : k ≤ n) : (trues k n).length = n := by unfold trues; simp; omega
theorem trues_zero (n : Nat) : ((trues 0 n).map Value.bool).toArray = Array.replicate n (Value.bool false) := by unfold trues; simp
theorem trues_all (n : Nat) : trues n n = List.replicate n true := by unfold trues; simp
theorem trues_set {k n : Nat} (h : k < n) : ((trues k n).map Value.bool).set k (Value.bool true) = (trues (k + 1) n).map Value.bool := by
  rw [← List.map_set]
  congr 1
  unfold trues
  obtain ⟨m, hm⟩ : ∃ m, n - k = m + 1 := ⟨n - k - 1, by omega⟩
  rw [hm, show n - (k + 1) = m by omega, List.replicate_succ, List.set_append_right _ _ (by simp)]
  simp only [List.length_replicate, Nat.sub_self, List.set_cons_zero, List.replicate_succ']
  simp
theorem boolsAt_row {W : World} {b : Nat} {l : List Bool} {t : TypeId} {fr : Nat × Nat} (f : W.heap[b]? = some (.cells (l.map Value.bool).toArray t fr)) : BoolsAt W (.slice (some ⟨b, 0, none⟩) l.length l.length) l := by
  refine .inr ⟨_, _, rfl, fun i hi => ?_⟩
  have : (⟨b, 0, none⟩ : Addr).add i = ⟨b, i, none⟩ := by rw [addr_add]; simp
  rw [this]
  exact cell_blk f i _ (by simp [hi])
theorem ext_take (s : Str) (ct : Nat) : (bs s).extract 0 ct = bs (s.take ct) := by
  rw [bs_extract]; rfl
theorem ext_drop (s : Str) (ct : Nat) (h : s.length = 64) : (bs s).extract ct 64 = bs (s.drop ct) := by
  rw [bs_extract]; unfold sub; rw [← h, List.take_of_length_le (by simp)]
set_option maxRecDepth 20000 in
set_option maxHeartbeats 20000000 in
theorem diskCrash_walk (sectors torn cut : Int) (sv kv0 : Value) (l : List Stp) (keep : List Bool) (w : World) (hs : StepsAt w sv l) (hl : l.length ≤ maxLen) (hok : ∀ x ∈ l, StpOk x)
    (hkv : BoolsAt w kv0 keep) (hkl : keep.length ≤ maxLen) :
    Calls Try.prog 6 #[.int .i64 sectors, sv, kv0, .int .i64 torn, .int .i64 cut] w fun e w' => e = .returned (.bool true) ∧ Keeps noB w w' := by
  have hw := fun W => works_calls W
  have hlg := fun W h => large_calls sv l W h hl
  obtain ⟨ad, cap, rfl⟩ := hs.form
  obtain ⟨ak, ck, rfl⟩ := hkv.form
  have hm : (l.length : Int) ≤ 9223372036854775807 := by unfold maxLen at hl; omega
  by_cases hc : 200 < keep.length ∨ 60 < sectors
  · have h3 : decide (200 < (keep.length : Int)) = true ∨ decide (200 < (keep.length : Int)) = false ∧ decide (60 < sectors) = true := by
      simp only [decide_eq_true_eq, decide_eq_false_iff_not]; omega
    clear hc
    rcases h3 with d0 | ⟨d0, d2⟩
    all_goals go_enter Try.func6, Try.ntmps6
    all_goals go_wp2_with (first | (go_at_call 23; refine (hlg _ (hs.keep q1)).mono ?_; rintro e W2 ⟨rfl | rfl, q2⟩) | (go_at_call 22; refine (hw _).mono ?_; first | (rintro e W3 ⟨rfl, q3⟩; have q2' := q2) | rintro e W1 ⟨rfl, q1⟩))
    all_goals go_ret
    all_goals exact ⟨rfl, by first | exact (q1.trans q2).trans q3 | exact q1.trans q3⟩
  · have d0 : decide (200 < (keep.length : Int)) = false := by simp only [decide_eq_false_iff_not]; omega
    have d2 : decide (60 < sectors) = false := by simp only [decide_eq_false_iff_not]; omega
    by_cases hc1 : sectors < 1
    · have hn := fun W => new_bad sectors W (make_none hc1)
      go_enter Try.func6, Try.ntmps6
      go_wp2_with (first | (first | (go_at_call 23; refine (hlg _ (hs.keep q1)).mono ?_; rintro e W2 ⟨rfl | rfl, q2⟩) | (go_at_call 22; refine (hw _).mono ?_; first | (rintro e W3 ⟨rfl, q3⟩; have q2' := q2) | rintro e W1 ⟨rfl, q1⟩)) | (go_at_call 16; refine (hn _).mono ?_; rintro e W3 ⟨rfl, rfl⟩))
      all_goals go_ret
      all_goals exact ⟨rfl, by first | exact (q1.trans q2).trans q3 | exact q1.trans q2⟩
    · have hmk := make_some (n := sectors) (by omega) (by omega)
      obtain ⟨S, hS⟩ : ∃ S : Nat, sectors = S := ⟨sectors.toNat, by omega⟩
      subst hS
      rw [Int.toNat_natCast] at hmk
      have hlen0 : (Dk.zero S).there.length = S := by unfold Dk.zero; simp
      generalize Dk.zero S = D0 at *
      have cbn := cutE_bounds cut
      have ce2 : (IntKind.u64.wrap cut).tmod 65 = cutE cut := by
        have u : 0 ≤ IntKind.u64.wrap cut := by rw [IntKind.wrap_u64]; omega
        rw [Int.tmod_eq_emod_of_nonneg u]; rfl
      have ce3 : wrap64 (cutE cut) = cutE cut := IntWalk.wrap64_in _ (by omega)
      obtain ⟨ct, hct⟩ : ∃ ct : Nat, cutE cut = ct := ⟨(cutE cut).toNat, by omega⟩
      rw [hct] at ce2 ce3
      have hc64 : ct ≤ 64 := by omega
      clear hct cbn
      have z0 : 0 ≤ w.heap.size := Nat.zero_le _
      go_enter Try.func6, Try.ntmps6
      go_wp2_with (first | (first | (go_at_call 23; refine (hlg _ (hs.keep q1)).mono ?_; rintro e W2 ⟨rfl | rfl, q2⟩) | (go_at_call 22; refine (hw _).mono ?_; first | (rintro e W3 ⟨rfl, q3⟩; have q2' := q2) | rintro e W1 ⟨rfl, q1⟩)) | (go_at_call 16; (refine (dNew hmk).mono ?_); rintro e W3 ⟨p, q, j, rfl, hA, q3, lp, lq, lm⟩; have z1 := q1.size; have z2 := q2.size; replace lp : w.heap.size ≤ p := (by omega); replace lq : w.heap.size ≤ q := (by omega); replace lm : w.heap.size ≤ j := (by omega); have hk := (q1.trans q2).trans q3; have hz : 0 ≤ W3.heap.size := Nat.zero_le _; clear q1 q2 q3 z1 z2 hw hlg))
      · go_loopw [13] (fun i wr => ∃ (k : Nat) (D : Dk), k ≤ l.length ∧ i = .int .i64 k ∧ DiskAt wr p q j D ∧ D.there.length = S ∧ Keeps noB w wr) (fun i _ => l.length - (intOf i).toNat)
        case atStart => exact ⟨0, D0, by omega, rfl, hA, hlen0, hk⟩
        case round =>
          obtain ⟨k, D, hk1, rfl, hA, hD, hk⟩ := hrel
          by_cases c : k < l.length
          · have d3 : decide ((k : Int) < (l.length : Int)) = true := by rw [decide_eq_true_eq]; omega
            obtain ⟨a, rfl, hst⟩ := hs.at_ k c
            have ho := hok _ (List.getElem_mem c)
            generalize l[k] = st at *
            obtain ⟨kv, hsv⟩ := hst
            obtain ⟨hb, h0, h1, h2, h3, h4⟩ := hsv.keep hk
            obtain ⟨f, D', he⟩ : ∃ f D', doStep st D = (f, D') := ⟨_, _, rfl⟩
            have hD' := doStep_len st D
            rw [he] at hD'
            dsimp only at hD'
            have hap : 0 < st.keep.length → ∀ a n c, kv = .slice (some a) n c → ¬ dset p q j a.block := hsv.1.apart lp lq lm
            have hz : 0 ≤ wr.heap.size := Nat.zero_le _
            go_wp2_with (first | ((with_reducible apply wpl_loadStep 42 (hg := Try.isAgg42) (hs := Try.sizeOf42) (s := st) (kv := kv)); rfl; rfl; exact h0; exact h1; exact h2; exact h3; exact h4; rfl) | (go_at_call 25; (with_reducible refine (do_calls _ (by first | exact hA | exact hA.alloc _ | exact (hA.alloc _).alloc _ | exact hA.drew | exact hA.drew.alloc _ | exact (hA.alloc _).drew | exact ((hA.alloc _).alloc _).drew) hb hap ho.n1 he).mono ?_); rintro e Wx ⟨rfl, hx, kx⟩; have zx := kx.size; (try simp only [World.size_alloc, World.size_drew] at zx); skip; replace hk := Keeps.trans_new (by first | exact hk | exact hk.alloc _ | exact (hk.alloc _).alloc _ | exact hk.drew | exact hk.drew.alloc _ | exact (hk.alloc _).drew | exact ((hk.alloc _).alloc _).drew) kx (fun k hk q => by first | exact q.elim | (simp only [dset] at q; omega) | omega | (dsimp only at q; omega)); replace hz := Nat.le_trans hz (Nat.le_trans (by omega) zx); replace hA := hx; clear hx kx zx; skip))
            exact ⟨⟨k + 1, D', by omega, by simp, hA, by omega, hk⟩, by simp [intOf]; omega⟩
          · have d3 : decide ((k : Int) < (l.length : Int)) = false := by rw [decide_eq_false_iff_not]; omega
            have hwf := hA.wf
            obtain ⟨L, eL⟩ : ∃ L, D.crash [] (-1) 0 = (0, L) := ⟨_, crash_good_eq D [] (-1) 0 (by omega)⟩
            obtain ⟨K, eK⟩ : ∃ K, D.crash (List.replicate D.aside.length true) (-1) 0 = (0, K) := ⟨_, crash_good_eq D _ (-1) 0 (by omega)⟩
            obtain ⟨X, eX, hXa, hXl⟩ : ∃ X, D.crash keep torn ct = (0, X) ∧ X.aside = [] ∧ X.left = -1 := ⟨_, crash_good_eq D keep torn ct hc64, rfl, rfl⟩
            have hXd : X.dead = false := by unfold Dk.dead; rw [hXl]; rfl
            have n3 := fun (i n : Nat) (s : Str) hi hn => crash3_some hwf keep torn hc64 (i := i) (n := n) (s := s) hi hn
            have n0 := fun (n : Nat) hi => crash3_none hwf keep torn hc64 (n := n) hi
            have lL := crash_len D [] (-1) 0
            have lK := crash_len D (List.replicate D.aside.length true) (-1) 0
            have lX := crash_len D keep torn ct
            rw [eL] at n3 n0 lL
            rw [eK] at n3 n0 lK
            rw [eX] at n3 n0 lX
            dsimp only at n3 n0 lL lK lX
            have N3 := Lib.hid n3; have N0 := Lib.hid n0
            clear n3 n0
            have hal := aside_len hwf
            have y1 := hA.lt_p; have y2 := hA.lt_q; have y3 := hA.lt_m
            have hz : 0 ≤ wr.heap.size := Nat.zero_le _
            go_wp2_with (first | (go_at_call 27; (with_reducible refine (dAside (hA : DiskAt _ _ _ _ D)).mono ?_); rintro e Wx ⟨vas, rfl, hrow, hnil, hx, kx⟩; obtain ⟨ada, capa, rfl, hkeys⟩ := keys_row hrow; obtain ⟨g, hK, gb⟩ := keysAt_of hkeys; have zx := kx.size; (try simp only [World.size_alloc, World.size_drew] at zx); skip; replace hk := Keeps.trans_new (by first | exact hk | exact hk.alloc _ | exact (hk.alloc _).alloc _ | exact hk.drew | exact hk.drew.alloc _ | exact (hk.alloc _).drew | exact ((hk.alloc _).alloc _).drew) kx (fun k hk q => by first | exact q.elim | (simp only [dset] at q; omega) | omega | (dsimp only at q; omega)); replace hz := Nat.le_trans hz (Nat.le_trans (by omega) zx); replace hA := hx; clear hx kx zx hrow hnil hkeys) | (go_at_call 28; first | (have z9 := hB.lt_p; (refine (copy_calls _ (hA : DiskAt _ _ _ _ D)).mono ?_); rintro e Wx ⟨p3, q3, m3, rfl, hC, kx, x4, x5, x6⟩; have y7 := hB.lt_p; have y8 := hB.lt_q; have y9 := hB.lt_m; have zx := kx.size; (try simp only [World.size_alloc, World.size_drew] at zx); skip; replace hk := Keeps.trans_new (by first | exact hk | exact hk.alloc _ | exact (hk.alloc _).alloc _ | exact hk.drew | exact hk.drew.alloc _ | exact (hk.alloc _).drew | exact ((hk.alloc _).alloc _).drew) kx (fun k hk q => by first | exact q.elim | (simp only [dset] at q; omega) | omega | (dsimp only at q; omega)); replace hz := Nat.le_trans hz (Nat.le_trans (by omega) zx); replace hA := hA.keep kx (by first | exact (fun q => q) | (simp only [dset]; omega) | omega | (dsimp only; omega)) (by first | exact (fun q => q) | (simp only [dset]; omega) | omega | (dsimp only; omega)) (by first | exact (fun q => q) | (simp only [dset]; omega) | omega | (dsimp only; omega)); replace hB := hB.keep kx (by first | exact (fun q => q) | (simp only [dset]; omega) | omega | (dsimp only; omega)) (by first | exact (fun q => q) | (simp only [dset]; omega) | omega | (dsimp only; omega)) (by first | exact (fun q => q) | (simp only [dset]; omega) | omega | (dsimp only; omega)); replace hK := hK.keep kx (fun hne => by have := gb hne; first | exact (fun q => q) | (simp only [dset]; omega) | omega); clear kx zx z9) | ((refine (copy_calls _ (hA : DiskAt _ _ _ _ D)).mono ?_); rintro e Wx ⟨p2, q2, m2, rfl, hB, kx, x1, x2, x3⟩; have y4 := hA.lt_p; have y5 := hA.lt_q; have y6 := hA.lt_m; have zx := kx.size; (try simp only [World.size_alloc, World.size_drew] at zx); skip; replace hk := Keeps.trans_new (by first | exact hk | exact hk.alloc _ | exact (hk.alloc _).alloc _ | exact hk.drew | exact hk.drew.alloc _ | exact (hk.alloc _).drew | exact ((hk.alloc _).alloc _).drew) kx (fun k hk q => by first | exact q.elim | (simp only [dset] at q; omega) | omega | (dsimp only at q; omega)); replace hz := Nat.le_trans hz (Nat.le_trans (by omega) zx); replace hA := hA.keep kx (by first | exact (fun q => q) | (simp only [dset]; omega) | omega | (dsimp only; omega)) (by first | exact (fun q => q) | (simp only [dset]; omega) | omega | (dsimp only; omega)) (by first | exact (fun q => q) | (simp only [dset]; omega) | omega | (dsimp only; omega)); replace hK := hK.keep kx (fun hne => by have := gb hne; first | exact (fun q => q) | (simp only [dset]; omega) | omega); clear kx zx)) | (go_at_call 29; (with_reducible refine (dCrash hB (boolsAt_nil _) (fun h => absurd h (by decide)) eL).mono ?_); rintro e Wx ⟨rfl, hx, kx⟩; have zx := kx.size; (try simp only [World.size_alloc, World.size_drew] at zx); skip; replace hk := Keeps.trans_new (by first | exact hk | exact hk.alloc _ | exact (hk.alloc _).alloc _ | exact hk.drew | exact hk.drew.alloc _ | exact (hk.alloc _).drew | exact ((hk.alloc _).alloc _).drew) kx (fun k hk q => by first | exact q.elim | (simp only [dset] at q; omega) | omega | (dsimp only at q; omega)); replace hz := Nat.le_trans hz (Nat.le_trans (by omega) zx); replace hA := hA.keep kx (by first | exact (fun q => q) | (simp only [dset]; omega) | omega | (dsimp only; omega)) (by first | exact (fun q => q) | (simp only [dset]; omega) | omega | (dsimp only; omega)) (by first | exact (fun q => q) | (simp only [dset]; omega) | omega | (dsimp only; omega)); replace hC := hC.keep kx (by first | exact (fun q => q) | (simp only [dset]; omega) | omega | (dsimp only; omega)) (by first | exact (fun q => q) | (simp only [dset]; omega) | omega | (dsimp only; omega)) (by first | exact (fun q => q) | (simp only [dset]; omega) | omega | (dsimp only; omega)); replace hK := hK.keep kx (fun hne => by have := gb hne; first | exact (fun q => q) | (simp only [dset]; omega) | omega); replace hB := hx; clear kx zx hx) | ((with_reducible apply wpl_make 40 4 (n := D.aside.length) (k := 1) (by_ := 1) (Z := [.bool false]) (z := .bool false) (hu := Try.underlying40) (hi := info_bool)); rfl; rfl; rfl; rfl; rfl; omega; omega; omega; rfl))
            have f17 : (Wx.alloc (.cells (Array.replicate D.aside.length (Value.bool false)) 4)).heap[Wx.heap.size]? = some (.cells ((trues 0 D.aside.length).map Value.bool).toArray 4) := by rw [trues_zero]; exact heap_alloc_eq Wx _ _ rfl
            have kx : Keeps noB Wx (Wx.alloc (.cells (Array.replicate D.aside.length (Value.bool false)) 4)) := (Keeps.refl _ _).alloc _
            have w1 := hA.lt_p; have w2 := hA.lt_q; have w3 := hA.lt_m
            have w4 := hB.lt_p; have w5 := hB.lt_q; have w6 := hB.lt_m
            have w7 := hC.lt_p; have w8 := hC.lt_q; have w9 := hC.lt_m
            replace hA := hA.keep kx (by first | exact (fun q => q) | (simp only [dset]; omega) | omega | (dsimp only; omega)) (by first | exact (fun q => q) | (simp only [dset]; omega) | omega | (dsimp only; omega)) (by first | exact (fun q => q) | (simp only [dset]; omega) | omega | (dsimp only; omega)); replace hB := hB.keep kx (by first | exact (fun q => q) | (simp only [dset]; omega) | omega | (dsimp only; omega)) (by first | exact (fun q => q) | (simp only [dset]; omega) | omega | (dsimp only; omega)) (by first | exact (fun q => q) | (simp only [dset]; omega) | omega | (dsimp only; omega)); replace hC := hC.keep kx (by first | exact (fun q => q) | (simp only [dset]; omega) | omega | (dsimp only; omega)) (by first | exact (fun q => q) | (simp only [dset]; omega) | omega | (dsimp only; omega)) (by first | exact (fun q => q) | (simp only [dset]; omega) | omega | (dsimp only; omega))
            replace hK := hK.keep kx (fun hne => by have := gb hne; first | exact (fun q => q) | (simp only [dset]; omega) | omega)
            replace hk := hk.trans kx
            have gb2 : D.aside ≠ [] → g < Wx.heap.size := fun e => by have := gb e; omega
            generalize Wx.alloc (.cells (Array.replicate D.aside.length (Value.bool false)) 4) = W5 at *
            generalize Wx.heap.size = b17 at *
            clear kx
            go_loopw [18] (fun i wr => ∃ k : Nat, k ≤ D.aside.length ∧ i = .int .i64 k ∧ DiskAt wr p q j D ∧ DiskAt wr p2 q2 m2 L ∧ DiskAt wr p3 q3 m3 D ∧ KeysAt wr ada D.aside g ∧ wr.heap[b17]? = some (.cells ((trues k D.aside.length).map Value.bool).toArray 4) ∧ Keeps noB w wr) (fun i _ => D.aside.length - (intOf i).toNat)
            case atStart => exact ⟨0, by omega, rfl, hA, hB, hC, hK, f17, hk⟩
            case round =>
              obtain ⟨k, hk1, rfl, hA, hB, hC, hK, f17, hk⟩ := hrel
              by_cases c4 : k < D.aside.length
              · have d4 : decide ((k : Int) < (D.aside.length : Int)) = true := by rw [decide_eq_true_eq]; omega
                have hz : 0 ≤ wr.heap.size := Nat.zero_le _
                go_wp2_with ((with_reducible apply wpl_store1 4 (t := 4) (L := (trues k D.aside.length).map Value.bool) (v := .bool true)); rfl; rfl; rfl; exact Try.sizeOf4; exact f17; rfl; rfl; (rw [List.length_map, trues_length hk1]; exact c4); rfl; rw [trues_set c4]; have kx := keepsSet f17 ((trues (k + 1) D.aside.length).map Value.bool); have fn := setBox f17 ((trues (k + 1) D.aside.length).map Value.bool); have zx := kx.size; (try simp only [World.size_alloc, World.size_drew] at zx); skip; replace hk := Keeps.trans_new (by first | exact hk | exact hk.alloc _ | exact (hk.alloc _).alloc _ | exact hk.drew | exact hk.drew.alloc _ | exact (hk.alloc _).drew | exact ((hk.alloc _).alloc _).drew) kx (fun k hk q => by first | exact q.elim | (simp only [dset] at q; omega) | omega | (dsimp only at q; omega)); replace hz := Nat.le_trans hz (Nat.le_trans (by omega) zx); replace hA := hA.keep kx (by first | exact (fun q => q) | (simp only [dset]; omega) | omega | (dsimp only; omega)) (by first | exact (fun q => q) | (simp only [dset]; omega) | omega | (dsimp only; omega)) (by first | exact (fun q => q) | (simp only [dset]; omega) | omega | (dsimp only; omega)); replace hB := hB.keep kx (by first | exact (fun q => q) | (simp only [dset]; omega) | omega | (dsimp only; omega)) (by first | exact (fun q => q) | (simp only [dset]; omega) | omega | (dsimp only; omega)) (by first | exact (fun q => q) | (simp only [dset]; omega) | omega | (dsimp only; omega)); replace hC := hC.keep kx (by first | exact (fun q => q) | (simp only [dset]; omega) | omega | (dsimp only; omega)) (by first | exact (fun q => q) | (simp only [dset]; omega) | omega | (dsimp only; omega)) (by first | exact (fun q => q) | (simp only [dset]; omega) | omega | (dsimp only; omega)); replace hK := hK.keep kx (fun e => by have := gb2 e; omega); clear kx zx)
                exact ⟨⟨k + 1, by omega, by simp, hA, hB, hC, hK, fn, hk⟩, by simp [intOf]; omega⟩
              · have d4 : decide ((k : Int) < (D.aside.length : Int)) = false := by rw [decide_eq_false_iff_not]; omega
                obtain rfl : k = D.aside.length := by omega
                have hz : 0 ≤ wr.heap.size := Nat.zero_le _
                have hbo : BoolsAt wr (.slice (some ⟨b17, 0, none⟩) D.aside.length D.aside.length) (List.replicate D.aside.length true) := by
                  have := boolsAt_row f17
                  rw [trues_all] at this
                  simpa using this
                go_wp2_with (first | (go_at_call 29; first | ((with_reducible refine (dCrash hC hbo (fun _ a n c e => by cases e; simp only [dset]; omega) eK).mono ?_); rintro e Wx ⟨rfl, hx, kx⟩; have zx := kx.size; (try simp only [World.size_alloc, World.size_drew] at zx); skip; replace hk := Keeps.trans_new (by first | exact hk | exact hk.alloc _ | exact (hk.alloc _).alloc _ | exact hk.drew | exact hk.drew.alloc _ | exact (hk.alloc _).drew | exact ((hk.alloc _).alloc _).drew) kx (fun k hk q => by first | exact q.elim | (simp only [dset] at q; omega) | omega | (dsimp only at q; omega)); replace hz := Nat.le_trans hz (Nat.le_trans (by omega) zx); replace hA := hA.keep kx (by first | exact (fun q => q) | (simp only [dset]; omega) | omega | (dsimp only; omega)) (by first | exact (fun q => q) | (simp only [dset]; omega) | omega | (dsimp only; omega)) (by first | exact (fun q => q) | (simp only [dset]; omega) | omega | (dsimp only; omega)); replace hB := hB.keep kx (by first | exact (fun q => q) | (simp only [dset]; omega) | omega | (dsimp only; omega)) (by first | exact (fun q => q) | (simp only [dset]; omega) | omega | (dsimp only; omega)) (by first | exact (fun q => q) | (simp only [dset]; omega) | omega | (dsimp only; omega)); replace hK := hK.keep kx (fun hne => by have := gb hne; first | exact (fun q => q) | (simp only [dset]; omega) | omega); replace hC := hx; clear kx zx hx) | ((with_reducible refine (dCrash hA (hkv.carry hk) (hkv.apart (by omega) (by omega) (by omega)) eX).mono ?_); rintro e Wx ⟨rfl, hx, kx⟩; have zx := kx.size; (try simp only [World.size_alloc, World.size_drew] at zx); skip; replace hk := Keeps.trans_new (by first | exact hk | exact hk.alloc _ | exact (hk.alloc _).alloc _ | exact hk.drew | exact hk.drew.alloc _ | exact (hk.alloc _).drew | exact ((hk.alloc _).alloc _).drew) kx (fun k hk q => by first | exact q.elim | (simp only [dset] at q; omega) | omega | (dsimp only at q; omega)); replace hz := Nat.le_trans hz (Nat.le_trans (by omega) zx); replace hB := hB.keep kx (by first | exact (fun q => q) | (simp only [dset]; omega) | omega | (dsimp only; omega)) (by first | exact (fun q => q) | (simp only [dset]; omega) | omega | (dsimp only; omega)) (by first | exact (fun q => q) | (simp only [dset]; omega) | omega | (dsimp only; omega)); replace hC := hC.keep kx (by first | exact (fun q => q) | (simp only [dset]; omega) | omega | (dsimp only; omega)) (by first | exact (fun q => q) | (simp only [dset]; omega) | omega | (dsimp only; omega)) (by first | exact (fun q => q) | (simp only [dset]; omega) | omega | (dsimp only; omega)); replace hK := hK.keep kx (fun hne => by have := gb hne; first | exact (fun q => q) | (simp only [dset]; omega) | omega); replace hA := hx; clear kx zx hx)) | (go_at_call 27; (with_reducible refine (dAside (hA : DiskAt _ _ _ _ X)).mono ?_); rintro e Wx ⟨vas, rfl, hrow, hnil, hx, kx⟩; obtain rfl := hnil.2 hXa; have zx := kx.size; (try simp only [World.size_alloc, World.size_drew] at zx); skip; replace hk := Keeps.trans_new (by first | exact hk | exact hk.alloc _ | exact (hk.alloc _).alloc _ | exact hk.drew | exact hk.drew.alloc _ | exact (hk.alloc _).drew | exact ((hk.alloc _).alloc _).drew) kx (fun k hk q => by first | exact q.elim | (simp only [dset] at q; omega) | omega | (dsimp only at q; omega)); replace hz := Nat.le_trans hz (Nat.le_trans (by omega) zx); replace hB := hB.keep kx (by first | exact (fun q => q) | (simp only [dset]; omega) | omega | (dsimp only; omega)) (by first | exact (fun q => q) | (simp only [dset]; omega) | omega | (dsimp only; omega)) (by first | exact (fun q => q) | (simp only [dset]; omega) | omega | (dsimp only; omega)); replace hC := hC.keep kx (by first | exact (fun q => q) | (simp only [dset]; omega) | omega | (dsimp only; omega)) (by first | exact (fun q => q) | (simp only [dset]; omega) | omega | (dsimp only; omega)) (by first | exact (fun q => q) | (simp only [dset]; omega) | omega | (dsimp only; omega)); replace hK := hK.keep kx (fun hne => by have := gb hne; first | exact (fun q => q) | (simp only [dset]; omega) | omega); replace hA := hx; clear hx kx zx hrow hnil) | (go_at_call 30; (refine (dDead (by first | exact hA | exact hA.alloc _ | exact (hA.alloc _).alloc _ | exact hA.drew | exact hA.drew.alloc _ | exact (hA.alloc _).drew | exact ((hA.alloc _).alloc _).drew) hXd).mono ?_); rintro e W7 ⟨rfl, rfl⟩))
                clear hbo f17 hk1 eL eK eX
                go_loopw [19, 20] (fun t i wr => ∃ m n : Nat, m ≤ D.aside.length ∧ n ≤ S ∧ t = .int .i64 m ∧ i = .int .i64 n ∧ (∀ i (h : i < D.aside.length), i < m → D.aside[i].1 < n) ∧ (∀ i (h : i < D.aside.length), m ≤ i → n ≤ D.aside[i].1) ∧
                    DiskAt wr p q j X ∧ DiskAt wr p2 q2 m2 L ∧ DiskAt wr p3 q3 m3 K ∧ KeysAt wr ada D.aside g ∧ Keeps noB w wr) (fun _ i _ => S - (intOf i).toNat)
                case atStart => exact ⟨0, 0, by omega, by omega, rfl, rfl, fun i _ h => absurd h (by omega), fun i _ _ => by omega, hA, hB, hC, hK, hk⟩
                case round =>
                  obtain ⟨m, n, hm1, hn1, rfl, rfl, hlo, hhi, hA, hB, hC, hK, hk⟩ := hrel
                  by_cases c5 : n < S
                  · have d5 : decide ((n : Int) < (S : Int)) = true := by rw [decide_eq_true_eq]; omega
                    have r1 := read_now (d := X) (n := n) (by omega)
                    have r2 := read_now (d := L) (n := n) (by omega)
                    have r3 := read_now (d := K) (n := n) (by omega)
                    have hz : 0 ≤ wr.heap.size := Nat.zero_le _
                    by_cases hkey : ∃ h : m < D.aside.length, D.aside[m].1 = n
                    · obtain ⟨hml, hmn⟩ := hkey
                      have hx : D.aside[m]? = some (n, (D.aside[m]).2) := by rw [List.getElem?_eq_getElem hml, ← hmn]
                      obtain ⟨v2, v3, v1⟩ := N3.out m n _ hx (by omega)
                      rw [v1] at r1; rw [v2] at r2; rw [v3] at r3
                      clear v1 v2 v3
                      have ls : D.aside[m].2.length = 64 := (hwf.aside _ (List.getElem_mem hml)).2
                      have l0 : (D.there.getD n []).length = 64 := getD_64 hwf.there (by omega)
                      generalize D.aside[m].2 = s at *
                      generalize D.there.getD n [] = s0 at *
                      obtain ⟨hada, hcm0⟩ := hK m hml
                      subst hada
                      have d6 : decide ((m : Int) < (D.aside.length : Int)) = true := by rw [decide_eq_true_eq]; omega
                      have fin : ∀ W, DiskAt W p q j X → DiskAt W p2 q2 m2 L → DiskAt W p3 q3 m3 K → KeysAt W (some ⟨g, 0, none⟩) D.aside g → Keeps noB w W →
                          (∃ m_1 n_1 : Nat, m_1 ≤ D.aside.length ∧ n_1 ≤ S ∧ Value.int .i64 ((m : Int) + 1) = .int .i64 m_1 ∧ Value.int .i64 ((n : Int) + 1) = .int .i64 n_1 ∧ (∀ i (h : i < D.aside.length), i < m_1 → D.aside[i].1 < n_1) ∧ (∀ i (h : i < D.aside.length), m_1 ≤ i → n_1 ≤ D.aside[i].1) ∧
                            DiskAt W p q j X ∧ DiskAt W p2 q2 m2 L ∧ DiskAt W p3 q3 m3 K ∧ KeysAt W (some ⟨g, 0, none⟩) D.aside g ∧ Keeps noB w W) := fun W h1 h2 h3 h4 h5 =>
                        ⟨m + 1, n + 1, by omega, by omega, by simp, by simp, fun i hi h => by
                          by_cases e : i = m
                          · subst e; omega
                          · have := hlo i hi (by omega); omega, fun i hi h => by
                          have h2 : D.aside[m].1 < D.aside[i].1 := List.pairwise_iff_getElem.1 hwf.rises m i hml hi (by omega)
                          omega, h1, h2, h3, h4, h5⟩
                      have kcm : ∀ W, KeysAt W (some ⟨g, 0, none⟩) D.aside g → W.cell? ⟨g, m, none⟩ = some (.int .i64 (n : Nat)) := fun W h => by rw [(h m hml).2, hmn]
                      have Hmn := Lib.hid hmn; clear hmn hcm0 hx
                      by_cases hkp : m < keep.length
                      · have d7 : decide ((m : Int) < (keep.length : Int)) = true := by rw [decide_eq_true_eq]; omega
                        obtain ⟨a, rfl, hkc⟩ := hkv.at_ m hkp
                        have hgd : keep.getD m false = keep[m] := by simp [List.getD_eq_getElem?_getD, hkp]
                        rw [hgd] at r1
                        clear hgd
                        cases hkm : keep[m] with
                        | true =>
                          rw [hkm] at r1 hkc
                          simp only [if_true] at r1
                          clear hkm
                          by_cases ht : (m : Int) = torn
                          · have bt : ((m : Int) == torn) = true := by simpa using ht
                            rw [if_pos ht] at r1
                            clear ht
                            go_wp2_with (first | (go_at_call 24; (with_reducible refine (dRead (hA : DiskAt _ _ _ _ X) r1).mono ?_); rintro e Wx ⟨rfl, hx, kx⟩; have zx := kx.size; (try simp only [World.size_alloc, World.size_drew] at zx); skip; replace hk := Keeps.trans_new (by first | exact hk | exact hk.alloc _ | exact (hk.alloc _).alloc _ | exact hk.drew | exact hk.drew.alloc _ | exact (hk.alloc _).drew | exact ((hk.alloc _).alloc _).drew) kx (fun k hk q => by first | exact q.elim | (simp only [dset] at q; omega) | omega | (dsimp only at q; omega)); replace hz := Nat.le_trans hz (Nat.le_trans (by omega) zx); replace hB := hB.keep kx (by first | exact (fun q => q) | (simp only [dset]; omega) | omega | (dsimp only; omega)) (by first | exact (fun q => q) | (simp only [dset]; omega) | omega | (dsimp only; omega)) (by first | exact (fun q => q) | (simp only [dset]; omega) | omega | (dsimp only; omega)); replace hC := hC.keep kx (by first | exact (fun q => q) | (simp only [dset]; omega) | omega | (dsimp only; omega)) (by first | exact (fun q => q) | (simp only [dset]; omega) | omega | (dsimp only; omega)) (by first | exact (fun q => q) | (simp only [dset]; omega) | omega | (dsimp only; omega)); replace hK := hK.keep kx (fun hne => by have := gb hne; first | exact (fun q => q) | (simp only [dset]; omega) | omega); replace hA := hx; clear hx kx zx; skip) | (go_at_call 24; (with_reducible refine (dRead (hB : DiskAt _ _ _ _ L) r2).mono ?_); rintro e Wx ⟨rfl, hx, kx⟩; have zx := kx.size; (try simp only [World.size_alloc, World.size_drew] at zx); skip; replace hk := Keeps.trans_new (by first | exact hk | exact hk.alloc _ | exact (hk.alloc _).alloc _ | exact hk.drew | exact hk.drew.alloc _ | exact (hk.alloc _).drew | exact ((hk.alloc _).alloc _).drew) kx (fun k hk q => by first | exact q.elim | (simp only [dset] at q; omega) | omega | (dsimp only at q; omega)); replace hz := Nat.le_trans hz (Nat.le_trans (by omega) zx); replace hA := hA.keep kx (by first | exact (fun q => q) | (simp only [dset]; omega) | omega | (dsimp only; omega)) (by first | exact (fun q => q) | (simp only [dset]; omega) | omega | (dsimp only; omega)) (by first | exact (fun q => q) | (simp only [dset]; omega) | omega | (dsimp only; omega)); replace hC := hC.keep kx (by first | exact (fun q => q) | (simp only [dset]; omega) | omega | (dsimp only; omega)) (by first | exact (fun q => q) | (simp only [dset]; omega) | omega | (dsimp only; omega)) (by first | exact (fun q => q) | (simp only [dset]; omega) | omega | (dsimp only; omega)); replace hK := hK.keep kx (fun hne => by have := gb hne; first | exact (fun q => q) | (simp only [dset]; omega) | omega); replace hB := hx; clear hx kx zx) | (go_at_call 24; (with_reducible refine (dRead (hC : DiskAt _ _ _ _ K) r3).mono ?_); rintro e Wx ⟨rfl, hx, kx⟩; have zx := kx.size; (try simp only [World.size_alloc, World.size_drew] at zx); skip; replace hk := Keeps.trans_new (by first | exact hk | exact hk.alloc _ | exact (hk.alloc _).alloc _ | exact hk.drew | exact hk.drew.alloc _ | exact (hk.alloc _).drew | exact ((hk.alloc _).alloc _).drew) kx (fun k hk q => by first | exact q.elim | (simp only [dset] at q; omega) | omega | (dsimp only at q; omega)); replace hz := Nat.le_trans hz (Nat.le_trans (by omega) zx); replace hA := hA.keep kx (by first | exact (fun q => q) | (simp only [dset]; omega) | omega | (dsimp only; omega)) (by first | exact (fun q => q) | (simp only [dset]; omega) | omega | (dsimp only; omega)) (by first | exact (fun q => q) | (simp only [dset]; omega) | omega | (dsimp only; omega)); replace hB := hB.keep kx (by first | exact (fun q => q) | (simp only [dset]; omega) | omega | (dsimp only; omega)) (by first | exact (fun q => q) | (simp only [dset]; omega) | omega | (dsimp only; omega)) (by first | exact (fun q => q) | (simp only [dset]; omega) | omega | (dsimp only; omega)); replace hK := hK.keep kx (fun hne => by have := gb hne; first | exact (fun q => q) | (simp only [dset]; omega) | omega); replace hC := hx; clear hx kx zx; have hcm := kcm _ hK; have hkc2 := cell_keeps hk hkc (fun q => q)))
                            refine wp_region_text [(0, true), (1, true), (2, true), (3, true), (4, true), (5, true), (6, true), (7, true)] (fun _ => True) (by kernel_rfl) (by kernel_rfl) (fun d _ _ _ _ h => by cases d <;> exact h) trivial ?_
                            iterate 2 (apply wpText_take; rfl; rfl; (intro W hS; (try dsimp only at hS); (try (have hS1 := hS.1; have hS2 := hS.2)); go_simp; exact rfl); try simp only [Act.put, List.setIfInBounds_toArray, List.set_cons_succ, List.set_cons_zero])
                            apply wpText_take (v := .string (bs (s.take ct))); rfl; rfl; (intro W hS; go_simp; rw [if_pos (by omega), ext_take]); try simp only [Act.put, List.setIfInBounds_toArray, List.set_cons_succ, List.set_cons_zero]
                            iterate 2 (apply wpText_take; rfl; rfl; (intro W hS; (try dsimp only at hS); (try (have hS1 := hS.1; have hS2 := hS.2)); go_simp; exact rfl); try simp only [Act.put, List.setIfInBounds_toArray, List.set_cons_succ, List.set_cons_zero])
                            apply wpText_take (v := .string (bs (s0.drop ct))); rfl; rfl; (intro W hS; go_simp; rw [if_pos (by omega), ext_drop s0 ct l0]); try simp only [Act.put, List.setIfInBounds_toArray, List.set_cons_succ, List.set_cons_zero]
                            apply wpText_take (v := .string (bs (s.take ct ++ s0.drop ct))); rfl; rfl; (intro W hS; go_simp; rw [bs_app]); try simp only [Act.put, List.setIfInBounds_toArray, List.set_cons_succ, List.set_cons_zero]
                            iterate 1 (apply wpText_take; rfl; rfl; (intro W hS; (try dsimp only at hS); (try (have hS1 := hS.1; have hS2 := hS.2)); go_simp; exact rfl); try simp only [Act.put, List.setIfInBounds_toArray, List.set_cons_succ, List.set_cons_zero])
                            apply wpText_done
                            replace hk := hk.drew
                            go_wp2
                            exact ⟨fin _ (by first | exact hA | exact hA.drew) (by first | exact hB | exact hB.drew) (by first | exact hC | exact hC.drew) (by first | exact hK | exact hK.drew) hk, by simp [intOf]; omega⟩
                          · have bt : ((m : Int) == torn) = false := by simpa using ht
                            rw [if_neg ht] at r1
                            clear ht
                            go_wp2_with (first | (go_at_call 24; (with_reducible refine (dRead (hA : DiskAt _ _ _ _ X) r1).mono ?_); rintro e Wx ⟨rfl, hx, kx⟩; have zx := kx.size; (try simp only [World.size_alloc, World.size_drew] at zx); skip; replace hk := Keeps.trans_new (by first | exact hk | exact hk.alloc _ | exact (hk.alloc _).alloc _ | exact hk.drew | exact hk.drew.alloc _ | exact (hk.alloc _).drew | exact ((hk.alloc _).alloc _).drew) kx (fun k hk q => by first | exact q.elim | (simp only [dset] at q; omega) | omega | (dsimp only at q; omega)); replace hz := Nat.le_trans hz (Nat.le_trans (by omega) zx); replace hB := hB.keep kx (by first | exact (fun q => q) | (simp only [dset]; omega) | omega | (dsimp only; omega)) (by first | exact (fun q => q) | (simp only [dset]; omega) | omega | (dsimp only; omega)) (by first | exact (fun q => q) | (simp only [dset]; omega) | omega | (dsimp only; omega)); replace hC := hC.keep kx (by first | exact (fun q => q) | (simp only [dset]; omega) | omega | (dsimp only; omega)) (by first | exact (fun q => q) | (simp only [dset]; omega) | omega | (dsimp only; omega)) (by first | exact (fun q => q) | (simp only [dset]; omega) | omega | (dsimp only; omega)); replace hK := hK.keep kx (fun hne => by have := gb hne; first | exact (fun q => q) | (simp only [dset]; omega) | omega); replace hA := hx; clear hx kx zx; skip) | (go_at_call 24; (with_reducible refine (dRead (hB : DiskAt _ _ _ _ L) r2).mono ?_); rintro e Wx ⟨rfl, hx, kx⟩; have zx := kx.size; (try simp only [World.size_alloc, World.size_drew] at zx); skip; replace hk := Keeps.trans_new (by first | exact hk | exact hk.alloc _ | exact (hk.alloc _).alloc _ | exact hk.drew | exact hk.drew.alloc _ | exact (hk.alloc _).drew | exact ((hk.alloc _).alloc _).drew) kx (fun k hk q => by first | exact q.elim | (simp only [dset] at q; omega) | omega | (dsimp only at q; omega)); replace hz := Nat.le_trans hz (Nat.le_trans (by omega) zx); replace hA := hA.keep kx (by first | exact (fun q => q) | (simp only [dset]; omega) | omega | (dsimp only; omega)) (by first | exact (fun q => q) | (simp only [dset]; omega) | omega | (dsimp only; omega)) (by first | exact (fun q => q) | (simp only [dset]; omega) | omega | (dsimp only; omega)); replace hC := hC.keep kx (by first | exact (fun q => q) | (simp only [dset]; omega) | omega | (dsimp only; omega)) (by first | exact (fun q => q) | (simp only [dset]; omega) | omega | (dsimp only; omega)) (by first | exact (fun q => q) | (simp only [dset]; omega) | omega | (dsimp only; omega)); replace hK := hK.keep kx (fun hne => by have := gb hne; first | exact (fun q => q) | (simp only [dset]; omega) | omega); replace hB := hx; clear hx kx zx) | (go_at_call 24; (with_reducible refine (dRead (hC : DiskAt _ _ _ _ K) r3).mono ?_); rintro e Wx ⟨rfl, hx, kx⟩; have zx := kx.size; (try simp only [World.size_alloc, World.size_drew] at zx); skip; replace hk := Keeps.trans_new (by first | exact hk | exact hk.alloc _ | exact (hk.alloc _).alloc _ | exact hk.drew | exact hk.drew.alloc _ | exact (hk.alloc _).drew | exact ((hk.alloc _).alloc _).drew) kx (fun k hk q => by first | exact q.elim | (simp only [dset] at q; omega) | omega | (dsimp only at q; omega)); replace hz := Nat.le_trans hz (Nat.le_trans (by omega) zx); replace hA := hA.keep kx (by first | exact (fun q => q) | (simp only [dset]; omega) | omega | (dsimp only; omega)) (by first | exact (fun q => q) | (simp only [dset]; omega) | omega | (dsimp only; omega)) (by first | exact (fun q => q) | (simp only [dset]; omega) | omega | (dsimp only; omega)); replace hB := hB.keep kx (by first | exact (fun q => q) | (simp only [dset]; omega) | omega | (dsimp only; omega)) (by first | exact (fun q => q) | (simp only [dset]; omega) | omega | (dsimp only; omega)) (by first | exact (fun q => q) | (simp only [dset]; omega) | omega | (dsimp only; omega)); replace hK := hK.keep kx (fun hne => by have := gb hne; first | exact (fun q => q) | (simp only [dset]; omega) | omega); replace hC := hx; clear hx kx zx; have hcm := kcm _ hK; have hkc2 := cell_keeps hk hkc (fun q => q)))
                            exact ⟨fin _ (by first | exact hA | exact hA.drew) (by first | exact hB | exact hB.drew) (by first | exact hC | exact hC.drew) (by first | exact hK | exact hK.drew) hk, by simp [intOf]; omega⟩
                        | false =>
                          rw [hkm] at r1 hkc
                          simp only [Bool.false_eq_true, if_false] at r1
                          clear hkm
                          by_cases ht : (m : Int) = torn
                          · have bt : ((m : Int) == torn) = true := by simpa using ht
                            rw [if_pos ht] at r1
                            clear ht
                            go_wp2_with (first | (go_at_call 24; (with_reducible refine (dRead (hA : DiskAt _ _ _ _ X) r1).mono ?_); rintro e Wx ⟨rfl, hx, kx⟩; have zx := kx.size; (try simp only [World.size_alloc, World.size_drew] at zx); skip; replace hk := Keeps.trans_new (by first | exact hk | exact hk.alloc _ | exact (hk.alloc _).alloc _ | exact hk.drew | exact hk.drew.alloc _ | exact (hk.alloc _).drew | exact ((hk.alloc _).alloc _).drew) kx (fun k hk q => by first | exact q.elim | (simp only [dset] at q; omega) | omega | (dsimp only at q; omega)); replace hz := Nat.le_trans hz (Nat.le_trans (by omega) zx); replace hB := hB.keep kx (by first | exact (fun q => q) | (simp only [dset]; omega) | omega | (dsimp only; omega)) (by first | exact (fun q => q) | (simp only [dset]; omega) | omega | (dsimp only; omega)) (by first | exact (fun q => q) | (simp only [dset]; omega) | omega | (dsimp only; omega)); replace hC := hC.keep kx (by first | exact (fun q => q) | (simp only [dset]; omega) | omega | (dsimp only; omega)) (by first | exact (fun q => q) | (simp only [dset]; omega) | omega | (dsimp only; omega)) (by first | exact (fun q => q) | (simp only [dset]; omega) | omega | (dsimp only; omega)); replace hK := hK.keep kx (fun hne => by have := gb hne; first | exact (fun q => q) | (simp only [dset]; omega) | omega); replace hA := hx; clear hx kx zx; skip) | (go_at_call 24; (with_reducible refine (dRead (hB : DiskAt _ _ _ _ L) r2).mono ?_); rintro e Wx ⟨rfl, hx, kx⟩; have zx := kx.size; (try simp only [World.size_alloc, World.size_drew] at zx); skip; replace hk := Keeps.trans_new (by first | exact hk | exact hk.alloc _ | exact (hk.alloc _).alloc _ | exact hk.drew | exact hk.drew.alloc _ | exact (hk.alloc _).drew | exact ((hk.alloc _).alloc _).drew) kx (fun k hk q => by first | exact q.elim | (simp only [dset] at q; omega) | omega | (dsimp only at q; omega)); replace hz := Nat.le_trans hz (Nat.le_trans (by omega) zx); replace hA := hA.keep kx (by first | exact (fun q => q) | (simp only [dset]; omega) | omega | (dsimp only; omega)) (by first | exact (fun q => q) | (simp only [dset]; omega) | omega | (dsimp only; omega)) (by first | exact (fun q => q) | (simp only [dset]; omega) | omega | (dsimp only; omega)); replace hC := hC.keep kx (by first | exact (fun q => q) | (simp only [dset]; omega) | omega | (dsimp only; omega)) (by first | exact (fun q => q) | (simp only [dset]; omega) | omega | (dsimp only; omega)) (by first | exact (fun q => q) | (simp only [dset]; omega) | omega | (dsimp only; omega)); replace hK := hK.keep kx (fun hne => by have := gb hne; first | exact (fun q => q) | (simp only [dset]; omega) | omega); replace hB := hx; clear hx kx zx) | (go_at_call 24; (with_reducible refine (dRead (hC : DiskAt _ _ _ _ K) r3).mono ?_); rintro e Wx ⟨rfl, hx, kx⟩; have zx := kx.size; (try simp only [World.size_alloc, World.size_drew] at zx); skip; replace hk := Keeps.trans_new (by first | exact hk | exact hk.alloc _ | exact (hk.alloc _).alloc _ | exact hk.drew | exact hk.drew.alloc _ | exact (hk.alloc _).drew | exact ((hk.alloc _).alloc _).drew) kx (fun k hk q => by first | exact q.elim | (simp only [dset] at q; omega) | omega | (dsimp only at q; omega)); replace hz := Nat.le_trans hz (Nat.le_trans (by omega) zx); replace hA := hA.keep kx (by first | exact (fun q => q) | (simp only [dset]; omega) | omega | (dsimp only; omega)) (by first | exact (fun q => q) | (simp only [dset]; omega) | omega | (dsimp only; omega)) (by first | exact (fun q => q) | (simp only [dset]; omega) | omega | (dsimp only; omega)); replace hB := hB.keep kx (by first | exact (fun q => q) | (simp only [dset]; omega) | omega | (dsimp only; omega)) (by first | exact (fun q => q) | (simp only [dset]; omega) | omega | (dsimp only; omega)) (by first | exact (fun q => q) | (simp only [dset]; omega) | omega | (dsimp only; omega)); replace hK := hK.keep kx (fun hne => by have := gb hne; first | exact (fun q => q) | (simp only [dset]; omega) | omega); replace hC := hx; clear hx kx zx; have hcm := kcm _ hK; have hkc2 := cell_keeps hk hkc (fun q => q)))
                            refine wp_region_text [(0, true), (1, true), (2, true), (3, true), (4, true), (5, true), (6, true), (7, true)] (fun _ => True) (by kernel_rfl) (by kernel_rfl) (fun d _ _ _ _ h => by cases d <;> exact h) trivial ?_
                            iterate 2 (apply wpText_take; rfl; rfl; (intro W hS; (try dsimp only at hS); (try (have hS1 := hS.1; have hS2 := hS.2)); go_simp; exact rfl); try simp only [Act.put, List.setIfInBounds_toArray, List.set_cons_succ, List.set_cons_zero])
                            apply wpText_take (v := .string (bs (s.take ct))); rfl; rfl; (intro W hS; go_simp; rw [if_pos (by omega), ext_take]); try simp only [Act.put, List.setIfInBounds_toArray, List.set_cons_succ, List.set_cons_zero]
                            iterate 2 (apply wpText_take; rfl; rfl; (intro W hS; (try dsimp only at hS); (try (have hS1 := hS.1; have hS2 := hS.2)); go_simp; exact rfl); try simp only [Act.put, List.setIfInBounds_toArray, List.set_cons_succ, List.set_cons_zero])
                            apply wpText_take (v := .string (bs (s0.drop ct))); rfl; rfl; (intro W hS; go_simp; rw [if_pos (by omega), ext_drop s0 ct l0]); try simp only [Act.put, List.setIfInBounds_toArray, List.set_cons_succ, List.set_cons_zero]
                            apply wpText_take (v := .string (bs (s.take ct ++ s0.drop ct))); rfl; rfl; (intro W hS; go_simp; rw [bs_app]); try simp only [Act.put, List.setIfInBounds_toArray, List.set_cons_succ, List.set_cons_zero]
                            iterate 1 (apply wpText_take; rfl; rfl; (intro W hS; (try dsimp only at hS); (try (have hS1 := hS.1; have hS2 := hS.2)); go_simp; exact rfl); try simp only [Act.put, List.setIfInBounds_toArray, List.set_cons_succ, List.set_cons_zero])
                            apply wpText_done
                            replace hk := hk.drew
                            go_wp2
                            exact ⟨fin _ (by first | exact hA | exact hA.drew) (by first | exact hB | exact hB.drew) (by first | exact hC | exact hC.drew) (by first | exact hK | exact hK.drew) hk, by simp [intOf]; omega⟩
                          · have bt : ((m : Int) == torn) = false := by simpa using ht
                            rw [if_neg ht] at r1
                            clear ht
                            go_wp2_with (first | (go_at_call 24; (with_reducible refine (dRead (hA : DiskAt _ _ _ _ X) r1).mono ?_); rintro e Wx ⟨rfl, hx, kx⟩; have zx := kx.size; (try simp only [World.size_alloc, World.size_drew] at zx); skip; replace hk := Keeps.trans_new (by first | exact hk | exact hk.alloc _ | exact (hk.alloc _).alloc _ | exact hk.drew | exact hk.drew.alloc _ | exact (hk.alloc _).drew | exact ((hk.alloc _).alloc _).drew) kx (fun k hk q => by first | exact q.elim | (simp only [dset] at q; omega) | omega | (dsimp only at q; omega)); replace hz := Nat.le_trans hz (Nat.le_trans (by omega) zx); replace hB := hB.keep kx (by first | exact (fun q => q) | (simp only [dset]; omega) | omega | (dsimp only; omega)) (by first | exact (fun q => q) | (simp only [dset]; omega) | omega | (dsimp only; omega)) (by first | exact (fun q => q) | (simp only [dset]; omega) | omega | (dsimp only; omega)); replace hC := hC.keep kx (by first | exact (fun q => q) | (simp only [dset]; omega) | omega | (dsimp only; omega)) (by first | exact (fun q => q) | (simp only [dset]; omega) | omega | (dsimp only; omega)) (by first | exact (fun q => q) | (simp only [dset]; omega) | omega | (dsimp only; omega)); replace hK := hK.keep kx (fun hne => by have := gb hne; first | exact (fun q => q) | (simp only [dset]; omega) | omega); replace hA := hx; clear hx kx zx; skip) | (go_at_call 24; (with_reducible refine (dRead (hB : DiskAt _ _ _ _ L) r2).mono ?_); rintro e Wx ⟨rfl, hx, kx⟩; have zx := kx.size; (try simp only [World.size_alloc, World.size_drew] at zx); skip; replace hk := Keeps.trans_new (by first | exact hk | exact hk.alloc _ | exact (hk.alloc _).alloc _ | exact hk.drew | exact hk.drew.alloc _ | exact (hk.alloc _).drew | exact ((hk.alloc _).alloc _).drew) kx (fun k hk q => by first | exact q.elim | (simp only [dset] at q; omega) | omega | (dsimp only at q; omega)); replace hz := Nat.le_trans hz (Nat.le_trans (by omega) zx); replace hA := hA.keep kx (by first | exact (fun q => q) | (simp only [dset]; omega) | omega | (dsimp only; omega)) (by first | exact (fun q => q) | (simp only [dset]; omega) | omega | (dsimp only; omega)) (by first | exact (fun q => q) | (simp only [dset]; omega) | omega | (dsimp only; omega)); replace hC := hC.keep kx (by first | exact (fun q => q) | (simp only [dset]; omega) | omega | (dsimp only; omega)) (by first | exact (fun q => q) | (simp only [dset]; omega) | omega | (dsimp only; omega)) (by first | exact (fun q => q) | (simp only [dset]; omega) | omega | (dsimp only; omega)); replace hK := hK.keep kx (fun hne => by have := gb hne; first | exact (fun q => q) | (simp only [dset]; omega) | omega); replace hB := hx; clear hx kx zx) | (go_at_call 24; (with_reducible refine (dRead (hC : DiskAt _ _ _ _ K) r3).mono ?_); rintro e Wx ⟨rfl, hx, kx⟩; have zx := kx.size; (try simp only [World.size_alloc, World.size_drew] at zx); skip; replace hk := Keeps.trans_new (by first | exact hk | exact hk.alloc _ | exact (hk.alloc _).alloc _ | exact hk.drew | exact hk.drew.alloc _ | exact (hk.alloc _).drew | exact ((hk.alloc _).alloc _).drew) kx (fun k hk q => by first | exact q.elim | (simp only [dset] at q; omega) | omega | (dsimp only at q; omega)); replace hz := Nat.le_trans hz (Nat.le_trans (by omega) zx); replace hA := hA.keep kx (by first | exact (fun q => q) | (simp only [dset]; omega) | omega | (dsimp only; omega)) (by first | exact (fun q => q) | (simp only [dset]; omega) | omega | (dsimp only; omega)) (by first | exact (fun q => q) | (simp only [dset]; omega) | omega | (dsimp only; omega)); replace hB := hB.keep kx (by first | exact (fun q => q) | (simp only [dset]; omega) | omega | (dsimp only; omega)) (by first | exact (fun q => q) | (simp only [dset]; omega) | omega | (dsimp only; omega)) (by first | exact (fun q => q) | (simp only [dset]; omega) | omega | (dsimp only; omega)); replace hK := hK.keep kx (fun hne => by have := gb hne; first | exact (fun q => q) | (simp only [dset]; omega) | omega); replace hC := hx; clear hx kx zx; have hcm := kcm _ hK; have hkc2 := cell_keeps hk hkc (fun q => q)))
                            exact ⟨fin _ (by first | exact hA | exact hA.drew) (by first | exact hB | exact hB.drew) (by first | exact hC | exact hC.drew) (by first | exact hK | exact hK.drew) hk, by simp [intOf]; omega⟩
                      · have d7 : decide ((m : Int) < (keep.length : Int)) = false := by rw [decide_eq_false_iff_not]; omega
                        have hgd : keep.getD m false = false := by simp [List.getD_eq_getElem?_getD, hkp]
                        rw [hgd] at r1
                        clear hgd
                        simp only [Bool.false_eq_true, if_false] at r1
                        by_cases ht : (m : Int) = torn
                        · have bt : ((m : Int) == torn) = true := by simpa using ht
                          rw [if_pos ht] at r1
                          clear ht
                          go_wp2_with (first | (go_at_call 24; (with_reducible refine (dRead (hA : DiskAt _ _ _ _ X) r1).mono ?_); rintro e Wx ⟨rfl, hx, kx⟩; have zx := kx.size; (try simp only [World.size_alloc, World.size_drew] at zx); skip; replace hk := Keeps.trans_new (by first | exact hk | exact hk.alloc _ | exact (hk.alloc _).alloc _ | exact hk.drew | exact hk.drew.alloc _ | exact (hk.alloc _).drew | exact ((hk.alloc _).alloc _).drew) kx (fun k hk q => by first | exact q.elim | (simp only [dset] at q; omega) | omega | (dsimp only at q; omega)); replace hz := Nat.le_trans hz (Nat.le_trans (by omega) zx); replace hB := hB.keep kx (by first | exact (fun q => q) | (simp only [dset]; omega) | omega | (dsimp only; omega)) (by first | exact (fun q => q) | (simp only [dset]; omega) | omega | (dsimp only; omega)) (by first | exact (fun q => q) | (simp only [dset]; omega) | omega | (dsimp only; omega)); replace hC := hC.keep kx (by first | exact (fun q => q) | (simp only [dset]; omega) | omega | (dsimp only; omega)) (by first | exact (fun q => q) | (simp only [dset]; omega) | omega | (dsimp only; omega)) (by first | exact (fun q => q) | (simp only [dset]; omega) | omega | (dsimp only; omega)); replace hK := hK.keep kx (fun hne => by have := gb hne; first | exact (fun q => q) | (simp only [dset]; omega) | omega); replace hA := hx; clear hx kx zx; skip) | (go_at_call 24; (with_reducible refine (dRead (hB : DiskAt _ _ _ _ L) r2).mono ?_); rintro e Wx ⟨rfl, hx, kx⟩; have zx := kx.size; (try simp only [World.size_alloc, World.size_drew] at zx); skip; replace hk := Keeps.trans_new (by first | exact hk | exact hk.alloc _ | exact (hk.alloc _).alloc _ | exact hk.drew | exact hk.drew.alloc _ | exact (hk.alloc _).drew | exact ((hk.alloc _).alloc _).drew) kx (fun k hk q => by first | exact q.elim | (simp only [dset] at q; omega) | omega | (dsimp only at q; omega)); replace hz := Nat.le_trans hz (Nat.le_trans (by omega) zx); replace hA := hA.keep kx (by first | exact (fun q => q) | (simp only [dset]; omega) | omega | (dsimp only; omega)) (by first | exact (fun q => q) | (simp only [dset]; omega) | omega | (dsimp only; omega)) (by first | exact (fun q => q) | (simp only [dset]; omega) | omega | (dsimp only; omega)); replace hC := hC.keep kx (by first | exact (fun q => q) | (simp only [dset]; omega) | omega | (dsimp only; omega)) (by first | exact (fun q => q) | (simp only [dset]; omega) | omega | (dsimp only; omega)) (by first | exact (fun q => q) | (simp only [dset]; omega) | omega | (dsimp only; omega)); replace hK := hK.keep kx (fun hne => by have := gb hne; first | exact (fun q => q) | (simp only [dset]; omega) | omega); replace hB := hx; clear hx kx zx) | (go_at_call 24; (with_reducible refine (dRead (hC : DiskAt _ _ _ _ K) r3).mono ?_); rintro e Wx ⟨rfl, hx, kx⟩; have zx := kx.size; (try simp only [World.size_alloc, World.size_drew] at zx); skip; replace hk := Keeps.trans_new (by first | exact hk | exact hk.alloc _ | exact (hk.alloc _).alloc _ | exact hk.drew | exact hk.drew.alloc _ | exact (hk.alloc _).drew | exact ((hk.alloc _).alloc _).drew) kx (fun k hk q => by first | exact q.elim | (simp only [dset] at q; omega) | omega | (dsimp only at q; omega)); replace hz := Nat.le_trans hz (Nat.le_trans (by omega) zx); replace hA := hA.keep kx (by first | exact (fun q => q) | (simp only [dset]; omega) | omega | (dsimp only; omega)) (by first | exact (fun q => q) | (simp only [dset]; omega) | omega | (dsimp only; omega)) (by first | exact (fun q => q) | (simp only [dset]; omega) | omega | (dsimp only; omega)); replace hB := hB.keep kx (by first | exact (fun q => q) | (simp only [dset]; omega) | omega | (dsimp only; omega)) (by first | exact (fun q => q) | (simp only [dset]; omega) | omega | (dsimp only; omega)) (by first | exact (fun q => q) | (simp only [dset]; omega) | omega | (dsimp only; omega)); replace hK := hK.keep kx (fun hne => by have := gb hne; first | exact (fun q => q) | (simp only [dset]; omega) | omega); replace hC := hx; clear hx kx zx; have hcm := kcm _ hK))
                          refine wp_region_text [(0, true), (1, true), (2, true), (3, true), (4, true), (5, true), (6, true), (7, true)] (fun _ => True) (by kernel_rfl) (by kernel_rfl) (fun d _ _ _ _ h => by cases d <;> exact h) trivial ?_
                          iterate 2 (apply wpText_take; rfl; rfl; (intro W hS; (try dsimp only at hS); (try (have hS1 := hS.1; have hS2 := hS.2)); go_simp; exact rfl); try simp only [Act.put, List.setIfInBounds_toArray, List.set_cons_succ, List.set_cons_zero])
                          apply wpText_take (v := .string (bs (s.take ct))); rfl; rfl; (intro W hS; go_simp; rw [if_pos (by omega), ext_take]); try simp only [Act.put, List.setIfInBounds_toArray, List.set_cons_succ, List.set_cons_zero]
                          iterate 2 (apply wpText_take; rfl; rfl; (intro W hS; (try dsimp only at hS); (try (have hS1 := hS.1; have hS2 := hS.2)); go_simp; exact rfl); try simp only [Act.put, List.setIfInBounds_toArray, List.set_cons_succ, List.set_cons_zero])
                          apply wpText_take (v := .string (bs (s0.drop ct))); rfl; rfl; (intro W hS; go_simp; rw [if_pos (by omega), ext_drop s0 ct l0]); try simp only [Act.put, List.setIfInBounds_toArray, List.set_cons_succ, List.set_cons_zero]
                          apply wpText_take (v := .string (bs (s.take ct ++ s0.drop ct))); rfl; rfl; (intro W hS; go_simp; rw [bs_app]); try simp only [Act.put, List.setIfInBounds_toArray, List.set_cons_succ, List.set_cons_zero]
                          iterate 1 (apply wpText_take; rfl; rfl; (intro W hS; (try dsimp only at hS); (try (have hS1 := hS.1; have hS2 := hS.2)); go_simp; exact rfl); try simp only [Act.put, List.setIfInBounds_toArray, List.set_cons_succ, List.set_cons_zero])
                          apply wpText_done
                          replace hk := hk.drew
                          go_wp2
                          exact ⟨fin _ (by first | exact hA | exact hA.drew) (by first | exact hB | exact hB.drew) (by first | exact hC | exact hC.drew) (by first | exact hK | exact hK.drew) hk, by simp [intOf]; omega⟩
                        · have bt : ((m : Int) == torn) = false := by simpa using ht
                          rw [if_neg ht] at r1
                          clear ht
                          go_wp2_with (first | (go_at_call 24; (with_reducible refine (dRead (hA : DiskAt _ _ _ _ X) r1).mono ?_); rintro e Wx ⟨rfl, hx, kx⟩; have zx := kx.size; (try simp only [World.size_alloc, World.size_drew] at zx); skip; replace hk := Keeps.trans_new (by first | exact hk | exact hk.alloc _ | exact (hk.alloc _).alloc _ | exact hk.drew | exact hk.drew.alloc _ | exact (hk.alloc _).drew | exact ((hk.alloc _).alloc _).drew) kx (fun k hk q => by first | exact q.elim | (simp only [dset] at q; omega) | omega | (dsimp only at q; omega)); replace hz := Nat.le_trans hz (Nat.le_trans (by omega) zx); replace hB := hB.keep kx (by first | exact (fun q => q) | (simp only [dset]; omega) | omega | (dsimp only; omega)) (by first | exact (fun q => q) | (simp only [dset]; omega) | omega | (dsimp only; omega)) (by first | exact (fun q => q) | (simp only [dset]; omega) | omega | (dsimp only; omega)); replace hC := hC.keep kx (by first | exact (fun q => q) | (simp only [dset]; omega) | omega | (dsimp only; omega)) (by first | exact (fun q => q) | (simp only [dset]; omega) | omega | (dsimp only; omega)) (by first | exact (fun q => q) | (simp only [dset]; omega) | omega | (dsimp only; omega)); replace hK := hK.keep kx (fun hne => by have := gb hne; first | exact (fun q => q) | (simp only [dset]; omega) | omega); replace hA := hx; clear hx kx zx; skip) | (go_at_call 24; (with_reducible refine (dRead (hB : DiskAt _ _ _ _ L) r2).mono ?_); rintro e Wx ⟨rfl, hx, kx⟩; have zx := kx.size; (try simp only [World.size_alloc, World.size_drew] at zx); skip; replace hk := Keeps.trans_new (by first | exact hk | exact hk.alloc _ | exact (hk.alloc _).alloc _ | exact hk.drew | exact hk.drew.alloc _ | exact (hk.alloc _).drew | exact ((hk.alloc _).alloc _).drew) kx (fun k hk q => by first | exact q.elim | (simp only [dset] at q; omega) | omega | (dsimp only at q; omega)); replace hz := Nat.le_trans hz (Nat.le_trans (by omega) zx); replace hA := hA.keep kx (by first | exact (fun q => q) | (simp only [dset]; omega) | omega | (dsimp only; omega)) (by first | exact (fun q => q) | (simp only [dset]; omega) | omega | (dsimp only; omega)) (by first | exact (fun q => q) | (simp only [dset]; omega) | omega | (dsimp only; omega)); replace hC := hC.keep kx (by first | exact (fun q => q) | (simp only [dset]; omega) | omega | (dsimp only; omega)) (by first | exact (fun q => q) | (simp only [dset]; omega) | omega | (dsimp only; omega)) (by first | exact (fun q => q) | (simp only [dset]; omega) | omega | (dsimp only; omega)); replace hK := hK.keep kx (fun hne => by have := gb hne; first | exact (fun q => q) | (simp only [dset]; omega) | omega); replace hB := hx; clear hx kx zx) | (go_at_call 24; (with_reducible refine (dRead (hC : DiskAt _ _ _ _ K) r3).mono ?_); rintro e Wx ⟨rfl, hx, kx⟩; have zx := kx.size; (try simp only [World.size_alloc, World.size_drew] at zx); skip; replace hk := Keeps.trans_new (by first | exact hk | exact hk.alloc _ | exact (hk.alloc _).alloc _ | exact hk.drew | exact hk.drew.alloc _ | exact (hk.alloc _).drew | exact ((hk.alloc _).alloc _).drew) kx (fun k hk q => by first | exact q.elim | (simp only [dset] at q; omega) | omega | (dsimp only at q; omega)); replace hz := Nat.le_trans hz (Nat.le_trans (by omega) zx); replace hA := hA.keep kx (by first | exact (fun q => q) | (simp only [dset]; omega) | omega | (dsimp only; omega)) (by first | exact (fun q => q) | (simp only [dset]; omega) | omega | (dsimp only; omega)) (by first | exact (fun q => q) | (simp only [dset]; omega) | omega | (dsimp only; omega)); replace hB := hB.keep kx (by first | exact (fun q => q) | (simp only [dset]; omega) | omega | (dsimp only; omega)) (by first | exact (fun q => q) | (simp only [dset]; omega) | omega | (dsimp only; omega)) (by first | exact (fun q => q) | (simp only [dset]; omega) | omega | (dsimp only; omega)); replace hK := hK.keep kx (fun hne => by have := gb hne; first | exact (fun q => q) | (simp only [dset]; omega) | omega); replace hC := hx; clear hx kx zx; have hcm := kcm _ hK))
                          exact ⟨fin _ (by first | exact hA | exact hA.drew) (by first | exact hB | exact hB.drew) (by first | exact hC | exact hC.drew) (by first | exact hK | exact hK.drew) hk, by simp [intOf]; omega⟩
                    · have hnk : ∀ x ∈ D.aside, x.1 ≠ n := fun x hx e => by
                        obtain ⟨i, hi, rfl⟩ := List.getElem_of_mem hx
                        by_cases him : i < m
                        · have := hlo i hi him; omega
                        · by_cases e2 : i = m
                          · subst e2; exact hkey ⟨hi, e⟩
                          · have h1 := hhi m (by omega) (by omega)
                            have h2 : D.aside[m].1 < D.aside[i].1 := List.pairwise_iff_getElem.1 hwf.rises m i (by omega) hi (by omega)
                            omega
                      obtain ⟨v2, v3, v1⟩ := N0.out n hnk
                      rw [v1] at r1; rw [v2] at r2; rw [v3] at r3
                      clear v1 v2 v3
                      generalize D.there.getD n [] = s0 at *
                      by_cases hml : m < D.aside.length
                      · have d6 : decide ((m : Int) < (D.aside.length : Int)) = true := by rw [decide_eq_true_eq]; omega
                        have hmn : D.aside[m].1 ≠ n := fun e => hkey ⟨hml, e⟩
                        obtain ⟨hada, _⟩ := hK m hml
                        subst hada
                        have hb0 : ((D.aside[m].1 : Int) == (n : Int)) = false := by simp; omega
                        clear hmn hkey
                        go_wp2_with (first | (go_at_call 24; (with_reducible refine (dRead (hA : DiskAt _ _ _ _ X) r1).mono ?_); rintro e Wx ⟨rfl, hx, kx⟩; have zx := kx.size; (try simp only [World.size_alloc, World.size_drew] at zx); skip; replace hk := Keeps.trans_new (by first | exact hk | exact hk.alloc _ | exact (hk.alloc _).alloc _ | exact hk.drew | exact hk.drew.alloc _ | exact (hk.alloc _).drew | exact ((hk.alloc _).alloc _).drew) kx (fun k hk q => by first | exact q.elim | (simp only [dset] at q; omega) | omega | (dsimp only at q; omega)); replace hz := Nat.le_trans hz (Nat.le_trans (by omega) zx); replace hB := hB.keep kx (by first | exact (fun q => q) | (simp only [dset]; omega) | omega | (dsimp only; omega)) (by first | exact (fun q => q) | (simp only [dset]; omega) | omega | (dsimp only; omega)) (by first | exact (fun q => q) | (simp only [dset]; omega) | omega | (dsimp only; omega)); replace hC := hC.keep kx (by first | exact (fun q => q) | (simp only [dset]; omega) | omega | (dsimp only; omega)) (by first | exact (fun q => q) | (simp only [dset]; omega) | omega | (dsimp only; omega)) (by first | exact (fun q => q) | (simp only [dset]; omega) | omega | (dsimp only; omega)); replace hK := hK.keep kx (fun hne => by have := gb hne; first | exact (fun q => q) | (simp only [dset]; omega) | omega); replace hA := hx; clear hx kx zx; skip) | (go_at_call 24; (with_reducible refine (dRead (hB : DiskAt _ _ _ _ L) r2).mono ?_); rintro e Wx ⟨rfl, hx, kx⟩; have zx := kx.size; (try simp only [World.size_alloc, World.size_drew] at zx); skip; replace hk := Keeps.trans_new (by first | exact hk | exact hk.alloc _ | exact (hk.alloc _).alloc _ | exact hk.drew | exact hk.drew.alloc _ | exact (hk.alloc _).drew | exact ((hk.alloc _).alloc _).drew) kx (fun k hk q => by first | exact q.elim | (simp only [dset] at q; omega) | omega | (dsimp only at q; omega)); replace hz := Nat.le_trans hz (Nat.le_trans (by omega) zx); replace hA := hA.keep kx (by first | exact (fun q => q) | (simp only [dset]; omega) | omega | (dsimp only; omega)) (by first | exact (fun q => q) | (simp only [dset]; omega) | omega | (dsimp only; omega)) (by first | exact (fun q => q) | (simp only [dset]; omega) | omega | (dsimp only; omega)); replace hC := hC.keep kx (by first | exact (fun q => q) | (simp only [dset]; omega) | omega | (dsimp only; omega)) (by first | exact (fun q => q) | (simp only [dset]; omega) | omega | (dsimp only; omega)) (by first | exact (fun q => q) | (simp only [dset]; omega) | omega | (dsimp only; omega)); replace hK := hK.keep kx (fun hne => by have := gb hne; first | exact (fun q => q) | (simp only [dset]; omega) | omega); replace hB := hx; clear hx kx zx) | (go_at_call 24; (with_reducible refine (dRead (hC : DiskAt _ _ _ _ K) r3).mono ?_); rintro e Wx ⟨rfl, hx, kx⟩; have zx := kx.size; (try simp only [World.size_alloc, World.size_drew] at zx); skip; replace hk := Keeps.trans_new (by first | exact hk | exact hk.alloc _ | exact (hk.alloc _).alloc _ | exact hk.drew | exact hk.drew.alloc _ | exact (hk.alloc _).drew | exact ((hk.alloc _).alloc _).drew) kx (fun k hk q => by first | exact q.elim | (simp only [dset] at q; omega) | omega | (dsimp only at q; omega)); replace hz := Nat.le_trans hz (Nat.le_trans (by omega) zx); replace hA := hA.keep kx (by first | exact (fun q => q) | (simp only [dset]; omega) | omega | (dsimp only; omega)) (by first | exact (fun q => q) | (simp only [dset]; omega) | omega | (dsimp only; omega)) (by first | exact (fun q => q) | (simp only [dset]; omega) | omega | (dsimp only; omega)); replace hB := hB.keep kx (by first | exact (fun q => q) | (simp only [dset]; omega) | omega | (dsimp only; omega)) (by first | exact (fun q => q) | (simp only [dset]; omega) | omega | (dsimp only; omega)) (by first | exact (fun q => q) | (simp only [dset]; omega) | omega | (dsimp only; omega)); replace hK := hK.keep kx (fun hne => by have := gb hne; first | exact (fun q => q) | (simp only [dset]; omega) | omega); replace hC := hx; clear hx kx zx; have hcm := (hK m hml).2))
                        exact ⟨⟨m, n + 1, hm1, by omega, rfl, by simp, fun i hi h => by have := hlo i hi h; omega, fun i hi h => by have h1 := hhi i hi h; have h2 := hnk _ (List.getElem_mem hi); omega, hA, hB, hC, hK, hk⟩, by simp [intOf]; omega⟩
                      · have d6 : decide ((m : Int) < (D.aside.length : Int)) = false := by rw [decide_eq_false_iff_not]; omega
                        go_wp2_with (first | (go_at_call 24; (with_reducible refine (dRead (hA : DiskAt _ _ _ _ X) r1).mono ?_); rintro e Wx ⟨rfl, hx, kx⟩; have zx := kx.size; (try simp only [World.size_alloc, World.size_drew] at zx); skip; replace hk := Keeps.trans_new (by first | exact hk | exact hk.alloc _ | exact (hk.alloc _).alloc _ | exact hk.drew | exact hk.drew.alloc _ | exact (hk.alloc _).drew | exact ((hk.alloc _).alloc _).drew) kx (fun k hk q => by first | exact q.elim | (simp only [dset] at q; omega) | omega | (dsimp only at q; omega)); replace hz := Nat.le_trans hz (Nat.le_trans (by omega) zx); replace hB := hB.keep kx (by first | exact (fun q => q) | (simp only [dset]; omega) | omega | (dsimp only; omega)) (by first | exact (fun q => q) | (simp only [dset]; omega) | omega | (dsimp only; omega)) (by first | exact (fun q => q) | (simp only [dset]; omega) | omega | (dsimp only; omega)); replace hC := hC.keep kx (by first | exact (fun q => q) | (simp only [dset]; omega) | omega | (dsimp only; omega)) (by first | exact (fun q => q) | (simp only [dset]; omega) | omega | (dsimp only; omega)) (by first | exact (fun q => q) | (simp only [dset]; omega) | omega | (dsimp only; omega)); replace hK := hK.keep kx (fun hne => by have := gb hne; first | exact (fun q => q) | (simp only [dset]; omega) | omega); replace hA := hx; clear hx kx zx; skip) | (go_at_call 24; (with_reducible refine (dRead (hB : DiskAt _ _ _ _ L) r2).mono ?_); rintro e Wx ⟨rfl, hx, kx⟩; have zx := kx.size; (try simp only [World.size_alloc, World.size_drew] at zx); skip; replace hk := Keeps.trans_new (by first | exact hk | exact hk.alloc _ | exact (hk.alloc _).alloc _ | exact hk.drew | exact hk.drew.alloc _ | exact (hk.alloc _).drew | exact ((hk.alloc _).alloc _).drew) kx (fun k hk q => by first | exact q.elim | (simp only [dset] at q; omega) | omega | (dsimp only at q; omega)); replace hz := Nat.le_trans hz (Nat.le_trans (by omega) zx); replace hA := hA.keep kx (by first | exact (fun q => q) | (simp only [dset]; omega) | omega | (dsimp only; omega)) (by first | exact (fun q => q) | (simp only [dset]; omega) | omega | (dsimp only; omega)) (by first | exact (fun q => q) | (simp only [dset]; omega) | omega | (dsimp only; omega)); replace hC := hC.keep kx (by first | exact (fun q => q) | (simp only [dset]; omega) | omega | (dsimp only; omega)) (by first | exact (fun q => q) | (simp only [dset]; omega) | omega | (dsimp only; omega)) (by first | exact (fun q => q) | (simp only [dset]; omega) | omega | (dsimp only; omega)); replace hK := hK.keep kx (fun hne => by have := gb hne; first | exact (fun q => q) | (simp only [dset]; omega) | omega); replace hB := hx; clear hx kx zx) | (go_at_call 24; (with_reducible refine (dRead (hC : DiskAt _ _ _ _ K) r3).mono ?_); rintro e Wx ⟨rfl, hx, kx⟩; have zx := kx.size; (try simp only [World.size_alloc, World.size_drew] at zx); skip; replace hk := Keeps.trans_new (by first | exact hk | exact hk.alloc _ | exact (hk.alloc _).alloc _ | exact hk.drew | exact hk.drew.alloc _ | exact (hk.alloc _).drew | exact ((hk.alloc _).alloc _).drew) kx (fun k hk q => by first | exact q.elim | (simp only [dset] at q; omega) | omega | (dsimp only at q; omega)); replace hz := Nat.le_trans hz (Nat.le_trans (by omega) zx); replace hA := hA.keep kx (by first | exact (fun q => q) | (simp only [dset]; omega) | omega | (dsimp only; omega)) (by first | exact (fun q => q) | (simp only [dset]; omega) | omega | (dsimp only; omega)) (by first | exact (fun q => q) | (simp only [dset]; omega) | omega | (dsimp only; omega)); replace hB := hB.keep kx (by first | exact (fun q => q) | (simp only [dset]; omega) | omega | (dsimp only; omega)) (by first | exact (fun q => q) | (simp only [dset]; omega) | omega | (dsimp only; omega)) (by first | exact (fun q => q) | (simp only [dset]; omega) | omega | (dsimp only; omega)); replace hK := hK.keep kx (fun hne => by have := gb hne; first | exact (fun q => q) | (simp only [dset]; omega) | omega); replace hC := hx; clear hx kx zx))
                        exact ⟨⟨m, n + 1, hm1, by omega, rfl, by simp, fun i hi h => by have := hlo i hi h; omega, fun i hi h => absurd h (by omega), hA, hB, hC, hK, hk⟩, by simp [intOf]; omega⟩
                  · have d5 : decide ((n : Int) < (S : Int)) = false := by rw [decide_eq_false_iff_not]; omega
                    have hmA : m = D.aside.length := Decidable.byContradiction fun e => by
                      have h1 := hhi m (by omega) (by omega)
                      have h2 := (hwf.aside _ (List.getElem_mem (show m < D.aside.length by omega))).1
                      omega
                    subst hmA
                    go_wp2
                    go_ret
                    exact ⟨rfl, hk⟩
      · go_ret
        exact ⟨rfl, by first | exact (q1.trans q2).trans q3 | exact q1.trans q2⟩
end Go.Proofs.Ytckopikeegegkaa
