/- Texts of one proof, one behind the other: PagePlays, Opens4, PagePlaysP. No condition. -/
import Derived.Test.YtckopikeegegkaaGPagePlaysP5
import Derived.Deep.CutBlock
import Derived.Deep.CutRange
import Derived.Deep.DeepCutAuto
import Derived.Deep.Strs
/- PAGEPLAYS: the walk of the law. -/
namespace Go.Proofs.Ytckopikeegegkaa
open Go.RowKit Go.MapKept Go.Shelf
set_option linter.unusedSimpArgs false
set_option linter.unusedVariables false
structure Stp4Ok (x : Stp4) : Prop where
  k0 : 0 ≤ x.kind
  n1 : x.n ≤ 9223372036854775807
def zrow4 : List Value := [.int .u8 0, .int .i64 0, .string (bs []), .bool false, .int .i64 0, .int .i64 0, .slice none 0 0, .int .i64 0, .int .i64 0]
theorem cells4_one (x : Stp4) (a : Option Addr) (n c : Nat) : ∀ v ∈ cells4 x (.slice a n c), v.oneCell' = true := by
  intro v hv
  simp [cells4] at hv
  rcases hv with rfl | rfl | rfl | rfl | rfl | rfl | rfl | rfl | rfl <;> rfl
theorem stored4 {w wr : World} {p q j r lo hi : Nat} {D : Dk} {cs : List Value} (hA : DiskAt wr p q j D) (hR : RefAt wr r lo hi D) (hk : Keeps noB w wr) : ∀ W5, W5 = (wr.alloc (.cells zrow4.toArray 76)).setRow wr.heap.size cs.toArray →
    DiskAt W5 p q j D ∧ RefAt W5 r lo hi D ∧ Keeps noB w W5 ∧ W5.heap[wr.heap.size]? = some (.cells cs.toArray 76 (0, 0)) ∧ wr.heap.size < W5.heap.size := by
  rintro W5 rfl
  have hz4 := heap_alloc_eq wr (.cells zrow4.toArray 76) _ rfl
  have hx := setRow_eq _ _ _ cs.toArray _ _ hz4
  have hk2 : Keeps noB wr ((wr.alloc (.cells zrow4.toArray 76)).setRow wr.heap.size cs.toArray) := ((Keeps.refl noB wr).alloc _).setRow (fun q => by omega) _
  exact ⟨hA.held hk2, hR.held hk2, hk.trans hk2, hx, (Array.getElem?_eq_some_iff.1 hx).1⟩
set_option maxRecDepth 20000 in
set_option maxHeartbeats 20000000 in
theorem pagePlays_walk (sectors : Int) (sv : Value) (l : List Stp4) (w : World) (hs : StepsAt4 w sv l) (hl : l.length ≤ maxLen) (hok : ∀ x ∈ l, Stp4Ok x) (haw : ∀ W, Calls Try.prog 15 #[] W fun e W' => e = .returned (.bool true) ∧ Keeps noB W W') :
    Calls Try.prog 14 #[.int .i64 sectors, sv] w fun e w' => e = .returned (.bool true) ∧ Keeps noB w w' := by
  have hlg := fun W h => large4_calls sv l W h hl
  obtain ⟨ad, cap, rfl⟩ := hs.form
  have hm : (l.length : Int) ≤ 9223372036854775807 := by unfold maxLen at hl; omega
  by_cases hc1 : sectors < 1 ∨ 4096 < sectors
  · have hn := fun W => new_bad sectors W (by simp [Dk.make, hc1])
    have hn2 := fun W => rnew_bad sectors W hc1
    go_enter Try.func14, Try.ntmps14
    go_wp2_with (first | (go_at_call 42; refine (hlg _ hs).mono ?_; rintro e W2 ⟨rfl | rfl, q2⟩) | (go_at_call 16; refine (hn _).mono ?_; rintro e W3 ⟨rfl, rfl⟩) | (go_at_call 34; refine (hn2 _).mono ?_; rintro e W3 ⟨rfl, rfl⟩) | (go_at_call 15; refine (haw _).mono ?_; rintro e W4 ⟨rfl, q4⟩))
    all_goals go_ret
    all_goals exact ⟨rfl, q2.trans q4⟩
  · have hmk := make_some (n := sectors) (by omega) (by omega)
    obtain ⟨S, hS⟩ : ∃ S : Nat, sectors = S := ⟨sectors.toNat, by omega⟩
    subst hS
    rw [Int.toNat_natCast] at hmk
    have hrn := fun W => rnew_good S W (by omega) (by omega)
    generalize Dk.zero S = D0 at *
    go_enter Try.func14, Try.ntmps14
    go_wp2_with (first | (go_at_call 42; refine (hlg _ hs).mono ?_; rintro e W2 ⟨rfl | rfl, q2⟩) | (go_at_call 16; (refine (dNew hmk).mono ?_); rintro e W3 ⟨p, q, j, rfl, hA, q3, lp, lq, lm⟩) | (go_at_call 34; refine (hrn _).mono ?_; rintro e W4 ⟨r, rfl, hR, q4⟩) | (go_at_call 15; refine (haw _).mono ?_; rintro e W4 ⟨rfl, q4⟩))
    · have z2 := q2.size
      have z3 := q3.size
      have z4 := q4.size
      have y1 := hA.lt_p; have y2 := hA.lt_q; have y3 := hA.lt_m
      replace hA := hA.held q4
      have hk := (q2.trans q3).trans q4
      replace lp : w.heap.size ≤ p := (by omega); replace lq : w.heap.size ≤ q := (by omega); replace lm : w.heap.size ≤ j := (by omega)
      have hlo : w.heap.size ≤ W3.heap.size := (by omega)
      obtain ⟨hi, hhi⟩ : ∃ hi, hi = W4.heap.size := ⟨_, rfl⟩
      rw [← hhi] at hR
      generalize W3.heap.size = lo at *
      clear q2 q3 q4 z2 z3 z4 hlg hrn hmk
      go_loopw [9] (fun i wr => ∃ (k hi : Nat) (D : Dk), k ≤ l.length ∧ i = .int .i64 k ∧ DiskAt wr p q j D ∧ RefAt wr r lo hi D ∧ Keeps noB w wr) (fun i _ => l.length - (intOf i).toNat)
      case atStart => exact ⟨0, hi, D0, by omega, rfl, hA, hR, hk⟩
      case round =>
        clear hhi hA hR hk
        obtain ⟨k, hi, D, hk1, rfl, hA, hR, hk⟩ := hrel
        by_cases c : k < l.length
        · have d3 : decide ((k : Int) < (l.length : Int)) = true := by rw [decide_eq_true_eq]; omega
          obtain ⟨a, rfl, hst⟩ := hs.at_ k c
          have ho := hok _ (List.getElem_mem c)
          generalize l[k] = st at *
          obtain ⟨kv, hsv⟩ := hst
          have hsw := hsv.keep hk
          obtain ⟨akk, ckk, rfl⟩ := hsv.1.form
          have hz4 := heap_alloc_eq wr (.cells zrow4.toArray 76) _ rfl
          have hpre := stored4 (cs := (cells4 st (.slice akk st.keep.length ckk))) hA hR hk
          have Hpre := Lib.hid hpre
          clear hpre
          go_upto_block 2 with (first | ((with_reducible apply wpl_load4 76 (hg := Try.isAgg76) (hs := Try.sizeOf76) (s := st) (kv := .slice akk st.keep.length ckk)); rfl; rfl; exact hsw; rfl) | ((with_reducible apply wpl_store_all 76 (n := 9) (vs := cells4 st (.slice akk st.keep.length ckk)) (hs := Try.sizeOf76) (L := zrow4) (t := 76)); rfl; go_must (rfl; rfl; exact hz4; rfl; exact cells4_one st _ _ _; rfl; rfl); (clear hsw; generalize hW : ((wr.alloc _).setRow wr.heap.size _) = W5; obtain ⟨hA5, hR5, hk5, hbx, hbw⟩ := Hpre.out W5 hW.symm; have c0 := cell_blk hbx 0 (.int .u8 st.kind) rfl; clear hW)))
          have xr := hR.lt
          have yb1 := hA.lt_p; have yb2 := hA.lt_q; have yb3 := hA.lt_m
          have wfD := hA.wf
          clear hA hR hk
          replace hA5 := hA5; have hA := hA5; have hR := hR5; have hk := hk5; have hbx := hbx
          clear hA5 hR5 hk5
          go_cut [11, 12, 13, 14, 15, 16, 17, 18, 19] from 51 to 234 (fun ok s12 s13 s14 s15 s16 s17 s18 s19 wx => ∃ hi', ok = .bool true ∧ DiskAt wx p q j (doStep4 st D) ∧ RefAt wx r lo hi' (doStep4 st D) ∧ Keeps noB w wx ∧ wx.heap[wr.heap.size]? = some (.cells (cells4 st (.slice akk st.keep.length ckk)).toArray 76 (0, 0)))
          case first =>
            by_cases h0 : st.kind = 0
            · as_aux_lemma =>
                have b0 : (st.kind == 0) = true := by simpa using h0
                obtain ⟨e, D', he⟩ : ∃ e D', pgWrite D st.n st.s = (e, D') := ⟨_, _, rfl⟩
                have hr4 := fun W (h : RefAt W r lo hi D) => rpwrite_calls st.n st.s W h wfD
                rw [he] at hr4
                have hd : doStep4 st D = D' := by unfold doStep4; rw [if_pos h0, he]
                have Hd := Lib.hid hd
                clear hd
                go_wp2_with fail
                replace hA := hA.drew; replace hR := hR.drew; replace hk := hk.drew
                refine wp_region_text [(0, true), (1, true), (2, true), (3, true), (4, true), (6, true), (7, true), (8, true), (9, true), (10, true), (5, false), (11, false), (12, true), (13, true)] (fun W' => W'.heap[wr.heap.size]? = some (.cells (cells4 st (.slice akk st.keep.length ckk)).toArray 76 (0, 0))) (by kernel_rfl) (by kernel_rfl) (fun d _ _ _ _ h => by cases d <;> exact h) hbx ?_
                replace hbx : wr.heap.size < W5.drew.heap.size ∧ W5.drew.heap[wr.heap.size]? = some (.cells (cells4 st (.slice akk st.keep.length ckk)).toArray 76 (0, 0)) := ⟨hbw, hbx⟩
                replace hbx := hbx.2
                repeat (first | (apply wpText_take; rfl; rfl; (intro W hS; have s1 := cell_blk hS 1 (.int .i64 st.n) rfl; have s2 := cell_blk hS 2 (.string (bs st.s)) rfl; have s6 := cell_blk hS 6 (.slice akk st.keep.length ckk) rfl; have s7 := cell_blk hS 7 (.int .i64 st.torn) rfl; have s8 := cell_blk hS 8 (.int .i64 st.cut) rfl; go_simp; exact rfl); try simp only [Act.put, List.setIfInBounds_toArray, List.set_cons_succ, List.set_cons_zero]) | ((with_reducible apply wpText_loadPart 23 (n := 3) (off := 3) (t := 76) (fr := (0, 0)) (L := (cells4 st (.slice akk st.keep.length ckk))) (V := [.bool st.on, .int .i64 st.ep, .int .i64 st.pg]) (hg := Try.isAgg23) (hs := Try.sizeOf23)); rfl; rfl; rfl; rfl; (intro W hS; exact hS); (show 3 + 3 ≤ 9; omega); rfl; try simp only [Act.put, List.setIfInBounds_toArray, List.set_cons_succ, List.set_cons_zero]) | (apply wpText_goL; rfl; intro K hK; go_wp2_with (first | (go_at_call 21; ((with_reducible refine (dPwrite hA he).mono ?_); rintro e Wx ⟨rfl, hx, kx⟩; replace hR := hR.keep kx (fun b q1 q2 => by first | exact (fun q => q) | (simp only [dset]; omega)); replace hk := Keeps.trans_new hk kx (fun k hk q => by first | exact q.elim | (simp only [dset] at q; omega)); replace hA := hx; replace hbx := carry kx hbx (by first | exact (fun q => q) | (simp only [dset]; omega) | omega); have c1 := cell_blk hbx 1 (.int .i64 st.n) rfl; clear hx kx)) | (go_at_call 43; ((with_reducible refine (hr4 _ hR).mono ?_); rintro e Wx ⟨rfl, hx, kx⟩; replace hA := hA.keep kx (by omega) (by omega) (by omega); replace hk := Keeps.trans_new hk kx (fun k hk q => by omega); replace hR := hx; replace hbx := carry kx hbx (by first | exact (fun q => q) | (simp only [dset]; omega) | omega); have c1 := cell_blk hbx 1 (.int .i64 st.n) rfl; clear hx kx))); (refine hK _ _ hbx ?_); clear hK K; try simp only [Act.put, List.setIfInBounds_toArray, List.set_cons_succ, List.set_cons_zero]))
                apply wpText_done
                go_wp2_with fail
                go_meet
                rw [Hd.out]
                exact ⟨_, rfl, hA, hR, hk, hbx⟩
            have b0 : (st.kind == 0) = false := by simpa using h0
            have g0 := h0
            clear h0
            by_cases h0 : st.kind = 1
            · as_aux_lemma =>
                have b1 : (st.kind == 1) = true := by simpa using h0
                obtain ⟨s, e, he⟩ : ∃ s e, pgRead D st.n = (s, e) := ⟨_, _, rfl⟩
                have hr4 := fun W (h : RefAt W r lo hi D) => rpread_calls st.n W h wfD
                rw [he] at hr4
                have hd : doStep4 st D = D := by unfold doStep4; rw [if_neg (by omega), if_neg (by omega), if_neg (by omega), if_neg (by omega), if_neg (by omega), if_pos (by omega)]
                have Hd := Lib.hid hd
                clear hd
                have c1 := cell_blk hbx 1 (.int .i64 st.n) rfl
                go_wp2_with (first | (go_at_call 19; ((with_reducible refine (dPread hA he).mono ?_); rintro e Wx ⟨rfl, hx, kx⟩; replace hR := hR.keep kx (fun b q1 q2 => by first | exact (fun q => q) | (simp only [dset]; omega)); replace hk := Keeps.trans_new hk kx (fun k hk q => by first | exact q.elim | (simp only [dset] at q; omega)); replace hA := hx; replace hbx := carry kx hbx (by first | exact (fun q => q) | (simp only [dset]; omega) | omega); have c1 := cell_blk hbx 1 (.int .i64 st.n) rfl; clear hx kx)) | (go_at_call 44; ((with_reducible refine (hr4 _ hR).mono ?_); rintro e Wx ⟨rfl, kx⟩; replace hA := hA.held kx; replace hk := hk.trans kx; replace hR := hR.held kx; replace hbx := carry kx hbx (by first | exact (fun q => q) | (simp only [dset]; omega) | omega); have c1 := cell_blk hbx 1 (.int .i64 st.n) rfl; clear kx)))
                go_meet
                rw [Hd.out]
                exact ⟨_, rfl, hA, hR, hk, hbx⟩
            have b1 : (st.kind == 1) = false := by simpa using h0
            have g1 := h0
            clear h0
            by_cases h0 : st.kind = 2
            · as_aux_lemma =>
                have b2 : (st.kind == 2) = true := by simpa using h0
                obtain ⟨on, ep, pg, e, he⟩ : ∃ on ep pg e, pgRoot D st.n = (⟨on, ep, pg⟩, e) := ⟨_, _, _, _, rfl⟩
                have hr4 := fun W (h : RefAt W r lo hi D) => rproot_calls st.n W h wfD
                rw [he] at hr4
                simp only [encM] at hr4
                have hd : doStep4 st D = D := by unfold doStep4; rw [if_neg (by omega), if_neg (by omega), if_neg (by omega), if_neg (by omega), if_neg (by omega), if_pos (by omega)]
                have Hd := Lib.hid hd
                clear hd
                have c1 := cell_blk hbx 1 (.int .i64 st.n) rfl
                go_wp2_with (first | (go_at_call 18; ((with_reducible refine (dRoot hA he).mono ?_); rintro e Wx ⟨rfl, hx, kx⟩; replace hR := hR.keep kx (fun b q1 q2 => by first | exact (fun q => q) | (simp only [dset]; omega)); replace hk := Keeps.trans_new hk kx (fun k hk q => by first | exact q.elim | (simp only [dset] at q; omega)); replace hA := hx; replace hbx := carry kx hbx (by first | exact (fun q => q) | (simp only [dset]; omega) | omega); have c1 := cell_blk hbx 1 (.int .i64 st.n) rfl; have c1a := fun o => cell_blk (blk_alloc hbx o) 1 (.int .i64 st.n) rfl; clear hx kx)) | (go_at_call 45; ((with_reducible refine (hr4 _ (hR.alloc _)).mono ?_); rintro e Wy ⟨rfl, kx⟩; have f16 := carry kx (heap_alloc_eq Wx _ _ rfl) (fun q => q); have g0 := fun o => cell_blk (blk_alloc f16 o) 0 (.bool on) rfl; have g1 := fun o => cell_blk (blk_alloc f16 o) 1 (.int .i64 ep) rfl; have g2 := fun o => cell_blk (blk_alloc f16 o) 2 (.int .i64 pg) rfl; replace hA := (hA.alloc _).held kx; replace hk := (hk.alloc _).trans kx; replace hR := (hR.alloc _).held kx; replace hbx := carry kx (blk_alloc hbx _) (by first | exact (fun q => q) | (simp only [dset]; omega) | omega); have c1 := cell_blk hbx 1 (.int .i64 st.n) rfl; clear kx)) | ((with_reducible apply wpl_store_all 23 (n := 3) (vs := [.bool on, .int .i64 ep, .int .i64 pg]) (hs := Try.sizeOf23) (L := [.bool false, .int .i64 0, .int .i64 0]) (t := 23)); rfl; rfl; rfl; simp (disch := (first | (simp only [World.size_alloc, World.size_setCell, World.size_drew, size_setRow, heap_drew, heap_drewN]; done) | ((try simp only [World.size_alloc, World.size_setCell, World.size_drew, size_setRow, heap_drew, heap_drewN]); omega))) only [heap_drew, heap_drewN, heap_alloc_ne, heap_alloc_eq, heap_setCell_ne, heap_setRow_ne]; rfl; (intro v hv; simp at hv; rcases hv with rfl | rfl | rfl <;> rfl); rfl; rfl; simp (disch := (first | (simp only [World.size_alloc, World.size_setCell, World.size_drew, size_setRow, heap_drew, heap_drewN]; done) | ((try simp only [World.size_alloc, World.size_setCell, World.size_drew, size_setRow, heap_drew, heap_drewN]); omega))) only [setRow_alloc_top, setRow_alloc_under]))
                go_meet
                rw [Hd.out]
                exact ⟨_, rfl, hA.alloc _, hR.alloc _, hk.alloc _, blk_alloc hbx _⟩
            have b2 : (st.kind == 2) = false := by simpa using h0
            have g2 := h0
            clear h0
            by_cases h0 : st.kind = 3
            · as_aux_lemma =>
                have b3 : (st.kind == 3) = true := by simpa using h0
                obtain ⟨e, D', he⟩ : ∃ e D', pgSetRoot D st.n ⟨st.on, st.ep, st.pg⟩ = (e, D') := ⟨_, _, rfl⟩
                have hr4 := fun W (h : RefAt W r lo hi D) => rsetRoot_calls st.n ⟨st.on, st.ep, st.pg⟩ W h wfD
                rw [he] at hr4
                have hd : doStep4 st D = D' := by unfold doStep4; rw [if_neg (by omega), if_pos h0, he]
                have Hd := Lib.hid hd
                clear hd
                go_wp2_with fail
                replace hA := hA.drew; replace hR := hR.drew; replace hk := hk.drew
                refine wp_region_text [(0, true), (1, true), (2, true), (3, true), (4, true), (6, true), (7, true), (8, true), (9, true), (10, true), (5, false), (11, false), (12, true), (13, true)] (fun W' => W'.heap[wr.heap.size]? = some (.cells (cells4 st (.slice akk st.keep.length ckk)).toArray 76 (0, 0))) (by kernel_rfl) (by kernel_rfl) (fun d _ _ _ _ h => by cases d <;> exact h) hbx ?_
                replace hbx : wr.heap.size < W5.drew.heap.size ∧ W5.drew.heap[wr.heap.size]? = some (.cells (cells4 st (.slice akk st.keep.length ckk)).toArray 76 (0, 0)) := ⟨hbw, hbx⟩
                replace hbx := hbx.2
                repeat (first | (apply wpText_take; rfl; rfl; (intro W hS; have s1 := cell_blk hS 1 (.int .i64 st.n) rfl; have s2 := cell_blk hS 2 (.string (bs st.s)) rfl; have s6 := cell_blk hS 6 (.slice akk st.keep.length ckk) rfl; have s7 := cell_blk hS 7 (.int .i64 st.torn) rfl; have s8 := cell_blk hS 8 (.int .i64 st.cut) rfl; go_simp; exact rfl); try simp only [Act.put, List.setIfInBounds_toArray, List.set_cons_succ, List.set_cons_zero]) | ((with_reducible apply wpText_loadPart 23 (n := 3) (off := 3) (t := 76) (fr := (0, 0)) (L := (cells4 st (.slice akk st.keep.length ckk))) (V := [.bool st.on, .int .i64 st.ep, .int .i64 st.pg]) (hg := Try.isAgg23) (hs := Try.sizeOf23)); rfl; rfl; rfl; rfl; (intro W hS; exact hS); (show 3 + 3 ≤ 9; omega); rfl; try simp only [Act.put, List.setIfInBounds_toArray, List.set_cons_succ, List.set_cons_zero]) | (apply wpText_goL; rfl; intro K hK; go_wp2_with (first | (go_at_call 17; ((with_reducible refine (dSetRoot hA he).mono ?_); rintro e Wx ⟨rfl, hx, kx⟩; replace hR := hR.keep kx (fun b q1 q2 => by first | exact (fun q => q) | (simp only [dset]; omega)); replace hk := Keeps.trans_new hk kx (fun k hk q => by first | exact q.elim | (simp only [dset] at q; omega)); replace hA := hx; replace hbx := carry kx hbx (by first | exact (fun q => q) | (simp only [dset]; omega) | omega); have c1 := cell_blk hbx 1 (.int .i64 st.n) rfl; clear hx kx)) | (go_at_call 46; ((with_reducible refine (hr4 _ hR).mono ?_); rintro e Wx ⟨rfl, hx, kx⟩; replace hA := hA.keep kx (by omega) (by omega) (by omega); replace hk := Keeps.trans_new hk kx (fun k hk q => by omega); replace hR := hx; replace hbx := carry kx hbx (by first | exact (fun q => q) | (simp only [dset]; omega) | omega); have c1 := cell_blk hbx 1 (.int .i64 st.n) rfl; clear hx kx))); (refine hK _ _ hbx ?_); clear hK K; try simp only [Act.put, List.setIfInBounds_toArray, List.set_cons_succ, List.set_cons_zero]))
                apply wpText_done
                go_wp2_with fail
                go_meet
                rw [Hd.out]
                exact ⟨_, rfl, hA, hR, hk, hbx⟩
            have b3 : (st.kind == 3) = false := by simpa using h0
            have g3 := h0
            clear h0
            by_cases h0 : st.kind = 4
            · as_aux_lemma =>
                have b4 : (st.kind == 4) = true := by simpa using h0
                obtain ⟨e, D', he⟩ : ∃ e D', D.write st.n st.s = (e, D') := ⟨_, _, rfl⟩
                have hr4 := fun W (h : RefAt W r lo hi D) => rwrite_calls st.n st.s W h wfD
                rw [he] at hr4
                have hd : doStep4 st D = D' := by unfold doStep4; rw [if_neg (by omega), if_neg (by omega), if_pos h0, he]
                have Hd := Lib.hid hd
                clear hd
                go_wp2_with fail
                replace hA := hA.drew; replace hR := hR.drew; replace hk := hk.drew
                refine wp_region_text [(0, true), (1, true), (2, true), (3, true), (4, true), (6, true), (7, true), (8, true), (9, true), (10, true), (5, false), (11, false), (12, true), (13, true)] (fun W' => W'.heap[wr.heap.size]? = some (.cells (cells4 st (.slice akk st.keep.length ckk)).toArray 76 (0, 0))) (by kernel_rfl) (by kernel_rfl) (fun d _ _ _ _ h => by cases d <;> exact h) hbx ?_
                replace hbx : wr.heap.size < W5.drew.heap.size ∧ W5.drew.heap[wr.heap.size]? = some (.cells (cells4 st (.slice akk st.keep.length ckk)).toArray 76 (0, 0)) := ⟨hbw, hbx⟩
                replace hbx := hbx.2
                repeat (first | (apply wpText_take; rfl; rfl; (intro W hS; have s1 := cell_blk hS 1 (.int .i64 st.n) rfl; have s2 := cell_blk hS 2 (.string (bs st.s)) rfl; have s6 := cell_blk hS 6 (.slice akk st.keep.length ckk) rfl; have s7 := cell_blk hS 7 (.int .i64 st.torn) rfl; have s8 := cell_blk hS 8 (.int .i64 st.cut) rfl; go_simp; exact rfl); try simp only [Act.put, List.setIfInBounds_toArray, List.set_cons_succ, List.set_cons_zero]) | ((with_reducible apply wpText_loadPart 23 (n := 3) (off := 3) (t := 76) (fr := (0, 0)) (L := (cells4 st (.slice akk st.keep.length ckk))) (V := [.bool st.on, .int .i64 st.ep, .int .i64 st.pg]) (hg := Try.isAgg23) (hs := Try.sizeOf23)); rfl; rfl; rfl; rfl; (intro W hS; exact hS); (show 3 + 3 ≤ 9; omega); rfl; try simp only [Act.put, List.setIfInBounds_toArray, List.set_cons_succ, List.set_cons_zero]) | (apply wpText_goL; rfl; intro K hK; go_wp2_with (first | (go_at_call 32; ((with_reducible refine (dWrite hA he).mono ?_); rintro e Wx ⟨rfl, hx, kx⟩; replace hR := hR.keep kx (fun b q1 q2 => by first | exact (fun q => q) | (simp only [dset]; omega)); replace hk := Keeps.trans_new hk kx (fun k hk q => by first | exact q.elim | (simp only [dset] at q; omega)); replace hA := hx; replace hbx := carry kx hbx (by first | exact (fun q => q) | (simp only [dset]; omega) | omega); have c1 := cell_blk hbx 1 (.int .i64 st.n) rfl; clear hx kx)) | (go_at_call 47; ((with_reducible refine (hr4 _ hR).mono ?_); rintro e Wx ⟨rfl, hx, kx⟩; replace hA := hA.keep kx (by omega) (by omega) (by omega); replace hk := Keeps.trans_new hk kx (fun k hk q => by omega); replace hR := hx; replace hbx := carry kx hbx (by first | exact (fun q => q) | (simp only [dset]; omega) | omega); have c1 := cell_blk hbx 1 (.int .i64 st.n) rfl; clear hx kx))); (refine hK _ _ hbx ?_); clear hK K; try simp only [Act.put, List.setIfInBounds_toArray, List.set_cons_succ, List.set_cons_zero]))
                apply wpText_done
                go_wp2_with fail
                go_meet
                rw [Hd.out]
                exact ⟨_, rfl, hA, hR, hk, hbx⟩
            have b4 : (st.kind == 4) = false := by simpa using h0
            have g4 := h0
            clear h0
            by_cases h0 : st.kind = 5
            · as_aux_lemma =>
                have b5 : (st.kind == 5) = true := by simpa using h0
                obtain ⟨e, D', he⟩ : ∃ e D', D.flush = (e, D') := ⟨_, _, rfl⟩
                have hr4 := fun W (h : RefAt W r lo hi D) => rflush_calls W h wfD
                rw [he] at hr4
                have hd : doStep4 st D = D' := by unfold doStep4; rw [if_neg (by omega), if_neg (by omega), if_neg (by omega), if_pos h0, he]
                have Hd := Lib.hid hd
                clear hd
                go_wp2_with (first | (go_at_call 31; ((with_reducible refine (dFlush hA he).mono ?_); rintro e Wx ⟨rfl, hx, kx⟩; replace hR := hR.keep kx (fun b q1 q2 => by first | exact (fun q => q) | (simp only [dset]; omega)); replace hk := Keeps.trans_new hk kx (fun k hk q => by first | exact q.elim | (simp only [dset] at q; omega)); replace hA := hx; replace hbx := carry kx hbx (by first | exact (fun q => q) | (simp only [dset]; omega) | omega); have c1 := cell_blk hbx 1 (.int .i64 st.n) rfl; clear hx kx)) | (go_at_call 48; ((with_reducible refine (hr4 _ hR).mono ?_); rintro e Wx ⟨rfl, hx, kx⟩; replace hA := hA.keep kx (by omega) (by omega) (by omega); replace hk := Keeps.trans_new hk kx (fun k hk q => by omega); replace hR := hx; replace hbx := carry kx hbx (by first | exact (fun q => q) | (simp only [dset]; omega) | omega); have c1 := cell_blk hbx 1 (.int .i64 st.n) rfl; clear hx kx)))
                go_meet
                rw [Hd.out]
                exact ⟨_, rfl, hA, hR, hk, hbx⟩
            have b5 : (st.kind == 5) = false := by simpa using h0
            have g5 := h0
            clear h0
            by_cases h0 : st.kind = 6
            · as_aux_lemma =>
                have b6 : (st.kind == 6) = true := by simpa using h0
                obtain ⟨e, D', he⟩ : ∃ e D', D.fuse st.n = (e, D') := ⟨_, _, rfl⟩
                have hr4 := fun W (h : RefAt W r lo hi D) => rfuse_calls st.n W h
                rw [he] at hr4
                have hd : doStep4 st D = D' := by unfold doStep4; rw [if_neg (by omega), if_neg (by omega), if_neg (by omega), if_neg (by omega), if_pos h0, he]
                have Hd := Lib.hid hd
                clear hd
                go_wp2_with fail
                replace hA := hA.drew; replace hR := hR.drew; replace hk := hk.drew
                refine wp_region_text [(0, true), (1, true), (2, true), (4, true), (5, true), (6, true), (3, false), (7, false), (8, true), (9, true)] (fun W' => W'.heap[wr.heap.size]? = some (.cells (cells4 st (.slice akk st.keep.length ckk)).toArray 76 (0, 0))) (by kernel_rfl) (by kernel_rfl) (fun d _ _ _ _ h => by cases d <;> exact h) hbx ?_
                replace hbx : wr.heap.size < W5.drew.heap.size ∧ W5.drew.heap[wr.heap.size]? = some (.cells (cells4 st (.slice akk st.keep.length ckk)).toArray 76 (0, 0)) := ⟨hbw, hbx⟩
                replace hbx := hbx.2
                repeat (first | (apply wpText_take; rfl; rfl; (intro W hS; have s1 := cell_blk hS 1 (.int .i64 st.n) rfl; have s2 := cell_blk hS 2 (.string (bs st.s)) rfl; have s6 := cell_blk hS 6 (.slice akk st.keep.length ckk) rfl; have s7 := cell_blk hS 7 (.int .i64 st.torn) rfl; have s8 := cell_blk hS 8 (.int .i64 st.cut) rfl; go_simp; exact rfl); try simp only [Act.put, List.setIfInBounds_toArray, List.set_cons_succ, List.set_cons_zero]) | ((with_reducible apply wpText_loadPart 23 (n := 3) (off := 3) (t := 76) (fr := (0, 0)) (L := (cells4 st (.slice akk st.keep.length ckk))) (V := [.bool st.on, .int .i64 st.ep, .int .i64 st.pg]) (hg := Try.isAgg23) (hs := Try.sizeOf23)); rfl; rfl; rfl; rfl; (intro W hS; exact hS); (show 3 + 3 ≤ 9; omega); rfl; try simp only [Act.put, List.setIfInBounds_toArray, List.set_cons_succ, List.set_cons_zero]) | (apply wpText_goL; rfl; intro K hK; go_wp2_with (first | (go_at_call 35; ((with_reducible refine (dFuse hA ho.n1 he).mono ?_); rintro e Wx ⟨rfl, hx, kx⟩; replace hR := hR.keep kx (fun b q1 q2 => by first | exact (fun q => q) | (simp only [dset]; omega)); replace hk := Keeps.trans_new hk kx (fun k hk q => by first | exact q.elim | (simp only [dset] at q; omega)); replace hA := hx; replace hbx := carry kx hbx (by first | exact (fun q => q) | (simp only [dset]; omega) | omega); have c1 := cell_blk hbx 1 (.int .i64 st.n) rfl; clear hx kx)) | (go_at_call 49; ((with_reducible refine (hr4 _ hR).mono ?_); rintro e Wx ⟨rfl, hx, kx⟩; replace hA := hA.keep kx (by omega) (by omega) (by omega); replace hk := Keeps.trans_new hk kx (fun k hk q => by omega); replace hR := hx; replace hbx := carry kx hbx (by first | exact (fun q => q) | (simp only [dset]; omega) | omega); have c1 := cell_blk hbx 1 (.int .i64 st.n) rfl; clear hx kx))); (refine hK _ _ hbx ?_); clear hK K; try simp only [Act.put, List.setIfInBounds_toArray, List.set_cons_succ, List.set_cons_zero]))
                apply wpText_done
                go_wp2_with fail
                go_meet
                rw [Hd.out]
                exact ⟨_, rfl, hA, hR, hk, hbx⟩
            have b6 : (st.kind == 6) = false := by simpa using h0
            have g6 := h0
            clear h0
            as_aux_lemma =>
              obtain ⟨e, D', he⟩ : ∃ e D', D.crash st.keep st.torn st.cut = (e, D') := ⟨_, _, rfl⟩
              have hap : 0 < st.keep.length → ∀ a n c, Value.slice akk st.keep.length ckk = .slice (some a) n c → ¬ dset p q j a.block := hsv.1.apart lp lq lm
              have hap2 : 0 < st.keep.length → ∀ a n c, Value.slice akk st.keep.length ckk = .slice (some a) n c → a.block ≠ r := fun h0 a n c e => by
                have hs1 := hsv.1
                rw [e] at hs1
                have := hs1.lt h0; omega
              have hr4 := fun W (h : RefAt W r lo hi D) (hb : BoolsAt W (.slice akk st.keep.length ckk) st.keep) => rcrash_calls (.slice akk st.keep.length ckk) st.keep st.torn st.cut W h wfD hb hap2
              rw [he] at hr4
              have hd : doStep4 st D = D' := by unfold doStep4; rw [if_neg (by omega), if_neg (by omega), if_neg (by omega), if_neg (by omega), if_neg (by omega), if_neg (by omega), he]
              have Hd := Lib.hid hd
              clear hd
              go_wp2_with fail
              replace hA := hA.drew; replace hR := hR.drew; replace hk := hk.drew
              refine wp_region_text [(0, true), (1, true), (2, true), (3, true), (4, true), (5, true), (6, true), (8, true), (9, true), (10, true), (11, true), (12, true), (13, true), (14, true), (7, false), (15, false), (16, true), (17, true)] (fun W' => W'.heap[wr.heap.size]? = some (.cells (cells4 st (.slice akk st.keep.length ckk)).toArray 76 (0, 0))) (by kernel_rfl) (by kernel_rfl) (fun d _ _ _ _ h => by cases d <;> exact h) hbx ?_
              replace hbx : wr.heap.size < W5.drew.heap.size ∧ W5.drew.heap[wr.heap.size]? = some (.cells (cells4 st (.slice akk st.keep.length ckk)).toArray 76 (0, 0)) := ⟨hbw, hbx⟩
              replace hbx := hbx.2
              repeat (first | (apply wpText_take; rfl; rfl; (intro W hS; have s1 := cell_blk hS 1 (.int .i64 st.n) rfl; have s2 := cell_blk hS 2 (.string (bs st.s)) rfl; have s6 := cell_blk hS 6 (.slice akk st.keep.length ckk) rfl; have s7 := cell_blk hS 7 (.int .i64 st.torn) rfl; have s8 := cell_blk hS 8 (.int .i64 st.cut) rfl; go_simp; exact rfl); try simp only [Act.put, List.setIfInBounds_toArray, List.set_cons_succ, List.set_cons_zero]) | ((with_reducible apply wpText_loadPart 23 (n := 3) (off := 3) (t := 76) (fr := (0, 0)) (L := (cells4 st (.slice akk st.keep.length ckk))) (V := [.bool st.on, .int .i64 st.ep, .int .i64 st.pg]) (hg := Try.isAgg23) (hs := Try.sizeOf23)); rfl; rfl; rfl; rfl; (intro W hS; exact hS); (show 3 + 3 ≤ 9; omega); rfl; try simp only [Act.put, List.setIfInBounds_toArray, List.set_cons_succ, List.set_cons_zero]) | (apply wpText_goL; rfl; intro K hK; go_wp2_with (first | (go_at_call 29; (((refine (dCrash hA (hsv.1.carry hk) hap he).mono ?_)); rintro e Wx ⟨rfl, hx, kx⟩; replace hR := hR.keep kx (fun b q1 q2 => by first | exact (fun q => q) | (simp only [dset]; omega)); replace hk := Keeps.trans_new hk kx (fun k hk q => by first | exact q.elim | (simp only [dset] at q; omega)); replace hA := hx; replace hbx := carry kx hbx (by first | exact (fun q => q) | (simp only [dset]; omega) | omega); have c1 := cell_blk hbx 1 (.int .i64 st.n) rfl; clear hx kx)) | (go_at_call 50; (((refine (hr4 _ hR (hsv.1.carry hk)).mono ?_)); rintro e Wx ⟨rfl, hx, kx⟩; replace hA := hA.keep kx (by omega) (by omega) (by omega); replace hk := Keeps.trans_new hk kx (fun k hk q => by omega); replace hR := hx; replace hbx := carry kx hbx (by first | exact (fun q => q) | (simp only [dset]; omega) | omega); have c1 := cell_blk hbx 1 (.int .i64 st.n) rfl; clear hx kx))); (refine hK _ _ hbx ?_); clear hK K; try simp only [Act.put, List.setIfInBounds_toArray, List.set_cons_succ, List.set_cons_zero]))
              apply wpText_done
              go_wp2_with fail
              go_meet
              rw [Hd.out]
              exact ⟨_, rfl, hA, hR, hk, hbx⟩
          case rest =>
            as_aux_lemma =>
              obtain ⟨hi, rfl, hA, hR, hk, hbx⟩ := hcut
              have wfD := hA.wf
              have hsm := wfD.small
              have c1 := cell_blk hbx 1 (.int .i64 st.n) rfl
              generalize doStep4 st D = D at *
              go_wp2_with (first | (go_at_call 20; refine (dPages hA rfl).mono ?_; rintro e Wx ⟨rfl, rfl⟩) | (go_at_call 51; refine (rpages_calls _ hR wfD).mono ?_; rintro e Wx ⟨rfl, rfl⟩))
              clear c1
              generalize hB : wrap64 (4 * min st.n 5000) = B at *
              have HB := Lib.hid hB
              clear hB
              go_loopw [20] (fun i wx => ∃ (x : Int) , 0 ≤ x ∧ i = .int .i64 x ∧ DiskAt wx p q j D ∧ RefAt wx r lo hi D ∧ Keeps noB w wx ∧ wx.heap[wr.heap.size]? = some (.cells (cells4 st (.slice akk st.keep.length ckk)).toArray 76 (0, 0))) (fun i _ => (4097 - intOf i).toNat)
              case atStart => exact ⟨_, by omega, rfl, hA, hR, hk, hbx⟩
              case round =>
                clear hA hR hk hbx
                obtain ⟨x, hx0, rfl, hA, hR, hk, hbx⟩ := hrel
                have c1 := cell_blk hbx 1 (.int .i64 st.n) rfl
                have hm4 : wrap64 (4 * min st.n 5000) = B := HB.out
                by_cases cL : x < wrap64 (B + 4)
                · have d4 : decide (x < wrap64 (B + 4)) = true := by rw [decide_eq_true_eq]; exact cL
                  by_cases cS : x < D.there.length
                  · have d5 : decide (x < (D.there.length : Int)) = true := by rw [decide_eq_true_eq]; exact cS
                    clear cL
                    obtain ⟨s, e, he⟩ : ∃ s e, D.read x = (s, e) := ⟨_, _, rfl⟩
                    have hr2 := fun W (h : RefAt W r lo hi D) => rread_calls x W h wfD
                    rw [he] at hr2
                    go_wp2_with (first | (go_at_call 39; refine (dSectors hA rfl).mono ?_; rintro e Wx ⟨rfl, rfl⟩) | (go_at_call 24; (refine (dRead hA he).mono ?_); rintro e Wx ⟨rfl, hx, kx⟩; replace hR := hR.held kx; replace hk := hk.trans kx; replace hbx := carry kx hbx (fun q => q); replace hA := hx; clear hx kx) | (go_at_call 52; (refine (hr2 _ hR).mono ?_); rintro e Wx2 ⟨rfl, rfl⟩))
                    exact ⟨⟨x + 1, by omega, rfl, hA, hR, hk, hbx⟩, by simp [intOf]; omega⟩
                  · have d5 : decide (x < (D.there.length : Int)) = false := by rw [decide_eq_false_iff_not]; exact cS
                    clear cL
                    go_wp2_with (go_at_call 39; refine (dSectors hA rfl).mono ?_; rintro e Wx ⟨rfl, rfl⟩)
                    exact ⟨⟨k + 1, hi, D, by omega, by simp, hA, hR, hk⟩, by simp [intOf]; omega⟩
                · have d4 : decide (x < wrap64 (B + 4)) = false := by rw [decide_eq_false_iff_not]; exact cL
                  clear cL
                  go_wp2_with fail
                  exact ⟨⟨k + 1, hi, D, by omega, by simp, hA, hR, hk⟩, by simp [intOf]; omega⟩
        · have d3 : decide ((k : Int) < (l.length : Int)) = false := by rw [decide_eq_false_iff_not]; omega
          go_wp2_with (go_at_call 15; refine (haw _).mono ?_; rintro e W4 ⟨rfl, q4⟩)
          go_ret
          exact ⟨rfl, hk.trans q4⟩
    · go_ret
      exact ⟨rfl, q2.trans q4⟩
end Go.Proofs.Ytckopikeegegkaa
/- OPENS 4: the steps of the pages' law, opened. -/
namespace Go.Proofs.Ytckopikeegegkaa
open Go.ChangeShapes Go.WideShapes Go.ChangeAt Go.RowKit Go.Joins Go.Deep
section
variable {H : Type} {enc : TypeId × Value → H} {P : Program} {w : World} {base : Nat} {spare : Nat → Bool} {held : Bool}
/-- A slice of structs whose fields have any number of cells. -/
theorem open_slice_offs {t e : TypeId} {fs : Array Field} {fuel C : Nat} {cs : List Value} {x : DataW H × List MemPlace} (ht : P.underlying t = some (.slice e)) (he : P.underlying e = some (.struct fs))
    (hC : P.cellsOf e = C) (h : DataW.trod enc P w base spare held fuel t cs = some x) :
    (cs = [.slice none 0 0]) ∨
    ∃ (a : Addr) (len cap m : Nat), cs = [.slice (some a) len cap] ∧ len ≤ cap ∧ cap ≤ maxLen ∧ m = (if spare a.block then cap else len) ∧
      ∀ i, i < m → ∃ (n : Nat) (cs' : List Value), cs'.length = C ∧ (∀ j, j < C → w.cell? (a.add (i * C + j)) = cs'[j]?) ∧
        ∀ (j : Nat) (f : Field), fs[j]? = some f → ∃ y, DataW.trod enc P w base spare held n f.type ((cs'.drop f.offset).take (P.cellsOf f.type)) = some y := by
  rcases open_slice ht h with h0 | ⟨a, len, cap, m, n, D, Pl, hcs, hb, hl, hm, hmm, hx, hi⟩
  · exact .inl h0.1
  · refine .inr ⟨a, len, cap, m, hcs, hl, hm, hmm, fun i him => ?_⟩
    obtain ⟨cs', hc, ht'⟩ := hi i him
    rw [hC] at hc
    obtain ⟨ys, n', hn', hy, hlen, hyl, hf⟩ := DataW.trod_struct he ht'
    obtain ⟨_, hcl, hat⟩ := World.cells?_some hc
    refine ⟨n', cs', by rw [hlen, hC], fun j hj => ?_, fun j f hj => ?_⟩
    · have h1 := hat j hj
      rw [← Go.Deep.add_add]
      exact h1
    · have h1 := hf j f hj
      have hjl : j < fs.size := (Array.getElem?_eq_some_iff.1 hj).1
      exact ⟨ys[j]'(by omega), h1.trans (List.getElem?_eq_getElem (by omega))⟩
end
theorem take_one {cs : List Value} {o : Nat} (h : o < cs.length) : (cs.drop o).take 1 = [cs[o]] := by
  rw [List.drop_eq_getElem_cons h]; rfl
set_option maxRecDepth 100000 in
theorem open_steps4 {H : Type} {enc : TypeId × Value → H} {w : World} {base b0 : Nat} {held : Bool} {r : Reach} {v : Value} {d : DataW H} {p : List MemPlace}
    (hv : Value.okWide Try.prog w r b0 73 v) (h : DataW.Trod enc Try.prog w base (fun _ => true) held 73 v d p) : ∃ l : List Stp4, StepsAt4 w v l ∧ l.length ≤ maxLen ∧ ∀ x ∈ l, Stp4Ok x := by
  obtain ⟨a0, len, cap, rfl⟩ := okWide_slice Try.underlying73 hv
  obtain ⟨fuel, hf⟩ := h
  rcases open_slice_offs (C := 9) Try.underlying73 Try.underlying76 (by kernel_rfl) hf with hc | ⟨a, len', cap', m, hc, hl, hm, hmm, hff⟩
  · simp [Value.cells] at hc
    obtain ⟨rfl, rfl, rfl⟩ := hc
    exact ⟨[], .inl ⟨rfl, rfl⟩, by simp, by simp⟩
  · simp [Value.cells] at hc
    obtain ⟨rfl, rfl, rfl⟩ := hc
    simp at hmm
    have each : ∀ i, i < len → ∃ x : Stp4, StepAt4 w (a.add (i * 9)) x ∧ Stp4Ok x := by
      intro i hi
      obtain ⟨n, cs', hcl, hcell, hj⟩ := hff i (by omega)
      obtain ⟨y0, t0⟩ := hj 0 _ rfl
      obtain ⟨y1, t1⟩ := hj 1 _ rfl
      obtain ⟨y2, t2⟩ := hj 2 _ rfl
      obtain ⟨y3, t3⟩ := hj 3 _ rfl
      obtain ⟨y4, t4⟩ := hj 4 _ rfl
      obtain ⟨y5, t5⟩ := hj 5 _ rfl
      obtain ⟨y6, t6⟩ := hj 6 _ rfl
      have k1 : Try.prog.cellsOf 5 = 1 := by kernel_rfl
      have k2 : Try.prog.cellsOf 3 = 1 := by kernel_rfl
      have k3 : Try.prog.cellsOf 9 = 1 := by kernel_rfl
      have k4 : Try.prog.cellsOf 23 = 3 := by kernel_rfl
      have k5 : Try.prog.cellsOf 40 = 1 := by kernel_rfl
      have k6 : Try.prog.cellsOf 4 = 1 := by kernel_rfl
      replace t0 : DataW.trod enc Try.prog w base (fun _ => true) held n 5 ((cs'.drop 0).take (Try.prog.cellsOf 5)) = some y0 := t0
      replace t1 : DataW.trod enc Try.prog w base (fun _ => true) held n 3 ((cs'.drop 1).take (Try.prog.cellsOf 3)) = some y1 := t1
      replace t2 : DataW.trod enc Try.prog w base (fun _ => true) held n 9 ((cs'.drop 2).take (Try.prog.cellsOf 9)) = some y2 := t2
      replace t3 : DataW.trod enc Try.prog w base (fun _ => true) held n 23 ((cs'.drop 3).take (Try.prog.cellsOf 23)) = some y3 := t3
      replace t4 : DataW.trod enc Try.prog w base (fun _ => true) held n 40 ((cs'.drop 6).take (Try.prog.cellsOf 40)) = some y4 := t4
      replace t5 : DataW.trod enc Try.prog w base (fun _ => true) held n 3 ((cs'.drop 7).take (Try.prog.cellsOf 3)) = some y5 := t5
      replace t6 : DataW.trod enc Try.prog w base (fun _ => true) held n 3 ((cs'.drop 8).take (Try.prog.cellsOf 3)) = some y6 := t6
      rw [k1, take_one (by omega)] at t0
      rw [k2, take_one (by omega)] at t1
      rw [k3, take_one (by omega)] at t2
      rw [k4] at t3
      rw [k5, take_one (by omega)] at t4
      rw [k2, take_one (by omega)] at t5
      rw [k2, take_one (by omega)] at t6
      obtain ⟨z0, z1, z2, n2, _, _, s0, s1, s2⟩ := trod_struct3 Try.underlying23 t3
      replace s0 : DataW.trod enc Try.prog w base (fun _ => true) held n2 4 ((((cs'.drop 3).take 3).drop 0).take (Try.prog.cellsOf 4)) = some z0 := s0
      replace s1 : DataW.trod enc Try.prog w base (fun _ => true) held n2 3 ((((cs'.drop 3).take 3).drop 1).take (Try.prog.cellsOf 3)) = some z1 := s1
      replace s2 : DataW.trod enc Try.prog w base (fun _ => true) held n2 3 ((((cs'.drop 3).take 3).drop 2).take (Try.prog.cellsOf 3)) = some z2 := s2
      rw [k6] at s0
      rw [k2] at s1 s2
      have hd : ∀ o (ho : o < 3), (((cs'.drop 3).take 3).drop o).take 1 = [cs'[3 + o]'(by omega)] := by
        intro o ho
        rw [List.drop_take, List.take_take, List.drop_drop, Nat.min_eq_left (by omega)]
        exact take_one (by omega)
      rw [hd 0 (by omega)] at s0
      rw [hd 1 (by omega)] at s1
      rw [hd 2 (by omega)] at s2
      obtain ⟨k, e0, _, w0⟩ := DataW.trod_int Try.underlying5 t0
      obtain ⟨nn, e1, _, w1⟩ := DataW.trod_int Try.underlying3 t1
      obtain ⟨s, e2, _⟩ := DataW.trod_string Try.underlying9 t2
      obtain ⟨on, e3, _⟩ := DataW.trod_bool Try.underlying4 s0
      obtain ⟨ep, e4, _, _⟩ := DataW.trod_int Try.underlying3 s1
      obtain ⟨pg, e5, _, _⟩ := DataW.trod_int Try.underlying3 s2
      obtain ⟨keep, hkeep, hkl⟩ := boolsAt_trod t4
      obtain ⟨torn, e7, _, w7⟩ := DataW.trod_int Try.underlying3 t5
      obtain ⟨cut, e8, _, w8⟩ := DataW.trod_int Try.underlying3 t6
      simp only [List.cons.injEq, and_true] at e0 e1 e2 e3 e4 e5 e7 e8
      refine ⟨⟨k, nn, s.data.toList, on, ep, pg, keep, torn, cut⟩, ⟨_, hkeep, ?_⟩, ⟨(u8_bounds w0).1, (i64_bounds w1).2⟩⟩
      intro j v hjv
      have hjl : j < 9 := (List.getElem?_eq_some_iff.1 hjv).1
      rw [add_add, hcell j hjl, ← hjv]
      have e2' : cs'[2] = .string (bs s.data.toList) := by rw [bs_of]; exact e2
      rcases j with _ | _ | _ | _ | _ | _ | _ | _ | _ | j
      · rw [List.getElem?_eq_getElem (by omega), e0]; rfl
      · rw [List.getElem?_eq_getElem (by omega), e1]; rfl
      · rw [List.getElem?_eq_getElem (by omega), e2']; rfl
      · rw [List.getElem?_eq_getElem (by omega), e3]; rfl
      · rw [List.getElem?_eq_getElem (by omega), e4]; rfl
      · rw [List.getElem?_eq_getElem (by omega), e5]; rfl
      · rw [List.getElem?_eq_getElem (by omega)]; rfl
      · rw [List.getElem?_eq_getElem (by omega), e7]; rfl
      · rw [List.getElem?_eq_getElem (by omega), e8]; rfl
      · omega
    obtain ⟨F, hF⟩ := choose_lt (α := Stp4) (p := fun i x => StepAt4 w (a.add (i * 9)) x ∧ Stp4Ok x) each
    refine ⟨(List.range len).map F, .inr ⟨a, cap, by simp, fun i hi => ?_⟩, by simp; omega, fun x hx => ?_⟩
    · simp at hi
      simp only [List.getElem_map, List.getElem_range]
      exact (hF i hi).1
    · obtain ⟨i, hi, rfl⟩ := List.mem_map.1 hx
      exact (hF i (List.mem_range.1 hi)).2
end Go.Proofs.Ytckopikeegegkaa
/- PagePlays answers true at every input, and leaves its arguments as they were. No condition. -/
namespace Go.Proofs.Ytckopikeegegkaa
open Go.ChangeShapes Go.WideShapes Go.ChangeAt Go.RowKit Go.Joins
set_option maxRecDepth 100000 in
theorem pagePlays_lifted (os : Os) (started : os.Started) (H : Type) (enc : TypeId × Value → H) :
    ReturnsInHanded {} Try.checked os 14 .any (Rows.pagePlaysSpec.pre6 enc Try.prog Try.f14 Rows.pagePlaysRow.domain false) (Rows.pagePlaysSpec.post enc Try.prog Try.f14 false true false false) := by
  refine returnsInHanded_of_change (C := Try.checked) Try.own started (by kernel_rfl) Try.func14
    (ChangeSpec.witness6 (enc := enc) (C := Try.checked) false ⟨#[], #[.int .i64 0, .slice none 0 0], []⟩ 8 (by kernel_rfl) (by kernel_rfl) (by kernel_rfl) (by kernel_rfl)) ?_
  intro W base args ds gs before hval0 hW hcnd _
  have hval : ∀ (j : Nat) t v, Try.f14.params[j]? = some t → args[j]? = some v → Value.okWide Try.prog W .any base t v := hval0
  have hW' := hW
  obtain ⟨p, q, hA0, hV, rfl, hfz, hnd⟩ := hW
  have hA : DataW.TrodAll enc Try.prog W 0 (fun _ => true) true Try.f14.params.toList args.toList ds p := hA0
  obtain ⟨rfl, rfl⟩ := trodVars_none hV
  rw [Try.params14] at hA hval
  obtain ⟨v0, vs, d0, ds0, p0, q0, ea, rfl, rfl, h0, hA⟩ := trodAll_cons hA
  obtain ⟨v1, vs, d1, ds1, p1, q1, rfl, rfl, rfl, h1, hA⟩ := trodAll_cons hA
  obtain ⟨rfl, rfl, rfl⟩ := trodAll_nil hA
  obtain rfl : args = #[v0, v1] := by cases args; simpa using ea
  obtain ⟨sectors, rfl, rfl, rfl, w0⟩ := open_int Try.underlying3 (hval 0 3 v0 rfl rfl) h0
  obtain ⟨l, hl, hll, hok⟩ := open_steps4 (hval 1 73 v1 rfl rfl) h1
  have hwalk : Calls Try.prog 14 #[.int .i64 sectors, v1] W fun e W' => e = .returned (.bool true) ∧ Keeps noB W W' :=
    pagePlays_walk sectors v1 l W hl hll hok (fun W => awake4_calls W)
  refine hwalk.mono fun e W' ⟨he, hk⟩ => ?_
  subst he
  exact ⟨_, rfl, law_post Try.laidOut hk hW' rfl rfl Try.underlying4 rfl (by kernel_rfl)⟩
theorem pagePlays_holds : Rows.PagePlaysSaid :=
  OpenClaim.holds_of_wide 14 Try.f14 rfl rfl rfl rfl rfl rfl rfl ⟨rfl, rfl, rfl, rfl, rfl⟩ rfl rfl rfl rfl rfl (by kernel_rfl) Try.func14 (by kernel_rfl)
    (of_decide_eq_true (by kernel_rfl)) (by unfold Func.isWrapper; first | (rw [if_pos (by decide +kernel)]; kernel_rfl) | (rw [if_neg (by decide +kernel)]; exact ⟨rfl, rfl⟩))
    (fun os started H enc _ => pagePlays_lifted os started H enc)
#print axioms pagePlays_holds
end Go.Proofs.Ytckopikeegegkaa
