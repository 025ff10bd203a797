/- DISK 3: the contract of Write. -/
import Derived.Test.YtckopikeegegkaaDisk2
import Derived.Test.YtckopikeegegkaaRegText
namespace Go.Proofs.Ytckopikeegegkaa
open Go.RowKit Go.MapKept
set_option linter.unusedSimpArgs false
set_option linter.unusedVariables false
variable {p q m : Nat} {D : Dk}

theorem write_wf (h : D.Wf) {n : Nat} {s : Str} (hn : n < D.there.length) (hs : s.length = 64) : ({ D with left := Dk.burnt D.left, aside := Dk.put n s D.aside } : Dk).Wf :=
  ⟨h.there, fun x hx => by
    rcases put_mem hx with rfl | hx
    · exact ⟨hn, hs⟩
    · exact h.aside x hx, put_rises h.rises, burnt_bounds h.left.1 h.left.2, h.pos, h.small⟩

set_option maxHeartbeats 400000 in
set_option maxRecDepth 10000 in
theorem write_calls (n : Int) (s : Str) (w : World) (h : DiskAt w p q m D) :
    Calls Try.prog 32 #[.pointer (some ⟨p, 0, none⟩), .int .i64 n, .string (bs s)] w fun e w' =>
      e = .returned (.int .i64 (D.write n s).1) ∧ DiskAt w' p q m (D.write n s).2 ∧ Keeps (dset p q m) w w' := by
  have hi := is_calls n w h
  cases hh : D.has n with
  | false =>
    have e : D.write n s = (5, D) := by simp [Dk.write, hh]
    rw [e]
    rw [hh] at hi
    clear e hh
    go_enter Try.func32, Try.ntmps32
    go_wp2_with (go_at_call 56; refine hi.mono ?_; rintro e w' ⟨rfl, rfl⟩)
    go_ret
    exact ⟨rfl, h, Keeps.refl _ _⟩
  | true =>
    obtain ⟨k, rfl⟩ : ∃ k : Nat, n = k := ⟨n.toNat, by unfold Dk.has at hh; simp at hh; omega⟩
    have hk : k < D.there.length := by unfold Dk.has at hh; simp at hh; exact hh
    rw [hh] at hi
    by_cases hs : s.length = 64
    · have b0 : ((s.length : Int) != 64) = false := by rw [hs]; rfl
      by_cases h0 : D.left = 0
      · have e : D.write k s = (42, D) := by simp [Dk.write, hh, hs, h0]
        rw [e]
        have hb := burn_dead w h h0
        clear e hh hs h0
        go_enter Try.func32, Try.ntmps32
        go_wp2_with (first | (go_at_call 56; refine hi.mono ?_; rintro e w' ⟨rfl, rfl⟩) | (go_at_call 62; refine hb.mono ?_; rintro e w' ⟨rfl, rfl⟩))
        go_ret
        exact ⟨rfl, h, Keeps.refl _ _⟩
      · have e : D.write k s = (0, { D with left := Dk.burnt D.left, aside := Dk.put k s D.aside }) := by simp [Dk.write, hh, hs, h0]
        rw [e]
        have hb := burn_live w h (by simpa using h0)
        have h2 := h.setLeft _ (burnt_bounds h.wf.left.1 h.wf.left.2).1 (burnt_bounds h.wf.left.1 h.wf.left.2).2
        have hwf := write_wf h.wf hk hs
        have k2 := (Keeps.refl (dset p q m) w).setCell (a := ⟨p, 2, none⟩) (fun _ => .inl rfl) (.int .i64 (Dk.burnt D.left))
        have np := h.ne_pm; have nq := h.ne_qm
        generalize Dk.burnt D.left = x at *
        generalize hw1 : w.setCell ⟨p, 2, none⟩ (.int .i64 x) = w1 at *
        obtain ⟨cap, hc, c0, c1, c2, hf⟩ := h2.cells
        obtain ⟨es, clock, hm, hR⟩ := h2.kept
        have lm := h2.lt_m; have lp := h2.lt_p; have lq := h2.lt_q
        have hfin : ∀ w2 w3 es' clock', Keeps noB w1 w2 → MapRep es' clock' (Dk.put k s D.aside) → w3 = w2.putObj m (.map es' clock') →
            DiskAt w3 p q m { D with left := x, aside := Dk.put k s D.aside } ∧ Keeps (dset p q m) w w3 := by
          intro w2 w3 es' clock' hk2 hR' e3
          subst e3
          have h4 := h2.keep hk2 (fun q => q) (fun q => q) (fun q => q)
          refine ⟨⟨?_, ?_, ⟨es', clock', putObj_eq _ _ _ h4.lt_m, hR'⟩, hwf⟩, (k2.trans (hk2.mono (fun _ _ q => q.elim))).putObj (fun _ => .inr (.inr rfl)) _⟩
          · obtain ⟨cap, hc, hs⟩ := h4.strct
            exact ⟨cap, hc, by rw [putObj_ne _ _ _ _ np]; exact hs⟩
          · obtain ⟨r, hr⟩ := h4.row
            exact ⟨r, by rw [putObj_ne _ _ _ _ nq]; exact hr⟩
        have Hfin := Lib.hid hfin
        have hrises := Lib.hid h.wf.rises
        have Hs := Lib.hid hs
        clear hfin e hh hs h0 hwf k2
        clear hw1
        go_enter Try.func32, Try.ntmps32
        go_wp2_with (first | (go_at_call 56; refine hi.mono ?_; rintro e w' ⟨rfl, rfl⟩) | (go_at_call 62; refine hb.mono ?_; rintro e w' ⟨rfl, rfl⟩))
        refine wp_region_text [(0, true), (1, true), (2, true), (3, true), (4, true), (5, true), (6, false), (7, false), (8, false), (9, false)] (fun W => W.cell? ⟨p, 1, none⟩ = some (.map (some m))) (by kernel_rfl) (by kernel_rfl) (fun d _ _ _ _ h => by cases d <;> exact h) (by simpa using c1) ?_
        iterate 6 (apply wpText_take; rfl; rfl; (intro W hS; (try dsimp only at hS); go_simp; exact rfl))
        simp only [Act.put, List.setIfInBounds_toArray, List.set_cons_succ, List.set_cons_zero]
        apply wpText_goL; rfl; intro K hK
        apply wpl_toBytes 9 35 5 (s := s) (hs := Try.underlying9) (hd := Try.underlying35) (he := Try.underlying5); rfl; rfl; rfl
        intro w2 cap2 L2 fr2 b2 hk2 z2
        have e1 : w2.cell? ⟨p, 1, none⟩ = some (.map (some m)) := (hk2.cell 1 (by simpa using lp) (fun q => q)).trans (by simpa using c1)
        refine wpl_end (hK _ _ e1 ?_)
        clear hK K
        simp only [Act.put, List.setIfInBounds_toArray, List.set_cons_succ, List.set_cons_zero]
        apply wpText_goL; rfl; intro K hK
        apply wpl_arrayOf 96 (hu := Try.underlying96); rfl; rfl; exact (Nat.le_of_eq Hs.out.symm); rfl
        refine wpl_end (hK _ _ e1 ?_)
        clear hK K
        simp only [Act.put, List.setIfInBounds_toArray, List.set_cons_succ, List.set_cons_zero]
        apply wpText_goL; rfl; intro K hK
        apply wpl_load 96 (n := 64) (L := encB s ++ L2) (hg := Try.isAgg96) (hs := Try.sizeOf96); rfl; rfl; exact b2; (simp [encB_length, Hs.out]); rfl
        refine wpl_end (hK _ _ e1 ?_)
        clear hK K
        simp only [Act.put, List.setIfInBounds_toArray, List.set_cons_succ, List.set_cons_zero]
        apply wpText_goL; rfl; intro K hK
        have et : List.take 64 (List.drop 0 (encB s ++ L2)) = encB s := by
          rw [List.drop_zero, List.take_append_of_le_length (by rw [encB_length, Hs.out]; exact Nat.le_refl _), List.take_of_length_le (by rw [encB_length, Hs.out]; exact Nat.le_refl _)]
        rw [et]
        apply wpl_mapPut 86 96 m (n := k) (s := s) (hu := Try.underlying86) (hi := Try.underlying3) (hR := hR) (hr := hrises.out); rfl; rfl; rfl; rfl; exact (hk2.block m (by simpa using lm) (fun q => q)).trans (by simpa [heap_drew] using hm); rfl
        intro es' clock' hR'
        refine wpl_end (hK _ _ ?_ ?_)
        · exact (World.cell?_of_block (w := w2) (putObj_ne w2 m p _ np)).trans e1
        · apply wpText_done
          clear hK K
          simp only [Act.put, List.setIfInBounds_toArray, List.set_cons_succ, List.set_cons_zero]
          obtain ⟨f1, f2⟩ := Hfin.out w2 _ es' clock' ((Keeps.refl noB w1).drew.trans hk2) hR' rfl
          generalize w2.putObj m (.map es' clock') = w3 at *
          clear Hfin
          go_wp2
          go_ret
          exact ⟨rfl, f1, f2⟩
    · have b0 : ((s.length : Int) != 64) = true := by simp; omega
      have e : D.write k s = (1, D) := by simp [Dk.write, hh, hs]
      rw [e]
      clear e hh hs
      go_enter Try.func32, Try.ntmps32
      go_wp2_with (go_at_call 56; refine hi.mono ?_; rintro e w' ⟨rfl, rfl⟩)
      go_ret
      exact ⟨rfl, h, Keeps.refl _ _⟩
end Go.Proofs.Ytckopikeegegkaa
