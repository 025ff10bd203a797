/- PURE 7: the plain law of PageMarked. -/
import Derived.Test.YtckopikeegegkaaPure6
namespace Go.Proofs.Ytckopikeegegkaa
def tailR (e g : Int) : Str := (List.range 8).map (fun i => UInt8.ofNat (e.toNat / 256 ^ (7 - i) % 256)) ++ (UInt8.ofNat (g.toNat / 256) :: UInt8.ofNat (g.toNat % 256) :: List.replicate 53 0)
theorem rootText_tail (on : Bool) (e g : Int) : rootText ⟨on, e, g⟩ = (if on then 1 else 0) :: tailR e g := rfl
theorem torn_marked (keep : List Bool) (torn : Int) (cut : Nat) (e g : Int) :
    tornOne keep torn cut (rootText ⟨true, e, g⟩) (rootText ⟨false, e, g⟩) = rootText ⟨if torn = 0 then decide (0 < cut) else keep.getD 0 false, e, g⟩ := by
  unfold tornOne
  by_cases h : torn = 0
  · rw [if_pos h.symm, if_pos h]
    rw [rootText_tail, rootText_tail, rootText_tail]
    cases cut with
    | zero => rfl
    | succ c => simp
  · rw [if_neg (Ne.symm h), if_neg h]
    cases keep.getD 0 false <;> rfl
theorem marked_all (d : Dk) (a : Nat) (ha : hasRoot d a = true) (hl : d.left = -1) (hw : d.Wf) (e g : Int) (m1 : mayRoot ⟨false, e, g⟩ = true) (keep : List Bool) (torn : Int) (cut : Nat) (hc : cut ≤ 64) :
    ∃ D1 D2 D3 D4, pgSetRoot d a ⟨false, e, g⟩ = (0, D1) ∧ D1.flush = (0, D2) ∧ pgSetRoot D2 a ⟨true, e, g⟩ = (0, D3) ∧ D3.aside.length = 1 ∧ D3.crash keep torn cut = (0, D4) ∧
      pgRoot D4 a = (⟨if torn = 0 then decide (0 < cut) else keep.getD 0 false, e, g⟩, 0) := by
  have hna : 4 * a < d.there.length := by
    simp only [hasRoot, hasPage, Bool.and_eq_true, decide_eq_true_eq] at ha
    unfold pages at ha; omega
  have m2 : ∀ b, mayRoot ⟨b, e, g⟩ = true := fun b => m1
  have e1 : pgSetRoot d a ⟨false, e, g⟩ = (0, wrote d (4 * a) (rootText ⟨false, e, g⟩)) := by rw [set_on d ha (by omega), m1]; rfl
  have w1 : (wrote d (4 * a) (rootText ⟨false, e, g⟩)).Wf := wrote_wf hw hna (rootText_length _)
  have l1 : (wrote d (4 * a) (rootText ⟨false, e, g⟩)).left = -1 := by rw [wrote_left, hl]; rfl
  have v1 : (wrote d (4 * a) (rootText ⟨false, e, g⟩)).now (4 * a) = rootText ⟨false, e, g⟩ := by rw [now_wrote, if_pos rfl]
  have t1 : (wrote d (4 * a) (rootText ⟨false, e, g⟩)).there = d.there := rfl
  generalize wrote d (4 * a) (rootText ⟨false, e, g⟩) = D1 at *
  have e2 := flush_done l1
  have v2 : (Dk.settle D1.aside D1.there).getD (4 * a) [] = rootText ⟨false, e, g⟩ := by rw [flush_getD w1, v1]
  have t2 : (Dk.settle D1.aside D1.there).length = d.there.length := by rw [settle_length, t1]
  generalize Dk.settle D1.aside D1.there = T2 at *
  have e3 : pgSetRoot ⟨T2, [], -1⟩ a ⟨true, e, g⟩ = (0, wrote ⟨T2, [], -1⟩ (4 * a) (rootText ⟨true, e, g⟩)) := by
    rw [set_on _ (by unfold hasRoot hasPage pages at ha ⊢; rw [t2]; exact ha) (by simp), m2]; rfl
  obtain ⟨D4, e4, a4, l4, t4, v4⟩ := crash_one ⟨T2, [], -1⟩ (4 * a) (rootText ⟨true, e, g⟩) rfl (by rw [t2]; exact hna) keep torn cut hc
  refine ⟨D1, _, _, D4, e1, e2, e3, rfl, e4, ?_⟩
  dsimp only at v4 t4
  rw [root_on D4 (by unfold hasRoot hasPage pages at ha ⊢; rw [t4, t2]; exact ha), now_flat a4, v4, if_pos rfl, v2, torn_marked, rootOf_rootText (m2 _)]
end Go.Proofs.Ytckopikeegegkaa
