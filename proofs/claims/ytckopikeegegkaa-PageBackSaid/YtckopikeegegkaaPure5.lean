/- PURE 5: the plain law of PageTorn. -/
import Derived.Test.YtckopikeegegkaaPure4
namespace Go.Proofs.Ytckopikeegegkaa
theorem flush_getD {d : Dk} (h : d.Wf) (k : Nat) : (Dk.settle d.aside d.there).getD k [] = d.now k := settle_getD d.aside d.there h.rises (fun p hp => (h.aside p hp).1) k
theorem wrote_wf {d : Dk} (h : d.Wf) {n : Nat} {s : Str} (hn : n < d.there.length) (hs : s.length = 64) : (wrote d n s).Wf := write_wf h hn hs
theorem torn_all (d : Dk) (a b : Nat) (hab : a ≠ b) (ha : hasRoot d a = true) (hb : hasRoot d b = true) (hl : d.left = -1) (hw : d.Wf) (old other next : Mk) (m1 : mayRoot old = true) (m2 : mayRoot other = true) (m3 : mayRoot next = true) (hn : next.on = false)
    (keep : List Bool) (torn : Int) (cut : Nat) (hc : cut ≤ 64) :
    ∃ D1 D2 D3 D4 D5 x, pgSetRoot d a old = (0, D1) ∧ pgSetRoot D1 b other = (0, D2) ∧ D2.flush = (0, D3) ∧ pgSetRoot D3 a next = (0, D4) ∧ D4.crash keep torn cut = (0, D5) ∧ pgRoot D5 a = (x, 0) ∧ pgRoot D5 b = (other, 0) ∧ (x = old ∨ x.on = false) := by
  have hna : 4 * a < d.there.length := by
    simp only [hasRoot, hasPage, Bool.and_eq_true, decide_eq_true_eq] at ha
    unfold pages at ha; omega
  have hnb : 4 * b < d.there.length := by
    simp only [hasRoot, hasPage, Bool.and_eq_true, decide_eq_true_eq] at hb
    unfold pages at hb; omega
  have n1 : 4 * a ≠ 4 * b := by omega
  have e1 : pgSetRoot d a old = (0, wrote d (4 * a) (rootText old)) := by rw [set_on d ha (by omega), m1]; rfl
  have e2 : pgSetRoot (wrote d (4 * a) (rootText old)) b other = (0, wrote (wrote d (4 * a) (rootText old)) (4 * b) (rootText other)) := by rw [set_on _ (hasRoot_w _ _ _ hb) (by rw [wrote_left, hl]; decide), m2]; rfl
  have w2 : (wrote (wrote d (4 * a) (rootText old)) (4 * b) (rootText other)).Wf := wrote_wf (wrote_wf hw hna (rootText_length _)) hnb (rootText_length _)
  have l2 : (wrote (wrote d (4 * a) (rootText old)) (4 * b) (rootText other)).left = -1 := by rw [wrote_left, wrote_left, hl]; rfl
  have v2 : ∀ k, (wrote (wrote d (4 * a) (rootText old)) (4 * b) (rootText other)).now k = if 4 * b = k then rootText other else if 4 * a = k then rootText old else d.now k := fun k => by rw [now_wrote, now_wrote]
  have t2 : (wrote (wrote d (4 * a) (rootText old)) (4 * b) (rootText other)).there = d.there := rfl
  generalize wrote (wrote d (4 * a) (rootText old)) (4 * b) (rootText other) = D2 at *
  have e3 := flush_done l2
  have v3 : ∀ k, (Dk.settle D2.aside D2.there).getD k [] = D2.now k := flush_getD w2
  have t3 : (Dk.settle D2.aside D2.there).length = d.there.length := by rw [settle_length, t2]
  generalize Dk.settle D2.aside D2.there = T3 at *
  have e4 : pgSetRoot ⟨T3, [], -1⟩ a next = (0, wrote ⟨T3, [], -1⟩ (4 * a) (rootText next)) := by
    rw [set_on _ (by unfold hasRoot hasPage pages at ha ⊢; rw [t3]; exact ha) (by simp), m3]; rfl
  obtain ⟨D5, e5, a5, l5, t5, v5⟩ := crash_one ⟨T3, [], -1⟩ (4 * a) (rootText next) rfl (by rw [t3]; exact hna) keep torn cut hc
  dsimp only at t5 v5
  have r : ∀ c : Nat, hasRoot d c = true → hasRoot D5 c = true := fun c hc => by unfold hasRoot hasPage pages at hc ⊢; rw [t5, t3]; exact hc
  refine ⟨_, D2, _, _, D5, _, e1, e2, e3, e4, e5, root_on D5 (r a ha), ?_, ?_⟩
  · rw [root_on D5 (r b hb), now_flat a5, v5, if_neg (Ne.symm n1), v3, v2, if_pos rfl, rootOf_rootText m2]
  · have := torn_root keep torn cut next hn (T3.getD (4 * a) [])
    rw [now_flat a5, v5, if_pos rfl]
    rcases this with h | h
    · left; rw [h, v3, v2, if_neg (Ne.symm n1), if_pos rfl, rootOf_rootText m1]
    · right; exact h
end Go.Proofs.Ytckopikeegegkaa
