/- PURE 4: a root set ahead of a crash. -/
import Derived.Test.YtckopikeegegkaaPure3
import Derived.Test.YtckopikeegegkaaLaws5
namespace Go.Proofs.Ytckopikeegegkaa
/-- What lies at a sector behind a crash with one sector kept aside. -/
def tornOne (keep : List Bool) (torn : Int) (cut : Nat) (new old : Str) : Str := if (0 : Int) = torn then new.take cut ++ old.drop cut else if keep.getD 0 false then new else old
theorem crash_one (d : Dk) (n : Nat) (s : Str) (ha : d.aside = []) (hn : n < d.there.length) (keep : List Bool) (torn : Int) (cut : Nat) (hc : cut ≤ 64) :
    ∃ D', (wrote d n s).crash keep torn cut = (0, D') ∧ D'.aside = [] ∧ D'.left = -1 ∧ D'.there.length = d.there.length ∧
      (∀ k, D'.there.getD k [] = if k = n then tornOne keep torn cut s (d.there.getD n []) else d.there.getD k []) := by
  have e : (wrote d n s).aside = [(n, s)] := by simp [wrote, ha, Dk.put]
  refine ⟨⟨Dk.fall keep torn cut 0 [(n, s)] d.there, [], -1⟩, ?_, rfl, rfl, fall_length _ _ _ _ _ _, fun k => ?_⟩
  · unfold Dk.crash
    rw [if_neg (by omega), e]; rfl
  · simp only [Dk.fall, tornOne]
    by_cases h0 : ((0 : Nat) : Int) = torn
    · have h0' : (0 : Int) = torn := h0
      rw [if_pos h0, getD_set_str _ _ _ _ hn]
      by_cases hk : n = k
      · subst hk; rw [if_pos rfl, if_pos rfl, if_pos h0']
      · rw [if_neg hk, if_neg (Ne.symm hk)]
    · have h0' : ¬ (0 : Int) = torn := h0
      rw [if_neg h0]
      by_cases hb : keep.getD 0 false = true
      · rw [if_pos hb, getD_set_str _ _ _ _ hn]
        by_cases hk : n = k
        · subst hk; rw [if_pos rfl, if_pos rfl, if_neg h0', if_pos hb]
        · rw [if_neg hk, if_neg (Ne.symm hk)]
      · rw [if_neg hb]
        by_cases hk : n = k
        · subst hk; rw [if_pos rfl, if_neg h0', if_neg hb]
        · rw [if_neg (Ne.symm hk)]
theorem rootOf_on (s : Str) : (rootOf s).on = (s.getD 0 0 == 1) := rfl
theorem rootText_head (m : Mk) : (rootText m).getD 0 0 = if m.on then 1 else 0 := rfl
/-- A root that does not count, torn or whole, over another one: that one, or one that does not count. -/
theorem torn_root (keep : List Bool) (torn : Int) (cut : Nat) (m : Mk) (hm : m.on = false) (old : Str) :
    rootOf (tornOne keep torn cut (rootText m) old) = rootOf old ∨ (rootOf (tornOne keep torn cut (rootText m) old)).on = false := by
  have h0 : (rootOf (rootText m)).on = false := by rw [rootOf_on, rootText_head, hm]; rfl
  unfold tornOne
  by_cases h1 : (0 : Int) = torn
  · rw [if_pos h1]
    cases cut with
    | zero => left; rfl
    | succ c =>
      right
      rw [rootOf_on]
      have : ((rootText m).take (c + 1) ++ old.drop (c + 1)).getD 0 0 = (rootText m).getD 0 0 := rfl
      rw [this, rootText_head, hm]; rfl
  · rw [if_neg h1]
    by_cases hb : keep.getD 0 false = true
    · rw [if_pos hb]; right; exact h0
    · rw [if_neg hb]; left; rfl
theorem flush_done {d : Dk} (h : d.left = -1) : d.flush = (0, ⟨Dk.settle d.aside d.there, [], -1⟩) := by
  unfold Dk.flush
  rw [if_neg (by omega), h]; rfl
theorem now_flat {d : Dk} (h : d.aside = []) (n : Nat) : d.now n = d.there.getD n [] := by unfold Dk.now; rw [h]; rfl
end Go.Proofs.Ytckopikeegegkaa
