/- PURE 6: plain laws of the disk: what is read behind a step, a crash, a flush; the fuse. -/
import Derived.Test.YtckopikeegegkaaPure5
namespace Go.Proofs.Ytckopikeegegkaa
/-- A step of the disk's laws. -/
structure Stp where
  kind : Int
  n : Int
  s : Str
  keep : List Bool
  cut : Int
def whole (s : Str) (c : Int) : Str := if c.tmod 4 = 3 then s else if 64 < s.length then s.take 64 else s ++ List.replicate (64 - s.length) 0
def doStep (x : Stp) (d : Dk) : Int × Dk :=
  if x.kind = 0 then d.write x.n (whole x.s x.cut) else if x.kind = 1 then d.flush else if x.kind = 2 then d.fuse x.n else d.crash x.keep x.n x.cut

theorem write_len (d : Dk) (n : Int) (s : Str) : (d.write n s).2.there = d.there := by
  unfold Dk.write; split; rfl; split; rfl; split <;> rfl
theorem flush_len (d : Dk) : d.flush.2.there.length = d.there.length := by
  unfold Dk.flush; split; rfl; exact settle_length _ _
theorem fuse_len (d : Dk) (n : Int) : (d.fuse n).2.there = d.there := by
  unfold Dk.fuse; split; rfl; split <;> rfl
theorem crash_len (d : Dk) (keep : List Bool) (torn cut : Int) : (d.crash keep torn cut).2.there.length = d.there.length := by
  unfold Dk.crash; split; rfl; exact fall_length _ _ _ _ _ _
theorem doStep_len (x : Stp) (d : Dk) : (doStep x d).2.there.length = d.there.length := by
  unfold doStep; split; rw [write_len]; split; exact flush_len _; split; rw [fuse_len]; exact crash_len _ _ _ _
theorem has_len {d d' : Dk} (h : d'.there.length = d.there.length) (n : Int) : d'.has n = d.has n := by unfold Dk.has; rw [h]
theorem read_same {d d' : Dk} (h : d'.there.length = d.there.length) (n : Int) (hn : ∀ k : Nat, n = k → d'.now k = d.now k) : d'.read n = d.read n := by
  unfold Dk.read
  rw [has_len h]
  by_cases hh : d.has n = true
  · rw [if_pos hh, if_pos hh]
    have h0 : 0 ≤ n := by unfold Dk.has at hh; simp at hh; exact hh.1
    rw [hn n.toNat (by omega)]
  · rw [if_neg hh, if_neg hh]
theorem flush_now {d : Dk} (hw : d.Wf) (k : Nat) : d.flush.2.now k = d.now k := by
  unfold Dk.flush
  split
  · rfl
  · rw [now_flat rfl]; exact flush_getD hw k
theorem fuse_now (d : Dk) (n : Int) (k : Nat) : (d.fuse n).2.now k = d.now k := by
  unfold Dk.fuse; split; rfl; split <;> rfl
theorem write_cases (d : Dk) (n : Int) (s : Str) : (d.write n s).1 ≠ 0 ∧ (d.write n s).2 = d ∨ ∃ k : Nat, n = k ∧ k < d.there.length ∧ s.length = 64 ∧ d.left ≠ 0 ∧ d.write n s = (0, wrote d k s) := by
  by_cases hh : d.has n = true
  · have h0 : 0 ≤ n ∧ n < d.there.length := by unfold Dk.has at hh; simpa using hh
    by_cases hs : s.length = 64
    · by_cases hl : d.left = 0
      · left; unfold Dk.write; rw [if_neg (by simp [hh]), if_neg (by simpa using hs), if_pos hl]; exact ⟨by simp, rfl⟩
      · right
        refine ⟨n.toNat, by omega, by omega, hs, hl, ?_⟩
        have := write_done (d := d) (n := n.toNat) (s := s) (by omega) hs hl
        rwa [show ((n.toNat : Nat) : Int) = n by omega] at this
    · left; unfold Dk.write; rw [if_neg (by simp [hh]), if_pos (by simpa using hs)]; exact ⟨by simp, rfl⟩
  · left; unfold Dk.write; rw [if_pos (by simpa using hh)]; exact ⟨by simp, rfl⟩
/-- What is read behind a step that is no crash. -/
theorem doStep_read (x : Stp) (d : Dk) (hw : d.Wf) (n : Int) (hk : x.kind = 0 ∨ x.kind = 1 ∨ x.kind = 2) :
    (doStep x d).2.read n = if x.kind = 0 ∧ x.n = n ∧ (doStep x d).1 = 0 then (whole x.s x.cut, 0) else d.read n := by
  rcases hk with h | h | h
  · have e : doStep x d = d.write x.n (whole x.s x.cut) := by unfold doStep; rw [if_pos h]
    rw [e]
    rcases write_cases d x.n (whole x.s x.cut) with ⟨h1, h2⟩ | ⟨k, hk, hl, hs, _, h2⟩
    · rw [if_neg (fun q => h1 q.2.2), h2]
    · rw [h2]
      by_cases hn : x.n = n
      · rw [if_pos ⟨h, hn, rfl⟩]
        have : (wrote d k (whole x.s x.cut)).has n = true := by unfold Dk.has; rw [wrote_there]; simp only [Bool.and_eq_true, decide_eq_true_eq]; omega
        unfold Dk.read
        rw [if_pos this, now_wrote, if_pos (by omega)]
      · rw [if_neg (fun q => hn q.2.1)]
        refine read_same (d := d) (d' := wrote d k (whole x.s x.cut)) rfl n (fun j hj => ?_)
        rw [now_wrote, if_neg (by omega)]
  · have e : doStep x d = d.flush := by unfold doStep; rw [if_neg (by omega), if_pos h]
    rw [e, if_neg (by omega)]
    exact read_same (flush_len d) n (fun j _ => flush_now hw j)
  · have e : doStep x d = d.fuse x.n := by unfold doStep; rw [if_neg (by omega), if_neg (by omega), if_pos h]
    rw [e, if_neg (by omega)]
    exact read_same (by rw [fuse_len]) n (fun j _ => fuse_now d x.n j)

/-! A crash. -/
theorem fall_none (keep : List Bool) (torn : Int) (cut : Nat) (n : Nat) : ∀ (A : List (Nat × Str)) (j : Nat) (t : List Str), (∀ p ∈ A, p.1 < t.length) → (∀ p ∈ A, p.1 ≠ n) → (Dk.fall keep torn cut j A t).getD n [] = t.getD n []
  | [], _, _, _, _ => rfl
  | p :: A, j, t, hl, hn => by
    have h1 := hl p List.mem_cons_self
    have h2 := hn p List.mem_cons_self
    have hs : ∀ s, (t.set p.1 s).getD n [] = t.getD n [] := fun s => by rw [getD_set_str _ _ _ _ h1, if_neg h2]
    simp only [Dk.fall]
    rw [fall_none keep torn cut n A]
    · split
      · exact hs _
      · split
        · exact hs _
        · rfl
    · intro q hq
      have := hl q (List.mem_cons_of_mem _ hq)
      split
      · simpa using this
      · split <;> simpa using this
    · exact fun q hq => hn q (List.mem_cons_of_mem _ hq)
theorem fall_some (keep : List Bool) (torn : Int) (cut : Nat) (n : Nat) (s : Str) : ∀ (A : List (Nat × Str)) (j i : Nat) (t : List Str), A.Pairwise (fun p q => p.1 < q.1) → (∀ p ∈ A, p.1 < t.length) → A[i]? = some (n, s) →
    (Dk.fall keep torn cut j A t).getD n [] = if ((j + i : Nat) : Int) = torn then s.take cut ++ (t.getD n []).drop cut else if keep.getD (j + i) false then s else t.getD n []
  | p :: A, j, 0, t, hr, hl, hi => by
    have hp : p = (n, s) := by simpa using hi
    subst hp
    have h1 : n < t.length := hl (n, s) List.mem_cons_self
    have h2 : ∀ q ∈ A, q.1 ≠ n := fun q hq => by have : n < q.1 := (List.pairwise_cons.1 hr).1 q hq; omega
    simp only [Dk.fall, Nat.add_zero]
    rw [fall_none]
    · split
      · rw [getD_set_str _ _ _ _ h1, if_pos rfl]
      · split
        · rw [getD_set_str _ _ _ _ h1, if_pos rfl]
        · rfl
    · intro q hq
      have := hl q (List.mem_cons_of_mem _ hq)
      split
      · simpa using this
      · split <;> simpa using this
    · exact h2
  | p :: A, j, i + 1, t, hr, hl, hi => by
    have hi' : A[i]? = some (n, s) := by simpa using hi
    have hm : (n, s) ∈ A := List.mem_of_getElem? hi'
    have h1 := hl p List.mem_cons_self
    have h2 : p.1 ≠ n := by have : p.1 < n := (List.pairwise_cons.1 hr).1 (n, s) hm; omega
    have hs : ∀ s, (t.set p.1 s).getD n [] = t.getD n [] := fun s => by rw [getD_set_str _ _ _ _ h1, if_neg h2]
    simp only [Dk.fall]
    rw [fall_some keep torn cut n s A (j + 1) i _ (List.pairwise_cons.1 hr).2 _ hi', show j + 1 + i = j + (i + 1) by omega]
    · have : ∀ c : Prop, ∀ _ : Decidable c, ∀ x : List Str, x.getD n [] = t.getD n [] → (if c then x else if keep.getD j false = true then t.set p.1 p.2 else t).getD n [] = t.getD n [] := by
        intro c _ x hx
        split
        · exact hx
        · split
          · exact hs _
          · rfl
      rw [this _ _ _ (hs _)]
    · intro q hq
      have := hl q (List.mem_cons_of_mem _ hq)
      split
      · simpa using this
      · split <;> simpa using this
theorem crash_now (d : Dk) (keep : List Bool) (torn : Int) (cut : Nat) (hc : cut ≤ 64) (n : Nat) : (d.crash keep torn cut).2.now n = (Dk.fall keep torn cut 0 d.aside d.there).getD n [] := by
  unfold Dk.crash
  rw [if_neg (by omega), now_flat rfl]
  rfl
theorem crash_good_eq (d : Dk) (keep : List Bool) (torn : Int) (cut : Nat) (hc : cut ≤ 64) : d.crash keep torn cut = (0, ⟨Dk.fall keep torn cut 0 d.aside d.there, [], -1⟩) := by
  unfold Dk.crash
  rw [if_neg (by omega)]
  rfl
/-- The fuse: a step that is done burns it; one that is not leaves all. -/
theorem doStep_fuse (x : Stp) (d : Dk) (hk : x.kind = 0 ∨ x.kind = 1) (hl : 0 ≤ d.left) :
    (doStep x d).1 = 0 ∧ 0 < d.left ∧ (doStep x d).2.left = d.left - 1 ∨ (doStep x d).1 ≠ 0 ∧ (doStep x d).2 = d := by
  rcases hk with h | h
  · have e : doStep x d = d.write x.n (whole x.s x.cut) := by unfold doStep; rw [if_pos h]
    rw [e]
    rcases write_cases d x.n (whole x.s x.cut) with ⟨h1, h2⟩ | ⟨k, hk, hl2, hs, h0, h2⟩
    · exact .inr ⟨h1, h2⟩
    · left; rw [h2]
      refine ⟨rfl, by omega, ?_⟩
      rw [wrote_left]; unfold Dk.burnt; rw [if_pos (by omega)]
  · have e : doStep x d = d.flush := by unfold doStep; rw [if_neg (by omega), if_pos h]
    rw [e]; unfold Dk.flush
    split
    · right; exact ⟨by simp, rfl⟩
    · left
      refine ⟨rfl, by omega, ?_⟩
      show Dk.burnt d.left = _
      unfold Dk.burnt; rw [if_pos (by omega)]
end Go.Proofs.Ytckopikeegegkaa
