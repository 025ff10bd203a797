/- PURE 3: what a flush leaves there, in whatever order it is done. -/
import Derived.Test.YtckopikeegegkaaPure2
namespace Go.Proofs.Ytckopikeegegkaa
def settleBy (A : List (Nat × Str)) (done : List Nat) (t : List Str) : List Str := done.foldl (fun t n => t.set n ((Dk.look n A).getD [])) t
theorem settleBy_snoc (A : List (Nat × Str)) (done : List Nat) (n : Nat) (t : List Str) : settleBy A (done ++ [n]) t = (settleBy A done t).set n ((Dk.look n A).getD []) := by unfold settleBy; rw [List.foldl_append]; rfl
theorem settleBy_length (A : List (Nat × Str)) : ∀ (done : List Nat) (t : List Str), (settleBy A done t).length = t.length
  | [], t => rfl
  | n :: l, t => by
    have := settleBy_length A l (t.set n ((Dk.look n A).getD []))
    rw [List.length_set] at this
    exact this
theorem getD_set_str (t : List Str) (n i : Nat) (s : Str) (hn : n < t.length) : (t.set n s).getD i [] = if n = i then s else t.getD i [] := by
  simp only [List.getD_eq_getElem?_getD, List.getElem?_set]
  split
  · rfl
  · rfl
theorem settleBy_getD (A : List (Nat × Str)) : ∀ (done : List Nat) (t : List Str), (∀ n ∈ done, n < t.length) → ∀ i, (settleBy A done t).getD i [] = if i ∈ done then (Dk.look i A).getD [] else t.getD i []
  | [], t, _, i => by simp [settleBy]
  | n :: l, t, h, i => by
    have := settleBy_getD A l (t.set n ((Dk.look n A).getD [])) (fun k hk => by rw [List.length_set]; exact h k (List.mem_cons_of_mem _ hk)) i
    show (settleBy A l (t.set n ((Dk.look n A).getD []))).getD i [] = _
    rw [this, getD_set_str t n i _ (h n List.mem_cons_self)]
    by_cases hi : i ∈ l
    · rw [if_pos hi, if_pos (List.mem_cons_of_mem _ hi)]
    · rw [if_neg hi]
      by_cases e : n = i
      · subst e; rw [if_pos rfl, if_pos List.mem_cons_self]
      · rw [if_neg e, if_neg (by intro q; rcases List.mem_cons.1 q with q | q; exact e q.symm; exact hi q)]
theorem settle_length : ∀ (A : List (Nat × Str)) (t : List Str), (Dk.settle A t).length = t.length
  | [], t => rfl
  | p :: l, t => by rw [Dk.settle, settle_length l, List.length_set]
theorem look_of_lt {n : Nat} : ∀ {A : List (Nat × Str)}, (∀ p ∈ A, n < p.1) → Dk.look n A = none
  | [], _ => rfl
  | p :: l, h => by
    unfold Dk.look
    rw [if_neg (by have := h p List.mem_cons_self; omega)]
    exact look_of_lt (fun q hq => h q (List.mem_cons_of_mem _ hq))
theorem settle_getD : ∀ (A : List (Nat × Str)) (t : List Str), A.Pairwise (fun p q => p.1 < q.1) → (∀ p ∈ A, p.1 < t.length) → ∀ i, (Dk.settle A t).getD i [] = (Dk.look i A).getD (t.getD i [])
  | [], t, _, _, i => rfl
  | p :: l, t, hr, h, i => by
    obtain ⟨h1, h2⟩ := List.pairwise_cons.1 hr
    rw [Dk.settle, settle_getD l _ h2 (fun q hq => by rw [List.length_set]; exact h q (List.mem_cons_of_mem _ hq)) i, getD_set_str t p.1 i p.2 (h p List.mem_cons_self)]
    rw [show Dk.look i (p :: l) = if p.1 = i then some p.2 else Dk.look i l from rfl]
    by_cases e : p.1 = i
    · rw [if_pos e, if_pos e]
      have : Dk.look i l = none := look_of_lt (fun q hq => by have := h1 q hq; omega)
      rw [this]; rfl
    · rw [if_neg e, if_neg e]
theorem mem_keys_look {n : Nat} : ∀ {A : List (Nat × Str)}, n ∈ A.map (·.1) → ∃ s, Dk.look n A = some s
  | p :: l, h => by
    unfold Dk.look
    split
    · exact ⟨_, rfl⟩
    · rename_i e
      rcases List.mem_cons.1 h with q | q
      · exact absurd q.symm e
      · exact mem_keys_look q
theorem settleBy_all {A : List (Nat × Str)} (hr : A.Pairwise (fun p q => p.1 < q.1)) {t : List Str} (ht : ∀ p ∈ A, p.1 < t.length) {done : List Nat} (h1 : ∀ n ∈ done, n ∈ A.map (·.1)) (h2 : ∀ n, n ∈ A.map (·.1) → n ∈ done) : settleBy A done t = Dk.settle A t := by
  apply List.ext_getElem
  · rw [settleBy_length, settle_length]
  · intro i hi1 hi2
    have e1 := settleBy_getD A done t (fun n hn => by
      obtain ⟨p, hp, rfl⟩ := List.mem_map.1 (h1 n hn)
      exact ht p hp) i
    have e2 := settle_getD A t hr ht i
    rw [List.getD_eq_getElem?_getD, List.getElem?_eq_getElem hi1] at e1
    rw [List.getD_eq_getElem?_getD, List.getElem?_eq_getElem hi2] at e2
    simp only [Option.getD_some] at e1 e2
    rw [e1, e2]
    by_cases q : i ∈ done
    · rw [if_pos q]
      obtain ⟨s, hs⟩ := mem_keys_look (h1 i q)
      rw [hs]; rfl
    · rw [if_neg q]
      cases hl : Dk.look i A with
      | none => rfl
      | some s => exact absurd (h2 i (List.mem_map.2 ⟨_, look_some hl, rfl⟩)) q
end Go.Proofs.Ytckopikeegegkaa
