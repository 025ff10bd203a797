/- A region that draws its order, walked in ONE order: what only reads (the same in every world that meets S) may be taken when it is ready; what does more must be the one that is ready. -/
import Derived.Test.YtckopikeegegkaaLaws2
import Derived.OrdersHeld
namespace Go.Proofs.Ytckopikeegegkaa
open Go.RowKit
section
variable {P : Program} {ops : Array Oper} {Q : Exit → Act → World → Prop} {S : World → Prop}

/-- The walk in the order ord: (i, true): operation i only reads; (i, false): it is the only one that is ready. -/
def wpText (P : Program) (ops : Array Oper) (Q : Exit → Act → World → Prop) (S : World → Prop) : List (Nat × Bool) → Act → World → Prop
  | [], a, w => Q .normal a w
  | (i, true) :: r, a, w => ∃ o v, ops[i]? = some o ∧ YieldsIf P ops S o v a ∧ wpText P ops Q S r (a.put o.dst v) w
  | (i, false) :: r, a, w => wpOp P ops Q i (fun a' w' => S w' ∧ wpText P ops Q S r a' w') a w
def textB (ops : Array Oper) : List (Nat × Bool) → Array Bool → Bool
  | [], listed => (Region.ready .any ops listed).isEmpty
  | (i, true) :: r, listed => (Region.ready .any ops listed).contains i && Region.free .any ops listed i && textB ops r (listed.setIfInBounds i true)
  | (i, false) :: r, listed => decide (Region.ready .any ops listed = [i]) && textB ops r (listed.setIfInBounds i true)

theorem wpText_any (hs : Region.noSelect ops = true) (hQ : ∀ d v c a w, Q (.panic c) (Act.put a d v) w → Q (.panic c) a w) :
    ∀ (l : List (Nat × Bool)) (listed : Array Bool) (a : Act) (w : World), textB ops l listed = true → S w → wpText P ops Q S l a w → wpAnyH P .any ops Q S l.length listed a w
  | [], _, _, _, hB, _, h => ⟨by simpa [textB] using hB, h⟩
  | (i, true) :: r, listed, a, w, hB, hS, h => by
    obtain ⟨o, v, hi, hy, h⟩ := h
    simp only [textB, Bool.and_eq_true] at hB
    obtain ⟨⟨hr, hf⟩, hB⟩ := hB
    exact wpAnyH_take hi hs hf hr (fun c a w => hQ o.dst v c a w) hy hS (wpText_any hs hQ r _ _ _ hB hS h)
  | (i, false) :: r, listed, a, w, hB, hS, h => by
    simp only [textB, Bool.and_eq_true, decide_eq_true_eq] at hB
    obtain ⟨hr, hB⟩ := hB
    refine wpAnyH_all hr (by simp) (fun j hj => ?_)
    have : j = i := by simpa using hj
    subst this
    exact wpOp_mono (fun a' w' h' => ⟨h'.1, wpText_any hs hQ r _ _ _ hB h'.1 h'.2⟩) h

theorem wp_region_text {id : Nat} {a : Act} {w : World} (ord : List (Nat × Bool)) (S : World → Prop) (hm : P.follows .mixedOrders = true)
    (hB : (Region.noSelect ops && decide (ord.length = ops.size) && textB ops ord (Array.replicate ops.size false)) = true)
    (hQ : ∀ d v c a w, Q (.panic c) (Act.put a d v) w → Q (.panic c) a w) (hS : S w.drew)
    (h : wpText P ops Q S ord a w.drew) : (Code.region id ops true).wp P Q a w := by
  simp only [Bool.and_eq_true, decide_eq_true_eq] at hB
  obtain ⟨⟨h1, h2⟩, h3⟩ := hB
  refine wp_region_held (S := S) hm ?_
  rw [← h2]
  exact wpText_any h1 hQ ord _ a _ (by rw [h2]; exact h3) hS h

theorem wpText_done {a : Act} {w : World} (h : Q .normal a w) : wpText P ops Q S [] a w := h
theorem wpText_take {i : Nat} {r : List (Nat × Bool)} {o : Oper} {v : Value} {a : Act} {w : World} (hi : ops.toList[i]? = some o) (hg : o.guard = none)
    (hv : ∀ w, S w → (execOp a.eval o).run P w = .ok (.value v) w) (h : wpText P ops Q S r (a.put o.dst v) w) : wpText P ops Q S ((i, true) :: r) a w :=
  ⟨o, v, by simpa using hi, .inl ⟨by simp [Region.wanted, hg], hv⟩, h⟩
theorem wpText_skip {i : Nat} {r : List (Nat × Bool)} {o : Oper} {a : Act} {w : World} (hi : ops.toList[i]? = some o) (hg : Region.wanted o (yielded ops a.tmps) = false)
    (h : wpText P ops Q S r (a.put o.dst undef) w) : wpText P ops Q S ((i, true) :: r) a w :=
  ⟨o, undef, by simpa using hi, .inr ⟨hg, rfl⟩, h⟩
theorem wpText_takeG {i : Nat} {r : List (Nat × Bool)} {o : Oper} {v : Value} {a : Act} {w : World} (hi : ops.toList[i]? = some o) (hg : Region.wanted o (yielded ops a.tmps) = true)
    (hv : ∀ w, S w → (execOp a.eval o).run P w = .ok (.value v) w) (h : wpText P ops Q S r (a.put o.dst v) w) : wpText P ops Q S ((i, true) :: r) a w :=
  ⟨o, v, by simpa using hi, .inl ⟨hg, hv⟩, h⟩
theorem wpText_go {i : Nat} {r : List (Nat × Bool)} {o : Oper} {a : Act} {w : World} (hi : ops.toList[i]? = some o) (hg : o.guard = none)
    (h : ∀ K : Act → World → Prop, (∀ a w, S w → wpText P ops Q S r a w → K a w) → o.wp P a w K Q) : wpText P ops Q S ((i, false) :: r) a w := by
  have hi' : ops[i]? = some o := by simpa using hi
  unfold wpText wpOp
  simp only [hi', Region.wanted, hg, if_true]
  exact .inl (h _ (fun a w h1 h2 => ⟨h1, h2⟩))
theorem wpText_goG {i : Nat} {r : List (Nat × Bool)} {o : Oper} {a : Act} {w : World} (hi : ops.toList[i]? = some o) (hg : Region.wanted o (yielded ops a.tmps) = true)
    (h : ∀ K : Act → World → Prop, (∀ a w, S w → wpText P ops Q S r a w → K a w) → o.wp P a w K Q) : wpText P ops Q S ((i, false) :: r) a w := by
  have hi' : ops[i]? = some o := by simpa using hi
  unfold wpText wpOp
  simp only [hi', hg, if_true]
  exact .inl (h _ (fun a w h1 h2 => ⟨h1, h2⟩))
theorem wpText_skipF {i : Nat} {r : List (Nat × Bool)} {o : Oper} {a : Act} {w : World} (hi : ops.toList[i]? = some o) (hg : Region.wanted o (yielded ops a.tmps) = false)
    (hS : S w) (h : wpText P ops Q S r (a.put o.dst undef) w) : wpText P ops Q S ((i, false) :: r) a w := by
  have hi' : ops[i]? = some o := by simpa using hi
  unfold wpText wpOp
  simp only [hi', hg]
  exact ⟨hS, h⟩

theorem upon_then {o : Oper} {a : Act} {K K' : Act → World → Prop} {r : Result Next} (h : o.upon P a K' (Exit.then K Q) r) (hk : ∀ a w, K' a w → K a w) : o.upon P a K Q r := by
  cases r with
  | ok n w' =>
    cases n <;> simp only [Oper.upon] at h ⊢ <;> try exact h
    case value u => exact hk _ _ h
    case skip => exact hk _ _ h
    case defer d => exact hk _ _ h
    case enter f args =>
      refine Calls.mono h fun e w'' he => ?_
      cases e with
      | returned u => exact hk _ _ he
      | panicked c => exact he
      | outgrown => obtain ⟨a, w, q⟩ := he; exact ⟨a, w, q⟩
    case row row args => exact Rows.mono h fun u w'' he => hk _ _ he
  | halt x w' =>
    cases x <;> simp only [Oper.upon] at h ⊢ <;> exact h
theorem wpText_goL {i : Nat} {r : List (Nat × Bool)} {o : Oper} {a : Act} {w : World} (hi : ops.toList[i]? = some o)
    (h : ∀ K : Act → World → Prop, (∀ a w, S w → wpText P ops Q S r a w → K a w) → wpList P ops (Exit.then K Q) [o] a w) : wpText P ops Q S ((i, false) :: r) a w := by
  have hi' : ops[i]? = some o := by simpa using hi
  have h' := h _ (fun a w h1 h2 => (⟨h1, h2⟩ : S w ∧ wpText P ops Q S r a w))
  unfold wpText wpOp
  simp only [hi']
  unfold wpList at h'
  split
  · rename_i hw
    rw [if_pos hw] at h'
    rcases h' with h' | ⟨h1, a2, w2, h2⟩
    · exact .inl (upon_then h' (fun a w q => q))
    · exact .inr ⟨h1, a2, w2, h2⟩
  · rename_i hw
    rw [if_neg hw] at h'
    exact h'
theorem wpl_end {K : Act → World → Prop} {a : Act} {w : World} (h : K a w) : wpList P ops (Exit.then K Q) [] a w := h
end
end Go.Proofs.Ytckopikeegegkaa
