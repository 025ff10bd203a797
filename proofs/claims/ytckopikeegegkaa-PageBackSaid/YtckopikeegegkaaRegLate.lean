/- A region that draws its order, walked in ONE order, where some operations come LATE: they wait for every read that is taken ahead; behind them the reads' condition is not asked any more ('a, b = f(a), g(b)'). -/
import Derived.Test.YtckopikeegegkaaRegIn
import Derived.Test.YtckopikeegegkaaLaws4
namespace Go.Proofs.Ytckopikeegegkaa
open Go.RowKit
section
variable {P : Program} {ops : Array Oper} {Q : Exit → Act → World → Prop} {md : Region.Mode} {S : World → Prop} {late : List Nat}

def wpAnyL (P : Program) (md : Region.Mode) (ops : Array Oper) (Q : Exit → Act → World → Prop) (S : World → Prop) (late : List Nat) : Nat → Array Bool → Act → World → Prop
  | 0, listed, a, w => Region.ready md ops listed = [] ∧ Q .normal a w
  | fuel + 1, listed, a, w => (Region.ready md ops listed = [] → Q .normal a w) ∧
    ∀ i ∈ Region.ready md ops listed, wpOp P ops Q i (fun a' w' => (late.contains i = false → S w') ∧ wpAnyL P md ops Q S late fuel (listed.setIfInBounds i true) a' w') a w
theorem wpAny_of_late : ∀ (fuel : Nat) (listed : Array Bool) (a : Act) (w : World), wpAnyL P md ops Q S late fuel listed a w → wpAny P md ops Q fuel listed a w
  | 0, _, _, _, h => h
  | fuel + 1, _, _, _, h => ⟨h.1, fun i hi => wpOp_mono (fun a' w' h' => wpAny_of_late fuel _ a' w' h'.2) (h.2 i hi)⟩
/-- Operation j waits for operation i, over at most f steps. -/
def waitsB (md : Region.Mode) (ops : Array Oper) (i : Nat) : Nat → Nat → Bool
  | 0, _ => false
  | f + 1, j => match ops[j]? with | none => false | some o => o.after.toList.any fun e => Region.binds md e && (e.on == i || waitsB md ops i f e.on)
/-- Every late operation waits for number i. -/
def lateB (md : Region.Mode) (ops : Array Oper) (late : List Nat) (i : Nat) : Bool := !late.contains i && late.all fun j => waitsB md ops i 6 j
/-- What is listed waits for nothing that is not. -/
def Shut (md : Region.Mode) (ops : Array Oper) (listed : Array Bool) : Prop := ∀ (k : Nat) (o : Oper), ops[k]? = some o → listed.getD k false = true → ∀ e ∈ o.after, Region.binds md e = true → listed.getD e.on false = true
theorem shut_set {listed : Array Bool} (h : Shut md ops listed) {j : Nat} (hj : j ∈ Region.ready md ops listed) : Shut md ops (listed.setIfInBounds j true) := by
  obtain ⟨hjun, oj, hoj, hall⟩ := mem_ready.1 hj
  have mono : ∀ k, listed.getD k false = true → (listed.setIfInBounds j true).getD k false = true := fun k hk => by
    by_cases e : j = k
    · subst e
      rcases Nat.lt_or_ge j listed.size with h' | h'
      · simp [h']
      · simp [Array.getElem?_eq_none h'] at hk
    · simpa [Array.getElem?_setIfInBounds_ne e] using hk
  intro k o ho hk e he hb
  by_cases ek : j = k
  · subst ek
    rw [hoj] at ho; cases ho
    exact mono _ (by simpa using hall e he hb)
  · have hk' : listed.getD k false = true := by simpa [Array.getElem?_setIfInBounds_ne ek] using hk
    exact mono _ (h k o ho hk' e he hb)
theorem waits_listed {listed : Array Bool} (h : Shut md ops listed) {i : Nat} : ∀ (f k : Nat), listed.getD k false = true → waitsB md ops i f k = true → listed.getD i false = true
  | 0, _, _, hw => by simp [waitsB] at hw
  | f + 1, k, hk, hw => by
    unfold waitsB at hw
    cases ho : ops[k]? with
    | none => rw [ho] at hw; cases hw
    | some o =>
      rw [ho] at hw
      simp only [List.any_eq_true, Bool.and_eq_true, Bool.or_eq_true, beq_iff_eq] at hw
      obtain ⟨e, he, hb, hw⟩ := hw
      have hl := h k o ho hk e (by simpa using he) hb
      rcases hw with rfl | hw
      · exact hl
      · exact waits_listed h f e.on hl hw
theorem waits_ready {listed : Array Bool} (h : Shut md ops listed) {i j : Nat} (hj : j ∈ Region.ready md ops listed) {f : Nat} (hw : waitsB md ops i f j = true) : listed.getD i false = true := by
  obtain ⟨hjun, oj, hoj, hall⟩ := mem_ready.1 hj
  cases f with
  | zero => simp [waitsB] at hw
  | succ f =>
    unfold waitsB at hw
    rw [hoj] at hw
    simp only [List.any_eq_true, Bool.and_eq_true, Bool.or_eq_true, beq_iff_eq] at hw
    obtain ⟨e, he, hb, hw⟩ := hw
    have hl : listed.getD e.on false = true := by simpa using hall e (by simpa using he) hb
    rcases hw with rfl | hw
    · exact hl
    · exact waits_listed h f e.on hl hw
theorem wpAnyL_first {i : Nat} {oi : Oper} {v : Value} (hi : ops[i]? = some oi) (hsel : ∀ (j : Nat) (o : Oper) cs b, ops[j]? = some o → o.op ≠ .select cs b)
    (hQ : ∀ c a w, Q (.panic c) (a.put oi.dst v) w → Q (.panic c) a w) (hL : lateB md ops late i = true) :
    ∀ (fuel : Nat) (listed : Array Bool) (a : Act) (w : World), Shut md ops listed →
      (∀ j oj, ops[j]? = some oj → j ≠ i → listed.getD j true = false → (∀ e ∈ oj.after, Region.binds md e = true → e.on ≠ i) → oi.apart ops oj = true) →
      i ∈ Region.ready md ops listed → YieldsIf P ops S oi v a → S w →
      wpAnyL P md ops Q S late fuel (listed.setIfInBounds i true) (a.put oi.dst v) w → wpAnyL P md ops Q S late (fuel + 1) listed a w := by
  intro fuel
  induction fuel with
  | zero =>
    intro listed a w hsh _ hr hy hS H
    refine ⟨fun h => (by rw [h] at hr; cases hr), fun j hj => ?_⟩
    by_cases hji : j = i
    · subst hji; exact hy.wpOp hi hS ⟨fun _ => hS, H⟩
    · have := ready_mono hj hji
      rw [H.1] at this
      cases this
  | succ fuel ih =>
    intro listed a w hsh hfree hr hy hS H
    refine ⟨fun h => (by rw [h] at hr; cases hr), fun j hj => ?_⟩
    by_cases hji : j = i
    · subst hji; exact hy.wpOp hi hS ⟨fun _ => hS, H⟩
    · have h1 := H.2 j (ready_mono hj hji)
      obtain ⟨hjun, oj, hoj, hall⟩ := mem_ready.1 hj
      have hnot : ∀ e ∈ oj.after, Region.binds md e = true → e.on ≠ i := fun e he hb heq => by
        have h1 := hall e he hb
        have h0 := (mem_ready.1 hr).1
        rw [heq] at h1
        rcases Nat.lt_or_ge i listed.size with h' | h'
        · simp [h'] at h0 h1; rw [h0] at h1; cases h1
        · simp [Array.getElem?_eq_none h'] at h1
      have hnl : late.contains j = false := by
        cases hc : late.contains j with
        | false => rfl
        | true =>
          simp only [lateB, Bool.and_eq_true, List.all_eq_true] at hL
          have h1 := waits_ready hsh hj (hL.2 j (by simpa using hc))
          have h0 := (mem_ready.1 hr).1
          rcases Nat.lt_or_ge i listed.size with h' | h'
          · simp [h'] at h0 h1; rw [h0] at h1; cases h1
          · simp [Array.getElem?_eq_none h'] at h1
      have h2 := wpOp_putIf hoj (hfree j oj hoj hji hjun hnot) (fun cs b => hsel i oi cs b hi) (fun cs b => hsel j oj cs b hoj) hQ hy h1
      have hfree' : ∀ k ok, ops[k]? = some ok → k ≠ i → (listed.setIfInBounds j true).getD k true = false →
          (∀ e ∈ ok.after, Region.binds md e = true → e.on ≠ i) → oi.apart ops ok = true := fun k ok hk hki hun hno => by
        refine hfree k ok hk hki ?_ hno
        by_cases hjk : j = k
        · subst hjk; exact hjun
        · rw [getD_set_ne true hjk] at hun; exact hun
      refine wpOp_mono (fun a' w' h3 => ⟨h3.2.1, ih (listed.setIfInBounds j true) a' w' (shut_set hsh hj) hfree' (ready_mono hr (Ne.symm hji)) h3.1 (h3.2.1 hnl) ?_⟩) h2
      rw [Array.setIfInBounds_comm _ _ hji]
      exact h3.2.2

/-- The walk in the order ord: (i, true): operation i only reads; (i, false): it is the only one that is ready. -/
def wpLate (P : Program) (ops : Array Oper) (Q : Exit → Act → World → Prop) (S : World → Prop) (late : List Nat) : List (Nat × Bool) → Act → World → Prop
  | [], a, w => Q .normal a w
  | (i, true) :: r, a, w => ∃ o v, ops[i]? = some o ∧ YieldsIf P ops S o v a ∧ wpLate P ops Q S late r (a.put o.dst v) w
  | (i, false) :: r, a, w => wpOp P ops Q i (fun a' w' => (late.contains i = false → S w') ∧ wpLate P ops Q S late r a' w') a w
def lateOk (ops : Array Oper) (late : List Nat) : List (Nat × Bool) → Bool → Array Bool → Bool
  | [], _, listed => (Region.ready .any ops listed).isEmpty
  | (i, true) :: r, ok, listed => ok && lateB .any ops late i && (Region.ready .any ops listed).contains i && Region.free .any ops listed i && lateOk ops late r ok (listed.setIfInBounds i true)
  | (i, false) :: r, ok, listed => decide (Region.ready .any ops listed = [i]) && lateOk ops late r (ok && !late.contains i) (listed.setIfInBounds i true)
theorem wpLate_any (hs : Region.noSelect ops = true) (hQ : ∀ d v c a w, Q (.panic c) (Act.put a d v) w → Q (.panic c) a w) :
    ∀ (l : List (Nat × Bool)) (ok : Bool) (listed : Array Bool) (a : Act) (w : World), lateOk ops late l ok listed = true → Shut .any ops listed → (ok = true → S w) → wpLate P ops Q S late l a w → wpAnyL P .any ops Q S late l.length listed a w
  | [], _, _, _, _, hB, _, _, h => ⟨by simpa [lateOk] using hB, h⟩
  | (i, true) :: r, ok, listed, a, w, hB, hsh, hS, h => by
    obtain ⟨o, v, hi, hy, h⟩ := h
    simp only [lateOk, Bool.and_eq_true] at hB
    obtain ⟨⟨⟨⟨h0, hl⟩, hr⟩, hf⟩, hB⟩ := hB
    exact wpAnyL_first hi (Region.noSelect_spec hs) (fun c a w => hQ o.dst v c a w) hl _ _ _ _ hsh (Region.free_spec hi hf) (by simpa using hr) hy (hS h0) (wpLate_any hs hQ r _ _ _ _ hB (shut_set hsh (by simpa using hr)) hS h)
  | (i, false) :: r, ok, listed, a, w, hB, hsh, hS, h => by
    simp only [lateOk, Bool.and_eq_true, decide_eq_true_eq] at hB
    obtain ⟨hr, hB⟩ := hB
    refine ⟨fun h0 => absurd (hr ▸ h0) (by simp), fun j hj => ?_⟩
    have : j = i := by rw [hr] at hj; simpa using hj
    subst this
    exact wpOp_mono (fun a' w' h' => ⟨h'.1, wpLate_any hs hQ r _ _ _ _ hB (shut_set hsh (by rw [hr]; simp)) (fun ho => h'.1 (by simp only [Bool.and_eq_true, Bool.not_eq_true'] at ho; exact ho.2)) h'.2⟩) h
theorem wp_region_late {id : Nat} {a : Act} {w : World} (late : List Nat) (ord : List (Nat × Bool)) (S : World → Prop) (hm : P.follows .mixedOrders = true)
    (hB : (Region.noSelect ops && decide (ord.length = ops.size) && lateOk ops late ord true (Array.replicate ops.size false)) = true)
    (hQ : ∀ d v c a w, Q (.panic c) (Act.put a d v) w → Q (.panic c) a w) (hS : S w.drew)
    (h : wpLate P ops Q S late ord a w.drew) : (Code.region id ops true).wp P Q a w := by
  simp only [Bool.and_eq_true, decide_eq_true_eq] at hB
  obtain ⟨⟨h1, h2⟩, h3⟩ := hB
  refine wp_region_any hm (wpAny_of_late (S := S) (late := late) _ _ _ _ ?_)
  rw [← h2]
  exact wpLate_any h1 hQ ord true _ a _ (by rw [h2]; exact h3) (fun k o _ hk => by simp [Array.getElem?_replicate] at hk; split at hk <;> simp at hk) (fun _ => hS) h
theorem wpLate_done {a : Act} {w : World} (h : Q .normal a w) : wpLate P ops Q S late [] a w := h
theorem wpLate_take {i : Nat} {r : List (Nat × Bool)} {o : Oper} {v : Value} {a : Act} {w : World} (hi : ops.toList[i]? = some o) (hg : o.guard = none)
    (hv : ∀ w, S w → (execOp a.eval o).run P w = .ok (.value v) w) (h : wpLate P ops Q S late r (a.put o.dst v) w) : wpLate P ops Q S late ((i, true) :: r) a w :=
  ⟨o, v, by simpa using hi, .inl ⟨by simp [Region.wanted, hg], hv⟩, h⟩
theorem wpLate_goL {i : Nat} {r : List (Nat × Bool)} {o : Oper} {a : Act} {w : World} (hi : ops.toList[i]? = some o)
    (h : ∀ K : Act → World → Prop, (∀ a w, (late.contains i = false → S w) → wpLate P ops Q S late r a w → K a w) → wpList P ops (Exit.then K Q) [o] a w) : wpLate P ops Q S late ((i, false) :: r) a w := by
  have hi' : ops[i]? = some o := by simpa using hi
  have h' := h _ (fun a w h1 h2 => (⟨h1, h2⟩ : (late.contains i = false → S w) ∧ wpLate P ops Q S late r a w))
  unfold wpLate wpOp
  simp only [hi']
  unfold wpList at h'
  split
  · rename_i hw
    rw [if_pos hw] at h'
    rcases h' with h' | ⟨h1, a2, w2, h2⟩
    · exact .inl (upon_then h' (fun a w q => q))
    · exact .inr ⟨h1, a2, w2, h2⟩
  · rename_i hw
    rw [if_neg hw] at h'
    exact h'
/-- A whole row is loaded. -/
theorem wpLate_load {i : Nat} {r : List (Nat × Bool)} {o : Oper} {a : Act} {w : World} (ty : TypeId) (n b : Nat) (x : Operand) (L : List Value) (t : TypeId) (fr : Nat × Nat) (hi : ops.toList[i]? = some o) (hgd : o.guard = none) (ho : o.op = .load ty x)
    (hx : a.eval x = .pointer (some ⟨b, 0, none⟩)) (hg : ∀ w, (isAgg ty).run P w = .ok true w) (hs : ∀ w, (sizeOf ty).run P w = .ok n w) (hb : ∀ w, S w → w.heap[b]? = some (.cells L.toArray t fr)) (hl : L.length = n)
    (h : wpLate P ops Q S late r (a.put o.dst (.agg L.toArray)) w) : wpLate P ops Q S late ((i, true) :: r) a w :=
  wpLate_take hi hgd (fun w hS => exec_run (s := Instr.loadAt ty (.pointer (some ⟨b, 0, none⟩))) (by simp only [execOp, ho, hx]) (run_loadAll ty n b L t fr hg hs (hb w hS) hl)) h
theorem wpText_load {i : Nat} {r : List (Nat × Bool)} {o : Oper} {a : Act} {w : World} (ty : TypeId) (n b : Nat) (x : Operand) (L : List Value) (t : TypeId) (fr : Nat × Nat) (hi : ops.toList[i]? = some o) (hgd : o.guard = none) (ho : o.op = .load ty x)
    (hx : a.eval x = .pointer (some ⟨b, 0, none⟩)) (hg : ∀ w, (isAgg ty).run P w = .ok true w) (hs : ∀ w, (sizeOf ty).run P w = .ok n w) (hb : ∀ w, S w → w.heap[b]? = some (.cells L.toArray t fr)) (hl : L.length = n)
    (h : wpText P ops Q S r (a.put o.dst (.agg L.toArray)) w) : wpText P ops Q S ((i, true) :: r) a w :=
  wpText_take hi hgd (fun w hS => exec_run (s := Instr.loadAt ty (.pointer (some ⟨b, 0, none⟩))) (by simp only [execOp, ho, hx]) (run_loadAll ty n b L t fr hg hs (hb w hS) hl)) h
theorem wpLate_take' {i : Nat} {r : List (Nat × Bool)} {o : Oper} {v : Value} {a : Act} {w : World} (hi : ops.toList[i]? = some o) (hg : o.guard = none)
    (hv : ∀ w, S w → (execOp a.eval o).run P w = .ok (.value v) w) (h : wpLate P ops Q S late r (a.put o.dst v) w) : wpLate P ops Q S late ((i, true) :: r) a w := wpLate_take hi hg hv h
end
end Go.Proofs.Ytckopikeegegkaa
