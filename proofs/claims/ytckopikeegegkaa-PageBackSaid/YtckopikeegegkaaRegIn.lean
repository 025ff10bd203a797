/- A region that draws its order, in a round of a loop over a function: walked as it is outside. -/
import Derived.Test.YtckopikeegegkaaLaws3
import Derived.OrdersIn
import Derived.TacticsIn
namespace Go.Proofs.Ytckopikeegegkaa
open Go.RowKit
set_option linter.unusedVariables false
set_option linter.unusedSimpArgs false
section
variable {P : Program} {ops : Array Oper} {Q : Exit → Act → World → Prop}

theorem exec_run {o : Oper} {a : Act} {w w' : World} {s : Sem Value} {v : Value} (ho : execOp a.eval o = (do pure (.value (← s)))) (hr : s.run P w = .ok v w') : (execOp a.eval o).run P w = .ok (.value v) w' := by
  rw [ho]
  simp only [Sem.run_bind, hr, Result.andThen_ok, Sem.run_pure]
theorem run_sliceArr (t et : TypeId) (n sz b off : Nat) (x y : Int) (lo hi : Nat) (w : World) (hu : P.underlying t = some (.array n et)) (hs : ∀ w, (sizeOf et).run P w = .ok sz w) (ex : x = lo) (ey : y = hi) (h0 : lo < n) (h1 : lo ≤ hi) (h2 : hi ≤ n) :
    (Instr.sliceAt t (.pointer (some ⟨b, off, none⟩)) (some (.int .i64 x)) (some (.int .i64 y)) none).run P w = .ok (.slice (some ⟨b, off + lo * sz, none⟩) (hi - lo) (n - lo)) w := by
  subst ex; subst ey
  have e1 : (0 : Int) ≤ (hi : Int) ∧ (hi : Int) ≤ (n : Int) := ⟨by omega, by omega⟩
  have e2 : (0 : Int) ≤ (lo : Int) ∧ (lo : Int) ≤ (hi : Int) := ⟨by omega, by omega⟩
  have e3 : ¬ n = lo := by omega
  have e4 : ¬ n < hi := by omega
  have e5 : ¬ hi < lo := by omega
  simp [Instr.sliceAt, run_underlying hu, Instr.sureAddr, Instr.sliceBounds, Instr.sliceBound, asIntOf, Result.andThen, e1, e2, e3, e4, e5, hs, addr_add, h1, h2]
theorem run_sliceArrLo (t et : TypeId) (n sz b off : Nat) (x : Int) (lo : Nat) (w : World) (hu : P.underlying t = some (.array n et)) (hs : ∀ w, (sizeOf et).run P w = .ok sz w) (ex : x = lo) (h0 : lo < n) :
    (Instr.sliceAt t (.pointer (some ⟨b, off, none⟩)) (some (.int .i64 x)) none none).run P w = .ok (.slice (some ⟨b, off + lo * sz, none⟩) (n - lo) (n - lo)) w := by
  subst ex
  have e2 : (0 : Int) ≤ (lo : Int) ∧ (lo : Int) ≤ (n : Int) := ⟨by omega, by omega⟩
  have e3 : ¬ n = lo := by omega
  have e5 : ¬ n < lo := by omega
  simp [Instr.sliceAt, run_underlying hu, Instr.sureAddr, Instr.sliceBounds, Instr.sliceBound, asIntOf, Result.andThen, e2, e3, e5, hs, addr_add, Nat.le_of_lt h0]
theorem wplIn_run {F : Fence} {l n : Nat} {o : Oper} {rest : List Oper} {a : Act} {w w' : World} {s : Sem Value} {v : Value} (hnd : ∀ c, o.op ≠ .defer c) (hab : (∀ f, o.about P w a.eval = some f → (F.inRound l).fn f)) (ho : execOp a.eval o = (do pure (.value (← s)))) (hr : s.run P w = .ok v w')
    (hgd : o.guard = none) (h : wpListIn (F.inRound l) n P ops Q rest (a.put o.dst v) w') : wpListIn (F.inRound l) n P ops Q (o :: rest) a w := by
  refine wpListIn_plain hgd fun K hK => ⟨hab, ?_⟩
  have e : o.semAt (F.inRound l).round a.eval = execOp a.eval o := Oper.semAt_some l a.eval o hnd
  rw [e, exec_run ho hr]
  exact hK _ _ h
theorem about_wide (l : Nat) (o : Oper) (w : World) (ρ : Operand → Value) : ∀ f, o.about P w ρ = some f → (Fence.wide.inRound l).fn f := fun _ _ => trivial
theorem upon_in {l n : Nat} {o : Oper} {a : Act} {K : Act → World → Prop} (hno : ¬ LetsOut Q) {r : Result Next} (h : o.upon P a K Q r) : o.uponIn (Fence.wide.inRound l) n P a K Q r := by
  cases r with
  | ok x w' =>
    cases x <;> simp only [Oper.upon] at h <;> simp only [Oper.uponIn] <;> try exact h
    case enter f args => exact ⟨fun q => by simp [Fence.wide] at q, CallsIn.inRound l (callsIn_wide.2 h)⟩
    case row row args =>
      refine ⟨fun q => by simp [Fence.wide] at q, fun c cs _ => ?_⟩
      obtain ⟨v, w2, r, s⟩ := h c cs
      exact ⟨v, w2, r, stepsIn_wide.2 s⟩
    all_goals exact h.elim
  | halt x w' => cases x <;> simp only [Oper.upon] at h <;> simp only [Oper.uponIn] <;> exact h
theorem wpOp_in {l n : Nat} {i : Nat} {a : Act} {w : World} {K K' : Act → World → Prop} (hno : ¬ LetsOut Q) (hnd : ∀ (i : Nat) (o : Oper), ops[i]? = some o → ∀ c, o.op ≠ .defer c) (hk : ∀ a w, K a w → K' a w)
    (h : wpOp P ops Q i K a w) : wpOpIn (Fence.wide.inRound l) n P ops Q i K' a w := by
  unfold wpOp at h
  unfold wpOpIn
  cases ho : ops[i]? with
  | none => simp only [ho] at h ⊢; exact hk _ _ h
  | some o =>
    simp only [ho] at h ⊢
    split
    · rename_i hw
      rw [if_pos hw] at h
      rcases h with h | ⟨_, q⟩
      · refine ⟨about_wide l o w _, ?_⟩
        have e : o.semAt (Fence.wide.inRound l).round a.eval = execOp a.eval o := Oper.semAt_some l a.eval o (hnd i o ho)
        rw [e]
        refine upon_in hno ?_
        unfold Oper.wp at h
        generalize (execOp a.eval o).run P w = r at h
        cases r with
        | ok x w' =>
          cases x <;> simp only [Oper.upon] at h ⊢ <;> try exact h
          case value v => exact hk _ _ h
          case skip => exact hk _ _ h
          case defer d => exact hk _ _ h
          case enter f args =>
            refine Calls.mono h fun e w'' he => ?_
            cases e with
            | returned u => exact hk _ _ he
            | panicked c => exact he
            | outgrown => exact he
          case row row args => exact Rows.mono h fun u w'' he => hk _ _ he
        | halt x w' => cases x <;> simp only [Oper.upon] at h ⊢ <;> exact h
      · exact absurd q hno
    · rename_i hw
      rw [if_neg hw] at h
      exact ⟨about_wide l o w _, hk _ _ h⟩
theorem wpAny_in {l n : Nat} {md : Region.Mode} (hno : ¬ LetsOut Q) (hnd : ∀ (i : Nat) (o : Oper), ops[i]? = some o → ∀ c, o.op ≠ .defer c) :
    ∀ (fuel : Nat) (listed : Array Bool) (a : Act) (w : World), wpAny P md ops Q fuel listed a w → wpAnyIn (Fence.wide.inRound l) n P md ops Q fuel listed a w
  | 0, _, _, _, h => h
  | fuel + 1, listed, a, w, h => ⟨h.1, fun i hi => wpOp_in hno hnd (fun a w q => wpAny_in hno hnd fuel _ a w q) (h.2 i hi)⟩
def noDefer (ops : Array Oper) : Bool := ops.toList.all fun o => match o.op with | .defer _ => false | _ => true
theorem noDefer_spec (h : noDefer ops = true) (i : Nat) (o : Oper) (ho : ops[i]? = some o) (c : Call) : o.op ≠ .defer c := by
  intro q
  have := List.all_eq_true.1 h o (by simpa using Array.mem_of_getElem? ho)
  simp [q] at this
theorem wp_region_textIn {l n : Nat} {id : Nat} {a : Act} {w : World} (ord : List (Nat × Bool)) (S : World → Prop) (hm : P.follows .mixedOrders = true)
    (hB : (noDefer ops && (Region.noSelect ops && decide (ord.length = ops.size) && textB ops ord (Array.replicate ops.size false))) = true) (hno : ¬ LetsOut Q)
    (hQ : ∀ d v c a w, Q (.panic c) (Act.put a d v) w → Q (.panic c) a w) (hS : S w.drew)
    (h : wpText P ops Q S ord a w.drew) : (Code.region id ops true).wpIn (Fence.wide.inRound l) n P Q a w := by
  simp only [Bool.and_eq_true, decide_eq_true_eq] at hB
  obtain ⟨h0, ⟨h1, h2⟩, h3⟩ := hB
  refine wpIn_region_any hm ?_
  refine wpAny_in hno (noDefer_spec h0) _ _ _ _ (wpAny_of_held (S := S) _ _ _ _ ?_)
  rw [← h2]
  exact wpText_any h1 hQ ord _ a _ (by rw [h2]; exact h3) hS h
end
end Go.Proofs.Ytckopikeegegkaa
