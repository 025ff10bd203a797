/- LAWS 3: an array built from two elements; a string copied into bytes; the entry of a function that ranges over a function; a result in a cell. -/
import Derived.RangeFuncNested
import Derived.RangeFuncBound
import Derived.RangeFuncCalls
import Derived.RangeFuncLeaves
import Derived.RangeFuncBox
import Derived.RangeFuncOne
import Derived.Test.YtckopikeegegkaaRegText
namespace Go.Proofs.Ytckopikeegegkaa
open Go.RowKit Go.MapKept
section
variable {P : Program} {o : Oper} {ops : Array Oper} {rest : List Oper} {a : Act} {w : World} {Q : Exit → Act → World → Prop}

theorem wpl_build2 (t et : TypeId) (n : Nat) (x y : Operand) (ho : o.op = .build t #[(0, x), (1, y)]) (u v z0 z1 : Value) (Z : List Value)
    (hx : a.eval x = u) (hy : a.eval y = v) (hu : P.underlying t = some (.array n et)) (hz : ∀ w, (zeroValue t).run P w = .ok (.agg (z0 :: z1 :: Z).toArray) w) (hs : ∀ w, (sizeOf et).run P w = .ok 1 w)
    (cu : u.cells = #[u]) (cv : v.cells = #[v]) (hgd : o.guard = none)
    (h : wpList P ops Q rest (a.put o.dst (.agg (u :: v :: Z).toArray)) w) : wpList P ops Q (o :: rest) a w := by
  refine wpl_run (s := Instr.build t #[(0, a.eval x), (1, a.eval y)]) (by simp [execOp, ho]) ?_ hgd h
  have cz : (Value.agg (z0 :: z1 :: Z).toArray).cells = (z0 :: z1 :: Z).toArray := rfl
  simp [Instr.build, hz, run_underlying hu, hs, hx, hy, cz, Instr.fill, cu, cv, Result.andThen]

theorem run_copyStr (dT sT et rT : TypeId) (b off dLen cap : Nat) (s : Str) (L : List Value) (t : TypeId) (hu : P.underlying dT = some (.slice et)) (hs : ∀ w, (sizeOf et).run P w = .ok 1 w)
    (hb : w.heap[b]? = some (.cells L.toArray t (0, 0))) (hn : s.length ≤ dLen) (hl : off + dLen ≤ L.length) :
    (Builtin.copy_ #[dT, sT] rT #[.slice (some ⟨b, off, none⟩) dLen cap, .string (bs s)]).run P w = .ok (.int .i64 s.length) (w.setRow b (L.take off ++ encB s ++ L.drop (off + s.length)).toArray) := by
  have hst := run_storeCells_at (P := P) b off t (encB s) 0 L.toArray w hb (by simp [encB_length]; omega) (encB_one s)
  have hm : Nat.min s.length dLen = s.length := Nat.min_eq_left hn
  have he : ((bs s).extract 0 s.length).data.map (fun b => Value.int .u8 b.toNat) = (encB s).toArray := by
    apply Array.ext'
    simp [bs, encB, ByteArray.extract, ByteArray.copySlice]
  simp only [Nat.add_zero, encB_length] at hst
  simp [Builtin.copy_, run_underlying hu, Builtin.lenOf, Builtin.firstCells, hs, hm, he, goInt, Result.andThen] at hst ⊢
  have h2 : List.take s.length (List.map (fun b : UInt8 => Value.int IntKind.u8 b.toNat) s) = encB s := List.take_of_length_le (by simp)
  rw [h2, hst]
theorem wpl_copyStr (dT sT et : TypeId) (x y : Operand) (ho : o.op = .call { callee := .builtin .copy, args := #[x, y], argTypes := #[dT, sT] }) (b off dLen cap : Nat) (s : Str) (L : List Value) (t : TypeId)
    (hx : a.eval x = .slice (some ⟨b, off, none⟩) dLen cap) (hy : a.eval y = .string (bs s)) (hu : P.underlying dT = some (.slice et)) (hs : ∀ w, (sizeOf et).run P w = .ok 1 w)
    (hb : w.heap[b]? = some (.cells L.toArray t (0, 0))) (hn : s.length ≤ dLen) (hl : off + dLen ≤ L.length) (hgd : o.guard = none)
    (h : wpList P ops Q rest (a.put o.dst (.int .i64 s.length)) (w.setRow b (L.take off ++ encB s ++ L.drop (off + s.length)).toArray)) : wpList P ops Q (o :: rest) a w := by
  refine wpl_run (s := Builtin.copy_ #[dT, sT] o.type #[a.eval x, a.eval y]) ?_ ?_ hgd h
  · simp [execOp, ho, resolve, invoke, builtin]
  · rw [hx, hy]; exact run_copyStr dT sT et o.type b off dLen cap s L t hu hs hb hn hl
theorem wpl_store1 (ty : TypeId) (x y : Operand) (ho : o.op = .store ty x y) (b off : Nat) (v : Value) (L : List Value) (t : TypeId) (hx : a.eval x = .pointer (some ⟨b, off, none⟩)) (hy : a.eval y = v)
    (hs : ∀ w, (sizeOf ty).run P w = .ok 1 w) (hb : w.heap[b]? = some (.cells L.toArray t (0, 0))) (h1 : v.oneCell' = true) (hc : v.cells = #[v]) (hl : off < L.length) (hgd : o.guard = none)
    (h : wpList P ops Q rest (a.put o.dst undef) (w.setRow b (L.set off v).toArray)) : wpList P ops Q (o :: rest) a w := by
  have hst := run_storeCells_at (P := P) b off t [v] 0 L.toArray w hb (by simp; omega) (by intro u hu; simp at hu; subst hu; exact h1)
  have e : List.take off L ++ v :: List.drop (off + 1) L = L.set off v := by rw [List.set_eq_take_append_cons_drop]; simp [hl]
  refine wpl_runU (s := Instr.storeAt ty (a.eval x) (a.eval y)) (by simp only [execOp, ho]) ?_ hgd h
  simp [e] at hst
  simp [Instr.storeAt, hx, hy, Instr.sureAddr, storeVar, hs, hc, Result.andThen, hst]
theorem setRow_eq (w : World) (b : Nat) (cs cs' : Array Value) (t : TypeId) (fr : Nat × Nat) (h : w.heap[b]? = some (.cells cs t fr)) : (w.setRow b cs').heap[b]? = some (.cells cs' t fr) := setRow_heap w b cs cs' t fr h
theorem results_cell1 {fn : Func} {p : Tmp} {ty : TypeId} (h : fn.results = #[.cell p ty]) (tmps : Array Value) (w : World) (b : Nat) (v : Value)
    (hp : tmps.getD p undef = .pointer (some ⟨b, 0, none⟩)) (hg : (isAgg ty).run P w = .ok false w) (hb : w.cell? ⟨b, 0, none⟩ = some v) : (results fn tmps).run P w = .ok v w := by
  have hp' : tmps[p]?.getD undef = .pointer (some ⟨b, 0, none⟩) := by simpa using hp
  simp [results, h, hp', asAddr, loadVar, hg, load, Sem.run, hb, Result.andThen]
theorem results_cell2 {fn : Func} {p q : Tmp} {ty ty2 : TypeId} (h : fn.results = #[.cell p ty, .cell q ty2]) (tmps : Array Value) (w : World) (b c : Nat) (v v2 : Value)
    (hp : tmps.getD p undef = .pointer (some ⟨b, 0, none⟩)) (hg : (isAgg ty).run P w = .ok false w) (hb : w.cell? ⟨b, 0, none⟩ = some v)
    (hq : tmps.getD q undef = .pointer (some ⟨c, 0, none⟩)) (hg2 : (isAgg ty2).run P w = .ok false w) (hb2 : w.cell? ⟨c, 0, none⟩ = some v2) : (results fn tmps).run P w = .ok (.tuple #[v, v2]) w := by
  have hp' : tmps[p]?.getD undef = .pointer (some ⟨b, 0, none⟩) := by simpa using hp
  have hq' : tmps[q]?.getD undef = .pointer (some ⟨c, 0, none⟩) := by simpa using hq
  simp [results, h, hp', hq', asAddr, loadVar, hg, hg2, load, Sem.run, hb, hb2, Result.andThen]
end
/-- What only new blocks are touched by leaves the old ones be. -/
theorem Keeps.trans_new {S T : Nat → Prop} {w w' w'' : World} (h : Keeps S w w') (k : Keeps T w' w'') (hT : ∀ k, k < w.heap.size → ¬ T k) : Keeps S w w'' :=
  ⟨k.os.trans h.os, k.tape.trans h.tape, k.output.trans h.output, Nat.le_trans h.size k.size,
   fun i hi hs => (k.block i (Nat.lt_of_lt_of_le hi h.size) (hT i hi)).trans (h.block i hi hs)⟩
/-- A function that ranges over a function: its body, walked plainly. -/
theorem calls_marks {P : Program} {f : FuncId} {fn : Func} {c : Code} {args : Array Value} {w : World} {R : Ending → World → Prop} (hf : P.funcs[f]? = some fn) (hb : fn.body = some c)
    (h : c.wp P (bodyPostM Fence.wide 9 P fn R) { tmps := args ++ Array.replicate (fn.ntmps - args.size) undef, defers := [] } w) : Calls P f args w R :=
  (callsIn_wide (n := 9)).1 (callsIn_of_wp_marks hf hb trivial (wpIn_wide.2 h))
theorem leaves_plain {P : Program} {fn : Func} {tmps : Array Value} {w : World} {v : Value} {R : Ending → World → Prop} (hr : (results fn tmps).run P w = .ok v w) (hR : R (.returned v) w) :
    bodyPostM Fence.wide 9 P fn R .ret { tmps := tmps, defers := [] } w := ⟨v, hr, hR⟩
theorem leaves_mark {P : Program} {fn : Func} {tmps : Array Value} {w : World} {D : Nat} {v : Value} {R : Ending → World → Prop} (hK : w.heap[D]? = some (.deferred (some [])))
    (hr : (results fn tmps).run P (w.putObj D (.deferred none)) = .ok v (w.putObj D (.deferred none))) (hR : R (.returned v) (w.putObj D (.deferred none))) :
    bodyPostM Fence.wide 9 P fn R .ret { tmps := tmps, defers := [{ target := .collected D, args := #[] }] } w :=
  ⟨by simp, .inl ⟨_, _, rfl, run_takeDeferred hK, v, hr, hR⟩⟩
end Go.Proofs.Ytckopikeegegkaa
