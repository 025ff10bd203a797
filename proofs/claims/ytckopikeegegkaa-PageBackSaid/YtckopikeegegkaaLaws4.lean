/- LAWS 4: a whole row loaded, said of the instruction. -/
import Derived.Test.YtckopikeegegkaaRegIn
import Derived.BigFrame
import Derived.Maps.RangeWalk
namespace Go.Proofs.Ytckopikeegegkaa
open Go.RowKit
theorem run_loadAll {P : Program} {w : World} (ty : TypeId) (n b : Nat) (L : List Value) (t : TypeId) (fr : Nat × Nat) (hg : ∀ w, (isAgg ty).run P w = .ok true w) (hs : ∀ w, (sizeOf ty).run P w = .ok n w)
    (hb : w.heap[b]? = some (.cells L.toArray t fr)) (hl : L.length = n) : (Instr.loadAt ty (.pointer (some ⟨b, 0, none⟩))).run P w = .ok (.agg L.toArray) w := by
  have e : (L.drop 0).take n = L := by rw [List.drop_zero, List.take_of_length_le (by omega)]
  have := run_loadCells_row (P := P) (w := w) b 0 n L t fr hb (by omega)
  rw [e] at this
  simp [Instr.loadAt, Instr.sureAddr, loadVar, hg, hs, this, Result.andThen]
theorem run_indexRows {P : Program} {w : World} (ty et : TypeId) (n b len cap : Nat) (i : Nat) (hu : P.underlying ty = some (.slice et)) (hs : ∀ w, (sizeOf et).run P w = .ok n w) (hi : i < len) :
    (Instr.indexAt ty (.slice (some ⟨b, 0, none⟩) len cap) (.int .i64 i)).run P w = .ok (.pointer (some ⟨b, i * n, none⟩)) w := by
  have e : (0 : Int) ≤ (i : Int) ∧ (i : Int) < (len : Int) := ⟨by omega, by omega⟩
  simp [Instr.indexAt, asIntOf, run_underlying hu, hs, Result.andThen, e, addr_add]
  intro h'; omega
theorem run_clearMap {P : Program} {w : World} (t k e ty : TypeId) (b : Nat) (es : Array MapEntry) (clock : Nat) (hu : P.underlying t = some (.map k e)) (hb : w.heap[b]? = some (.map es clock)) :
    (Builtin.clear_ #[t] ty #[.map (some b)]).run P w = .ok (.tuple #[]) (Go.ChangeMaps.setBlock w b (.map #[] clock)) := by
  simp [Builtin.clear_, run_underlying hu, Go.MapKept.run_getObj_map hb, Go.MapKept.run_setObj_map _ hb, Result.andThen, Go.ChangeMaps.setBlock]
theorem wplg_load_all {P : Program} {o : Oper} {ops : Array Oper} {rest : List Oper} {a : Act} {w : World} {Q : Exit → Act → World → Prop} (ty : TypeId) (x : Operand) (n : Nat) (ho : o.op = .load ty x) (b : Nat) (hx : a.eval x = .pointer (some ⟨b, 0, none⟩))
    (hg : ∀ w, (isAgg ty).run P w = .ok true w) (hs : ∀ w, (sizeOf ty).run P w = .ok n w) (L : List Value) (t : TypeId) (fr : Nat × Nat)
    (hb : w.heap[b]? = some (.cells L.toArray t fr)) (hl : L.length = n)
    (hgd : Region.wanted o (yielded ops a.tmps) = true) (h : wpList P ops Q rest (a.put o.dst (.agg L.toArray)) w) : wpList P ops Q (o :: rest) a w :=
  Go.BigFrame.wpList_want hgd fun _ hK => wpo_load_all ty x n ho b hx hg hs L t fr hb hl (hK _ _ h)
end Go.Proofs.Ytckopikeegegkaa
