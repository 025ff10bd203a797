/- LAWS 4: a whole row loaded, said of the instruction. -/
import Derived.Test.YtckopikeegegkaaRegIn
import Derived.BigFrame
namespace Go.Proofs.Ytckopikeegegkaa
open Go.RowKit
theorem run_loadAll {P : Program} {w : World} (ty : TypeId) (n b : Nat) (L : List Value) (t : TypeId) (fr : Nat × Nat) (hg : ∀ w, (isAgg ty).run P w = .ok true w) (hs : ∀ w, (sizeOf ty).run P w = .ok n w)
    (hb : w.heap[b]? = some (.cells L.toArray t fr)) (hl : L.length = n) : (Instr.loadAt ty (.pointer (some ⟨b, 0, none⟩))).run P w = .ok (.agg L.toArray) w := by
  have e : (L.drop 0).take n = L := by rw [List.drop_zero, List.take_of_length_le (by omega)]
  have := run_loadCells_row (P := P) (w := w) b 0 n L t fr hb (by omega)
  rw [e] at this
  simp [Instr.loadAt, Instr.sureAddr, loadVar, hg, hs, this, Result.andThen]
theorem wplg_load_all {P : Program} {o : Oper} {ops : Array Oper} {rest : List Oper} {a : Act} {w : World} {Q : Exit → Act → World → Prop} (ty : TypeId) (x : Operand) (n : Nat) (ho : o.op = .load ty x) (b : Nat) (hx : a.eval x = .pointer (some ⟨b, 0, none⟩))
    (hg : ∀ w, (isAgg ty).run P w = .ok true w) (hs : ∀ w, (sizeOf ty).run P w = .ok n w) (L : List Value) (t : TypeId) (fr : Nat × Nat)
    (hb : w.heap[b]? = some (.cells L.toArray t fr)) (hl : L.length = n)
    (hgd : Region.wanted o (yielded ops a.tmps) = true) (h : wpList P ops Q rest (a.put o.dst (.agg L.toArray)) w) : wpList P ops Q (o :: rest) a w :=
  Go.BigFrame.wpList_want hgd fun _ hK => wpo_load_all ty x n ho b hx hg hs L t fr hb hl (hK _ _ h)
end Go.Proofs.Ytckopikeegegkaa
