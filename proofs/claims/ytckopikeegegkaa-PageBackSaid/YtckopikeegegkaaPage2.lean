/- PAGE 2: the iterator over a page's sectors. -/
import Derived.RangeFuncNested
import Derived.RangeFuncBound
import Derived.RangeFuncCalls
import Derived.RangeFuncLeaves
import Derived.RangeFuncBox
import Derived.RangeFuncOne
import Derived.Shelf.Abstract
import Derived.Shelf.RegionOpen
import Derived.OwnWalkIn
import Derived.TacticsInMore
import Derived.LoopNIn
import Derived.LoopIn
import Derived.Test.YtckopikeegegkaaPage1
namespace Go.Proofs.Ytckopikeegegkaa
open Go.RowKit Go.MapKept Go.Shelf
set_option linter.unusedSimpArgs false
set_option linter.unusedVariables false
attribute [local go_sem] Oper.semAt_some

def secs (n : Int) (k : Fin 4) : Array Value := #[.int .i64 ((k.val : Int) * 64), .int .i64 (n * 4 + (k.val : Int))]
theorem rng_succ (k : Nat) (h : k < 4) : rng (k + 1) = rng k ++ [⟨k, h⟩] := by
  have : ∀ j : Fin 4, rng (j.val + 1) = rng j.val ++ [j] := by decide
  exact this ⟨k, h⟩
theorem rng_length (k : Nat) (h : k ≤ 4) : (rng k).length = k := by
  have : ∀ j : Fin 5, (rng j.val).length = j.val := by decide
  exact this ⟨k, by omega⟩
def keepsBox (nb : Nat) (W W' : World) : Prop := W'.cell? ⟨nb, 0, none⟩ = W.cell? ⟨nb, 0, none⟩

set_option maxRecDepth 100000 in
set_option maxHeartbeats 1000000 in
theorem sectors1_in (F : Fence) (r : Nat) (h7 : F.fn 70) (hro : F.round = none) (hn : 1 ≤ r) (l nb : Nat) (n : Int) (b0 : 0 ≤ n) (b1 : n ≤ 1000000) (J Jx : List (Fin 4) → World → Prop)
    (hY : ∀ pre x W, J pre W → pre.length < 4 → YieldAt F (r - 1) Try.prog l (secs n x) W fun e W' =>
      (e = .returned (.bool true) ∧ J (pre ++ [x]) W' ∧ keepsBox nb W W') ∨ (e = .returned (.bool false) ∧ Jx (pre ++ [x]) W'))
    (W : World) (hB : W.cell? ⟨nb, 0, none⟩ = some (.int .i64 n)) (h0 : J [] W) :
    CallsIn F r Try.prog 70 #[.func (.yield l) #[] #[], .pointer (some ⟨nb, 0, none⟩)] W fun e W' => (∃ v, e = .returned v) ∧
      ((∃ ys, ys = rng 4 ∧ J ys W') ∨ (∃ pre, (∃ k, k ≤ 4 ∧ pre = rng k) ∧ Jx pre W')) := by
  refine callsIn_of_wp Try.func70 rfl h7 ?_ hro
  simp only [Try.ntmps70, List.size_toArray, List.length_cons, List.length_nil, Nat.reduceAdd, Nat.reduceSub, Array.replicate_succ, Array.replicate_zero, List.push_toArray, List.append_toArray, List.nil_append, List.cons_append]
  gi_wp2
  gi_loopw [4] (fun i wr => ∃ k : Nat, k ≤ 4 ∧ i = .int .i64 k ∧ J (rng k) wr ∧ keepsBox nb W wr)
    (fun i _ => 4 - (intOf i).toNat)
  case atStart => exact ⟨0, Nat.zero_le _, rfl, h0, rfl⟩
  case round =>
    obtain ⟨k, hk, rfl, hJs, hnx⟩ := hrel
    have hcx : wr.cell? ⟨nb, 0, none⟩ = some (.int .i64 n) := hnx.trans hB
    by_cases hlt : k < 4
    · obtain ⟨fn, tmps, assign, body, hy, hR⟩ := hY _ ⟨k, hlt⟩ wr hJs (by rw [rng_length k hk]; exact hlt)
      unfold secs at hy
      dsimp only at hy
      have hnb := hcx
      gi_wp2
      refine hR.mono ?_
      rintro e W3 (⟨rfl, hJ3, hk3⟩ | ⟨rfl, hJx3⟩)
      · gi_wp2
        go_roundw
        case rel => exact ⟨k + 1, by omega, by simp, by rw [rng_succ k hlt]; exact hJ3, Eq.trans hk3 hnx⟩
        case measure => simp [intOf]; omega
      · gi_wp2
        refine bodyPost_ret (results_none rfl _ _ _) rfl ?_
        exact ⟨⟨_, rfl⟩, .inr ⟨_, ⟨k + 1, by omega, (rng_succ k hlt).symm⟩, hJx3⟩⟩
    · obtain rfl : k = 4 := by omega
      gi_wp2
      go_end0
      exact ⟨⟨_, rfl⟩, .inl ⟨_, rfl, hJs⟩⟩

set_option maxHeartbeats 400000 in
theorem sectors_in (F : Fence) (r : Nat) (h5 : F.fn 55) (hro : F.round = none) (n : Int) (w : World) :
    CallsIn F r Try.prog 55 #[.int .i64 n] w fun e w' => e = .returned (.func (.func 70) #[] #[.pointer (some ⟨w.heap.size, 0, none⟩)]) ∧ w.alloc (.cells #[.int .i64 n] 3) = w' := by
  refine callsIn_of_wp Try.func55 rfl h5 ?_ hro
  simp only [Try.ntmps55, List.size_toArray, List.length_cons, List.length_nil, Nat.reduceAdd, Nat.reduceSub, Array.replicate_succ, Array.replicate_zero, List.push_toArray, List.append_toArray, List.nil_append, List.cons_append]
  gi_wp2
  go_ret
  exact ⟨rfl, rfl⟩
theorem sectors_stops (F : Fence) (r : Nat) (h7 : F.fn 70) (hro : F.round = none) (hn : 1 ≤ r) (nb : Nat) (n : Int) (b0 : 0 ≤ n) (b1 : n ≤ 1000000) (w : World) (hb : nb < w.heap.size)
    (hc : w.cell? ⟨nb, 0, none⟩ = some (.int .i64 n)) :
    SeqStopsK F r Try.prog 70 #[.pointer (some ⟨nb, 0, none⟩)] (secs n) (keepsBox nb) (fun ys => ys = rng 4) (fun pre => ∃ k, k ≤ 4 ∧ pre = rng k) 4 w := fun l J Jx W hW _ _ hY h0 =>
  sectors1_in F r h7 hro hn l nb n b0 b1 J Jx hY W ((hW.cell (p := ⟨nb, 0, none⟩) hb).trans hc) h0

theorem own_of_below {β : Type} (B : Nat) (I : β → World → Prop) (hB : ∀ s W, I s W → B ≤ W.heap.size) (hI : ∀ s W W', I s W → Below B W W' → I s W') : OwnFrom B I :=
  fun s W W' row hs hg hr => hI s W W' hs ⟨hg.os, hg.tape, hg.output, hg.size, fun k hk => hg.block k (Nat.lt_of_lt_of_le hk (hB s W hs)) (fun e => by have := (hr k e.symm).1; omega)⟩
theorem keepsFrom_of_keeps {S : Nat → Prop} {B : Nat} {W W' : World} (h : Keeps S W W') (hS : ∀ k, S k → k < B) : KeepsFrom B W W' :=
  ⟨h.size, fun k o hk ho _ => (h.block k (Array.getElem?_eq_some_iff.1 ho).1 (fun q => by have := hS k q; omega)).trans ho⟩
theorem Keeps.of_below_lt {S : Nat → Prop} {B : Nat} {w W W' : World} (h : Keeps S w W) (k : Below B W W') (hB : w.heap.size ≤ B) : Keeps S w W' :=
  ⟨k.os.trans h.os, k.tape.trans h.tape, k.output.trans h.output, Nat.le_trans h.size k.size, fun i hi hs => (k.block i (by omega)).trans (h.block i hi hs)⟩
theorem keepsBox_t {nb : Nat} {A B C : World} (h : keepsBox nb A B) (k : keepsBox nb B C) : keepsBox nb A C := Eq.trans k h
theorem keepsBox_b {nb : Nat} {w : World} (hn : nb < w.heap.size) (W : World) (l : Nat) (o o' : Obj) (hl : w.heap.size ≤ l) (h : W.heap[l]? = some o) (_ : o.isCells = false) (_ : o.isWalk = false) : keepsBox nb W (W.putObj l o') :=
  World.cell?_of_block (w := W) (putObj_ne W l nb o' (by omega))
end Go.Proofs.Ytckopikeegegkaa
