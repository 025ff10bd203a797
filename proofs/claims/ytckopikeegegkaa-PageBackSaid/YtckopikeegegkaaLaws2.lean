/- LAWS 2: a string as bytes; a slice as an array; the store into the map of a disk. -/
import Derived.Test.YtckopikeegegkaaMapPut
import Derived.StillTailTactics
namespace Go.Proofs.Ytckopikeegegkaa
open Go.RowKit Go.MapKept
section
variable {P : Program} {o : Oper} {ops : Array Oper} {rest : List Oper} {a : Act} {w : World} {Q : Exit → Act → World → Prop}

theorem freeze_heap_ne (w : World) (a : Addr) (n k : Nat) (h : k ≠ a.block) : (w.freeze a n).heap[k]? = w.heap[k]? := by
  unfold World.freeze
  split
  · rfl
  · simp only [Array.getElem?_modify]; rw [if_neg (fun e => h e.symm)]
theorem keeps_bytesWorld (w : World) (e : TypeId) (s : ByteArray) : Keeps noB w (Lib.bytesWorld w e s) :=
  ⟨by unfold Lib.bytesWorld World.freeze; split <;> rfl, by unfold Lib.bytesWorld World.freeze; split <;> rfl, by unfold Lib.bytesWorld World.freeze; split <;> rfl,
   by rw [Lib.bytesWorld_size]; omega, fun k hk _ => Lib.bytesWorld_at_old w e s k hk⟩
theorem bytesCells_eq (w : World) (e : TypeId) (s : Str) : ∃ L, Lib.bytesCells w e (bs s) = (encB s ++ L).toArray := by
  refine ⟨List.replicate (grownCap w s.length 0 e - s.length) (.int .u8 0), ?_⟩
  simp [Lib.bytesCells, bs, encB, ByteArray.size]
theorem wpl_toBytes (src dst e : TypeId) (x : Operand) (ho : o.op = .convert src dst x) (s : Str) (hx : a.eval x = .string (bs s)) {u : TypeDesc}
    (hs : P.underlying src = some u) (hd : P.underlying dst = some (.slice e)) (he : P.underlying e = some (.int .u8)) (hgd : o.guard = none)
    (h : ∀ w1 cap L fr, w1.heap[w.heap.size]? = some (.cells (encB s ++ L).toArray e fr) → Keeps noB w w1 → w1.heap.size = w.heap.size + 1 →
      wpList P ops Q rest (a.put o.dst (.slice (some ⟨w.heap.size, 0, none⟩) s.length cap)) w1) : wpList P ops Q (o :: rest) a w := by
  obtain ⟨L, hL⟩ := bytesCells_eq w e s
  have hr := Lib.run_convert_string_bytes (P := P) w src dst e (bs s) hs hd he
  have hz : (bs s).size = s.length := by simp [bs, ByteArray.size]
  rw [hz] at hr
  have hc := Lib.bytesWorld_at_new w e (bs s)
  rw [hL] at hc
  exact wpl_run (s := convert src dst (a.eval x)) (by simp only [execOp, ho]) (by rw [hx]; exact hr) hgd (h _ _ L _ hc (keeps_bytesWorld _ _ _) (Lib.bytesWorld_size _ _ _))
theorem wpl_arrayOf (arr : TypeId) (x : Operand) (ho : o.op = .sliceToArrayPointer arr x) (ad : Option Addr) (len cap n : Nat) (et : TypeId) (hx : a.eval x = .slice ad len cap)
    (hu : P.underlying arr = some (.array n et)) (hl : n ≤ len) (hgd : o.guard = none) (h : wpList P ops Q rest (a.put o.dst (.pointer ad)) w) : wpList P ops Q (o :: rest) a w := by
  refine wpl_run (s := Instr.arrayAt arr (a.eval x)) (by simp only [execOp, ho]) ?_ hgd h
  have : ¬ len < n := by omega
  simp [Instr.arrayAt, hx, run_underlying hu, this, Result.andThen]
theorem wpl_mapPut (mt et m : TypeId) (x y z : Operand) (ho : o.op = .mapUpdate mt x y z) (n : Nat) (s : Str) {es : Array MapEntry} {clock : Nat} {A : List (Nat × Str)}
    (hu : P.underlying mt = some (.map 3 et)) (hi : P.underlying 3 = some (.int .i64)) (hR : MapRep es clock A) (hr : A.Pairwise (fun p q => p.1 < q.1))
    (hx : a.eval x = .map (some m)) (hy : a.eval y = .int .i64 n) (hz : a.eval z = .agg (encB s).toArray) (hm : w.heap[m]? = some (.map es clock)) (hgd : o.guard = none)
    (h : ∀ es' clock', MapRep es' clock' (Dk.put n s A) → wpList P ops Q rest (a.put o.dst undef) (w.putObj m (.map es' clock'))) : wpList P ops Q (o :: rest) a w := by
  obtain ⟨es', clock', h1, h2⟩ := run_mapUpdate_disk (P := P) hu hi hm hR hr n s
  exact wpl_runU (s := Instr.mapUpdate mt (a.eval x) (a.eval y) (a.eval z)) (by simp only [execOp, ho]) (by rw [hx, hy, hz]; exact h2) hgd (h _ _ h1)
end
end Go.Proofs.Ytckopikeegegkaa
