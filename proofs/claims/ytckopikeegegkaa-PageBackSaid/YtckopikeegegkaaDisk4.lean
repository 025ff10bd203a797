/- DISK 4: the contract of New. -/
import Derived.Test.YtckopikeegegkaaDisk3
namespace Go.Proofs.Ytckopikeegegkaa
open Go.RowKit Go.MapKept
set_option linter.unusedSimpArgs false
set_option linter.unusedVariables false

theorem range_rows (Z : List Value) (k : Nat) (hk : Z.length = k) (h0 : 0 < k) : ∀ n, (List.range (n * k)).map (fun i => Z.toArray[i % k]!) = (List.replicate n Z).flatten
  | 0 => by simp
  | n + 1 => by
    rw [Nat.succ_mul, List.range_add, List.map_append, range_rows Z k hk h0 n, List.replicate_succ', List.flatten_append]
    congr 1
    simp only [List.map_map, List.flatten_cons, List.flatten_nil, List.append_nil]
    apply List.ext_getElem
    · simp [hk]
    · intro i h1 h2
      have hi : i < k := by simpa using h1
      simp only [List.getElem_map, List.getElem_range, Function.comp]
      rw [show (n * k + i) % k = i by rw [Nat.mul_comm, Nat.mul_add_mod]; exact Nat.mod_eq_of_lt hi]
      simp [h2]

theorem wpl_make {P : Program} {o : Oper} {ops : Array Oper} {rest : List Oper} {a : Act} {w : World} {Q : Exit → Act → World → Prop} (t e : TypeId) (l c : Operand) (ho : o.op = .makeSlice t l c) (n k by_ : Nat) (Z : List Value) (z : Value)
    (hl : a.eval l = .int .i64 n) (hc : a.eval c = .int .i64 n) (hu : P.underlying t = some (.slice e)) (hi : (P.info? e).map (fun i => (i.zero, i.size, i.bytes)) = some (some z, k, by_)) (hz : z.cells = Z.toArray) (hk : Z.length = k) (h0 : 0 < k)
    (hb : (by_ : Int) * n ≤ 281474976710656) (hn : (n : Int) ≤ 9223372036854775807) (hgd : o.guard = none)
    (h : wpList P ops Q rest (a.put o.dst (.slice (some ⟨w.heap.size, 0, none⟩) n n)) (w.alloc (.cells (List.replicate n Z).flatten.toArray e))) : wpList P ops Q (o :: rest) a w := by
  refine wpl_run (s := Instr.makeSlice t (a.eval l) (a.eval c)) (by simp only [execOp, ho]) ?_ hgd h
  obtain ⟨i, hi', hz0, hz1, hz2⟩ := info_parts hi
  have hr := run_make (P := P) w t e i z hu hi' hz0 .i64 .i64 n n (by omega) (Int.le_refl _) (by rw [hz2]; exact hb) hn
  have hcell : madeCells z.cells ((n : Int).toNat * i.size) = (List.replicate n Z).flatten.toArray := by
    apply Array.ext'
    rw [← range_rows Z k hk h0 n]
    simp [madeCells, hz, hk, hz1]
  rw [hl, hc, hr, hcell, Int.toNat_natCast]

/-- A value in a new variable. -/
theorem wpl_box {P : Program} {o : Oper} {ops : Array Oper} {rest : List Oper} {a : Act} {w : World} {Q : Exit → Act → World → Prop} (ty : TypeId) (x : Operand) (ho : o.op = .box ty x) (L : List Value)
    (hx : (a.eval x).cells = L.toArray) (hgd : o.guard = none) (h : wpList P ops Q rest (a.put o.dst (.pointer (some ⟨w.heap.size, 0, none⟩))) (w.alloc (.cells L.toArray ty))) : wpList P ops Q (o :: rest) a w := by
  refine wpl_run (s := Instr.box ty (a.eval x)) (by simp only [execOp, ho]) ?_ hgd h
  simp [Instr.box, newVar, newRow, hx, Result.andThen]
theorem made_rows (n : Nat) : (List.replicate n Z64).flatten = (List.replicate n (List.replicate 64 (0 : UInt8))).flatMap encB := by
  induction n with
  | zero => rfl
  | succ n ih => simp only [List.replicate_succ, List.flatten_cons, List.flatMap_cons, ih]; rfl

theorem zero_wf {n : Nat} (h0 : 1 ≤ n) (h1 : n ≤ 4096) : (Dk.zero n).Wf :=
  ⟨fun s hs => by simp [Dk.zero] at hs; rw [hs.2]; rfl, by simp [Dk.zero], by simp [Dk.zero], by simp [Dk.zero], by simpa [Dk.zero] using h0, by simpa [Dk.zero] using h1⟩
theorem info_sector : (Try.prog.info? 96).map (fun i => (i.zero, i.size, i.bytes)) = some (some (.agg Z64.toArray), 64, 64) := by kernel_rfl

set_option maxHeartbeats 400000 in
theorem new_bad (n : Int) (w : World) (hn : Dk.make n = none) :
    Calls Try.prog 16 #[.int .i64 n] w fun e w' => e = .returned (.tuple #[.pointer none, .int .i64 1]) ∧ w = w' := by
  by_cases h0 : n < 1
  · have k0 : decide (n < 1) = true := by simpa using h0
    go_enter Try.func16, Try.ntmps16
    go_wp2
    go_ret2
    exact ⟨rfl, rfl⟩
  · have k0 : decide (n < 1) = false := by simpa using h0
    have h1 : 4096 < n := by
      unfold Dk.make at hn
      split at hn
      · omega
      · cases hn
    have k1 : decide (4096 < n) = true := by simpa using h1
    go_enter Try.func16, Try.ntmps16
    go_wp2
    go_ret2
    exact ⟨rfl, rfl⟩
set_option maxHeartbeats 400000 in
theorem new_good (n : Int) (D : Dk) (w : World) (hn : Dk.make n = some D) :
    Calls Try.prog 16 #[.int .i64 n] w fun e w' => ∃ p q m, e = .returned (.tuple #[.pointer (some ⟨p, 0, none⟩), .int .i64 0]) ∧ DiskAt w' p q m D ∧ Keeps noB w w' ∧ w.heap.size ≤ p ∧ w.heap.size ≤ q ∧ w.heap.size ≤ m := by
  have hb : ¬ (n < 1 ∨ 4096 < n) := by intro h; simp [Dk.make, h] at hn
  have hD : D = Dk.zero n.toNat := by simp [Dk.make, hb] at hn; exact hn.symm
  subst hD
  obtain ⟨k, rfl⟩ : ∃ k : Nat, n = k := ⟨n.toNat, by omega⟩
  have b1 : 1 ≤ k := by omega
  have b2 : k ≤ 4096 := by omega
  have k0 : decide ((k : Int) < 1) = false := by simp; omega
  have k1 : decide (4096 < (k : Int)) = false := by simp; omega
  rw [Int.toNat_natCast]
  clear hn hb
  have hmm := @run_makeMap Try.prog
  have hfin : ∀ (w1 : World), w1.heap[w.heap.size]? = some (.cells (List.replicate k Z64).flatten.toArray 96) → w1.heap[w.heap.size + 1]? = some (.map #[] 0) →
      w1.heap[w.heap.size + 1 + 1]? = some (.cells #[.slice (some ⟨w.heap.size, 0, none⟩) k k, .map (some (w.heap.size + 1)), .int .i64 (-1)] 88) →
      DiskAt w1 (w.heap.size + 1 + 1) w.heap.size (w.heap.size + 1) (Dk.zero k) := by
    intro w1 h1 h2 h3
    refine ⟨⟨k, by simp [Dk.zero], by rw [h3]; simp [Dk.zero]⟩, ⟨[], by rw [h1, made_rows]; simp [Dk.zero]⟩, ⟨_, _, h2, ⟨by simp [Dk.zero], by simp, by simp⟩⟩, zero_wf b1 b2⟩
  have Hfin := Lib.hid hfin
  clear hfin
  go_enter Try.func16, Try.ntmps16
  go_wp2_with ((with_reducible apply wpl_make 85 96 (n := k) (k := 64) (by_ := 64) (Z := Z64) (z := .agg Z64.toArray) (hu := Try.underlying85) (hi := info_sector)); rfl; go_must (rfl; rfl; rfl; exact Z64_length; omega; omega; omega; rfl))
  go_ret2
  refine ⟨w.heap.size + 1 + 1, w.heap.size, w.heap.size + 1, rfl, Hfin.out _ (by simp (disch := (first | (simp only [World.size_alloc, World.size_setCell, World.size_drew, size_setRow, heap_drew, heap_drewN]; done) | ((try simp only [World.size_alloc, World.size_setCell, World.size_drew, size_setRow, heap_drew, heap_drewN]); omega))) only [heap_drew, heap_drewN, heap_alloc_ne, heap_alloc_eq, heap_setCell_ne, heap_setRow_ne]) (by simp (disch := (first | (simp only [World.size_alloc, World.size_setCell, World.size_drew, size_setRow, heap_drew, heap_drewN]; done) | ((try simp only [World.size_alloc, World.size_setCell, World.size_drew, size_setRow, heap_drew, heap_drewN]); omega))) only [heap_drew, heap_drewN, heap_alloc_ne, heap_alloc_eq, heap_setCell_ne, heap_setRow_ne]) (by simp (disch := (first | (simp only [World.size_alloc, World.size_setCell, World.size_drew, size_setRow, heap_drew, heap_drewN]; done) | ((try simp only [World.size_alloc, World.size_setCell, World.size_drew, size_setRow, heap_drew, heap_drewN]); omega))) only [heap_drew, heap_drewN, heap_alloc_ne, heap_alloc_eq, heap_setCell_ne, heap_setRow_ne]), (((Keeps.refl _ _).alloc _).alloc _).alloc _, by omega, by omega, by omega⟩
end Go.Proofs.Ytckopikeegegkaa
