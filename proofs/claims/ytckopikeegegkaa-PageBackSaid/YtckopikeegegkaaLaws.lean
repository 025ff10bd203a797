/- LAWS: operations on arrays, maps and bytes, said of whole rows of cells. Over any program. -/
import Derived.Test.YtckopikeegegkaaMem
import Derived.Lib.ConvBytes
import Derived.Lib.Hide
import Derived.Deep.DeepMust
import Derived.Laws.CopyRow
namespace Go.Proofs.Ytckopikeegegkaa
open Go.RowKit Go.MapKept

theorem heap_alloc_eq (w : World) (o : Obj) (k : Nat) (h : k = w.heap.size) : (w.alloc o).heap[k]? = some o := by subst h; exact Go.heap_alloc_new w o
theorem heap_alloc_ne (w : World) (o : Obj) (k : Nat) (h : k ≠ w.heap.size) : (w.alloc o).heap[k]? = w.heap[k]? := by
  show (w.heap.push o)[k]? = _
  rw [Array.getElem?_push, if_neg h]
theorem heap_setCell_ne (w : World) (b i : Nat) (v : Value) (k : Nat) (h : k ≠ b) : (w.setCell ⟨b, i, none⟩ v).heap[k]? = w.heap[k]? := heap_setCell_other w _ k v h
theorem heap_setRow_ne (w : World) (b : Nat) (cs : Array Value) (k : Nat) (h : k ≠ b) : (w.setRow b cs).heap[k]? = w.heap[k]? := setRow_other w b k cs h
theorem heap_drewN (w : World) (n : Nat) : (w.drewN n).heap = w.heap := rfl
theorem setRow_alloc_top (w : World) (o : Array Value) (t : TypeId) (b : Nat) (cs : Array Value) (h : b = w.heap.size) : (w.alloc (.cells o t)).setRow b cs = w.alloc (.cells cs t) := by
  subst h
  simp only [World.setRow, World.alloc]
  congr 1
  apply Array.ext
  · simp
  · intro i h1 h2
    simp only [Array.getElem_modify, Array.getElem_push]
    simp at h1 h2
    by_cases e : w.heap.size = i
    · subst e; simp
    · rw [if_neg e]
      have : i < w.heap.size := by omega
      simp [this]
theorem setRow_alloc_under (w : World) (o : Obj) (b : Nat) (cs : Array Value) (h : b < w.heap.size) : (w.alloc o).setRow b cs = (w.setRow b cs).alloc o := by
  simp only [World.setRow, World.alloc]
  congr 1
  apply Array.ext
  · simp
  · intro i h1 h2
    simp only [Array.getElem_modify, Array.getElem_push]
    simp at h1 h2
    by_cases e : i < w.heap.size
    · simp [e]
    · have : b ≠ i := by omega
      simp [e, this]

def Z64 : List Value := encB (List.replicate 64 0)
theorem Z64_length : Z64.length = 64 := by simp [Z64, encB]

section
variable {P : Program} {o : Oper} {ops : Array Oper} {rest : List Oper} {a : Act} {w : World} {K : Act → World → Prop} {Q : Exit → Act → World → Prop}

theorem wpo_run {s : Sem Value} {v : Value} {w' : World} (ho : execOp a.eval o = (do pure (.value (← s)))) (hr : s.run P w = .ok v w')
    (h : K (a.put o.dst v) w') : o.wp P a w K Q := by
  unfold Oper.wp
  rw [ho]
  simp only [Sem.run_bind, hr, Result.andThen_ok, Sem.run_pure]
  exact h
theorem wpl_run {s : Sem Value} {v : Value} {w' : World} (ho : execOp a.eval o = (do pure (.value (← s)))) (hr : s.run P w = .ok v w')
    (hgd : o.guard = none) (h : wpList P ops Q rest (a.put o.dst v) w') : wpList P ops Q (o :: rest) a w :=
  wpList_plain hgd fun _ hK => wpo_run ho hr (hK _ _ h)

theorem wpo_runU {s : Sem Unit} {w' : World} (ho : execOp a.eval o = (do s; pure .skip)) (hr : s.run P w = .ok () w')
    (h : K (a.put o.dst undef) w') : o.wp P a w K Q := by
  unfold Oper.wp
  rw [ho]
  simp only [Sem.run_bind, hr, Result.andThen_ok, Sem.run_pure]
  exact h

theorem wpl_runU {s : Sem Unit} {w' : World} (ho : execOp a.eval o = (do s; pure .skip)) (hr : s.run P w = .ok () w')
    (hgd : o.guard = none) (h : wpList P ops Q rest (a.put o.dst undef) w') : wpList P ops Q (o :: rest) a w :=
  wpList_plain hgd fun _ hK => wpo_runU ho hr (hK _ _ h)

theorem wpo_alloc (ty : TypeId) (Z : List Value) (ho : o.op = .alloc ty) (hz : ∀ w, (zeroValue ty).run P w = .ok (.agg Z.toArray) w)
    (h : K (a.put o.dst (.pointer (some ⟨w.heap.size, 0, none⟩))) (w.alloc (.cells Z.toArray ty))) : o.wp P a w K Q := by
  refine wpo_run (s := Instr.alloc ty true (.tuple #[])) (by simp only [execOp, ho]) ?_ h
  simp [Instr.alloc, hz, newVar, newRow, Value.cells, Result.andThen]

theorem wpl_alloc (ty : TypeId) (Z : List Value) (ho : o.op = .alloc ty) (hz : ∀ w, (zeroValue ty).run P w = .ok (.agg Z.toArray) w)
    (hgd : o.guard = none) (h : wpList P ops Q rest (a.put o.dst (.pointer (some ⟨w.heap.size, 0, none⟩))) (w.alloc (.cells Z.toArray ty))) : wpList P ops Q (o :: rest) a w :=
  wpList_plain hgd fun _ hK => wpo_alloc ty Z ho hz (hK _ _ h)

theorem addr_add (b off j : Nat) : (⟨b, off, none⟩ : Addr).add j = ⟨b, off + j, none⟩ := by unfold Addr.add; split <;> simp_all
theorem run_loadCells_row (b off n : Nat) (L : List Value) (t : TypeId) (fr : Nat × Nat) (hb : w.heap[b]? = some (.cells L.toArray t fr)) (hl : off + n ≤ L.length) :
    (loadCells ⟨b, off, none⟩ n).run P w = .ok ((L.drop off).take n).toArray w := by
  have e : n = ((L.drop off).take n).length := by simp; omega
  have := run_loadCells_list (P := P) (w := w) ⟨b, off, none⟩ ((L.drop off).take n) (fun j v hv => by
    rw [addr_add]
    have hj : j < n := by
      have := (List.getElem?_eq_some_iff.1 hv).1
      simp at this; omega
    simp only [List.getElem?_take, List.getElem?_drop, hj, if_true] at hv
    simp [World.cell?, hb, hv])
  rw [← e] at this
  exact this

theorem wpo_load (ty : TypeId) (x : Operand) (n : Nat) (ho : o.op = .load ty x) (b off : Nat) (hx : a.eval x = .pointer (some ⟨b, off, none⟩))
    (hg : ∀ w, (isAgg ty).run P w = .ok true w) (hs : ∀ w, (sizeOf ty).run P w = .ok n w) (L : List Value) (t : TypeId) (fr : Nat × Nat)
    (hb : w.heap[b]? = some (.cells L.toArray t fr)) (hl : off + n ≤ L.length)
    (h : K (a.put o.dst (.agg ((L.drop off).take n).toArray)) w) : o.wp P a w K Q := by
  refine wpo_run (s := Instr.loadAt ty (a.eval x)) (by simp only [execOp, ho]) ?_ h
  simp [Instr.loadAt, hx, Instr.sureAddr, loadVar, hg, hs, run_loadCells_row b off n L t fr hb hl, Result.andThen]

theorem wpl_load (ty : TypeId) (x : Operand) (n : Nat) (ho : o.op = .load ty x) (b off : Nat) (hx : a.eval x = .pointer (some ⟨b, off, none⟩))
    (hg : ∀ w, (isAgg ty).run P w = .ok true w) (hs : ∀ w, (sizeOf ty).run P w = .ok n w) (L : List Value) (t : TypeId) (fr : Nat × Nat)
    (hb : w.heap[b]? = some (.cells L.toArray t fr)) (hl : off + n ≤ L.length)
    (hgd : o.guard = none) (h : wpList P ops Q rest (a.put o.dst (.agg ((L.drop off).take n).toArray)) w) : wpList P ops Q (o :: rest) a w :=
  wpList_plain hgd fun _ hK => wpo_load ty x n ho b off hx hg hs L t fr hb hl (hK _ _ h)

theorem wpo_store (ty : TypeId) (x y : Operand) (n : Nat) (ho : o.op = .store ty x y) (b off : Nat) (vs : List Value) (hx : a.eval x = .pointer (some ⟨b, off, none⟩)) (hy : a.eval y = .agg vs.toArray)
    (hs : ∀ w, (sizeOf ty).run P w = .ok n w) (L : List Value) (t : TypeId)
    (hb : w.heap[b]? = some (.cells L.toArray t (0, 0))) (hv : vs.length = n) (h1 : ∀ v ∈ vs, v.oneCell' = true) (hl : off + n ≤ L.length)
    (h : K (a.put o.dst undef) (w.setRow b (L.take off ++ vs ++ L.drop (off + vs.length)).toArray)) : o.wp P a w K Q := by
  have hst := run_storeCells_at (P := P) b off t vs 0 L.toArray w hb (by simp; omega) h1
  refine wpo_runU (s := Instr.storeAt ty (a.eval x) (a.eval y)) (by simp only [execOp, ho]) ?_ h
  simp only [Nat.add_zero] at hst
  simp [Instr.storeAt, hx, hy, Instr.sureAddr, storeVar, hs, Value.cells, hv, Result.andThen] at hst ⊢
  exact hst

theorem wpl_store (ty : TypeId) (x y : Operand) (n : Nat) (ho : o.op = .store ty x y) (b off : Nat) (vs : List Value) (hx : a.eval x = .pointer (some ⟨b, off, none⟩)) (hy : a.eval y = .agg vs.toArray)
    (hs : ∀ w, (sizeOf ty).run P w = .ok n w) (L : List Value) (t : TypeId)
    (hb : w.heap[b]? = some (.cells L.toArray t (0, 0))) (hv : vs.length = n) (h1 : ∀ v ∈ vs, v.oneCell' = true) (hl : off + n ≤ L.length)
    (hgd : o.guard = none) (h : wpList P ops Q rest (a.put o.dst undef) (w.setRow b (L.take off ++ vs ++ L.drop (off + vs.length)).toArray)) : wpList P ops Q (o :: rest) a w :=
  wpList_plain hgd fun _ hK => wpo_store ty x y n ho b off vs hx hy hs L t hb hv h1 hl (hK _ _ h)

/-- A whole row is stored. -/
theorem wpo_store_all (ty : TypeId) (x y : Operand) (n : Nat) (ho : o.op = .store ty x y) (b : Nat) (vs : List Value) (hx : a.eval x = .pointer (some ⟨b, 0, none⟩)) (hy : a.eval y = .agg vs.toArray)
    (hs : ∀ w, (sizeOf ty).run P w = .ok n w) (L : List Value) (t : TypeId)
    (hb : w.heap[b]? = some (.cells L.toArray t (0, 0))) (hv : vs.length = n) (h1 : ∀ v ∈ vs, v.oneCell' = true) (hl : L.length = n)
    (h : K (a.put o.dst undef) (w.setRow b vs.toArray)) : o.wp P a w K Q := by
  refine wpo_store ty x y n ho b 0 vs hx hy hs L t hb hv h1 (by omega) ?_
  have e : L.take 0 ++ vs ++ L.drop (0 + vs.length) = vs := by
    rw [List.drop_of_length_le (by omega)]; simp
  rw [e]; exact h
theorem wpl_store_all (ty : TypeId) (x y : Operand) (n : Nat) (ho : o.op = .store ty x y) (b : Nat) (vs : List Value) (hx : a.eval x = .pointer (some ⟨b, 0, none⟩)) (hy : a.eval y = .agg vs.toArray)
    (hs : ∀ w, (sizeOf ty).run P w = .ok n w) (L : List Value) (t : TypeId)
    (hb : w.heap[b]? = some (.cells L.toArray t (0, 0))) (hv : vs.length = n) (h1 : ∀ v ∈ vs, v.oneCell' = true) (hl : L.length = n)
    (hgd : o.guard = none) (h : wpList P ops Q rest (a.put o.dst undef) (w.setRow b vs.toArray)) : wpList P ops Q (o :: rest) a w :=
  wpList_plain hgd fun _ hK => wpo_store_all ty x y n ho b vs hx hy hs L t hb hv h1 hl (hK _ _ h)

/-- A whole row is loaded. -/
theorem wpo_load_all (ty : TypeId) (x : Operand) (n : Nat) (ho : o.op = .load ty x) (b : Nat) (hx : a.eval x = .pointer (some ⟨b, 0, none⟩))
    (hg : ∀ w, (isAgg ty).run P w = .ok true w) (hs : ∀ w, (sizeOf ty).run P w = .ok n w) (L : List Value) (t : TypeId) (fr : Nat × Nat)
    (hb : w.heap[b]? = some (.cells L.toArray t fr)) (hl : L.length = n)
    (h : K (a.put o.dst (.agg L.toArray)) w) : o.wp P a w K Q := by
  refine wpo_load ty x n ho b 0 hx hg hs L t fr hb (by omega) ?_
  have e : (L.drop 0).take n = L := by rw [List.drop_zero, List.take_of_length_le (by omega)]
  rw [e]; exact h
theorem wpl_load_all (ty : TypeId) (x : Operand) (n : Nat) (ho : o.op = .load ty x) (b : Nat) (hx : a.eval x = .pointer (some ⟨b, 0, none⟩))
    (hg : ∀ w, (isAgg ty).run P w = .ok true w) (hs : ∀ w, (sizeOf ty).run P w = .ok n w) (L : List Value) (t : TypeId) (fr : Nat × Nat)
    (hb : w.heap[b]? = some (.cells L.toArray t fr)) (hl : L.length = n)
    (hgd : o.guard = none) (h : wpList P ops Q rest (a.put o.dst (.agg L.toArray)) w) : wpList P ops Q (o :: rest) a w :=
  wpList_plain hgd fun _ hK => wpo_load_all ty x n ho b hx hg hs L t fr hb hl (hK _ _ h)

/-- An array's element's address, behind a slice of arrays. -/
theorem wpo_index_rows (ty : TypeId) (x y : Operand) (ho : o.op = .indexAddr ty x y) (et : TypeId) (n b len cap : Nat) (i : Nat) (hx : a.eval x = .slice (some ⟨b, 0, none⟩) len cap) (hy : a.eval y = .int .i64 i)
    (hu : P.underlying ty = some (.slice et)) (hs : ∀ w, (sizeOf et).run P w = .ok n w) (hi : i < len)
    (h : K (a.put o.dst (.pointer (some ⟨b, i * n, none⟩))) w) : o.wp P a w K Q := by
  refine wpo_run (s := Instr.indexAt ty (a.eval x) (a.eval y)) (by simp only [execOp, ho]) ?_ h
  have e : (0 : Int) ≤ (i : Int) ∧ (i : Int) < (len : Int) := ⟨by omega, by omega⟩
  simp [Instr.indexAt, hx, hy, asIntOf, run_underlying hu, hs, Result.andThen, e, addr_add]
  intro h'; omega
theorem wpl_index_rows (ty : TypeId) (x y : Operand) (ho : o.op = .indexAddr ty x y) (et : TypeId) (n b len cap : Nat) (i : Nat) (hx : a.eval x = .slice (some ⟨b, 0, none⟩) len cap) (hy : a.eval y = .int .i64 i)
    (hu : P.underlying ty = some (.slice et)) (hs : ∀ w, (sizeOf et).run P w = .ok n w) (hi : i < len)
    (hgd : o.guard = none) (h : wpList P ops Q rest (a.put o.dst (.pointer (some ⟨b, i * n, none⟩))) w) : wpList P ops Q (o :: rest) a w :=
  wpList_plain hgd fun _ hK => wpo_index_rows ty x y ho et n b len cap i hx hy hu hs hi (hK _ _ h)


theorem foldl_bytes (s : Str) : ∀ (r : ByteArray), (s.map fun b => (b.toNat : Int)).foldl (fun r n => r.push (UInt8.ofNat n.toNat)) r = ⟨r.data ++ s.toArray⟩ := by
  induction s with
  | nil => intro r; simp
  | cons b s ih =>
    intro r
    simp only [List.map_cons, List.foldl_cons]
    rw [ih]
    have e : UInt8.ofNat ((b.toNat : Int)).toNat = b := by simp
    rw [e]
    simp [ByteArray.push]
theorem run_bytes (src dst e : TypeId) (b off n cap : Nat) (L : List Value) (t : TypeId) (fr : Nat × Nat) (s : Str)
    (hs : P.underlying src = some (.slice e)) (he : P.underlying e = some (.int .u8)) (hd : P.underlying dst = some .string)
    (hb : w.heap[b]? = some (.cells L.toArray t fr)) (hl : off + n ≤ L.length) (hv : (L.drop off).take n = encB s) :
    (convert src dst (.slice (some ⟨b, off, none⟩) n cap)).run P w = .ok (.string (bs s)) w := by
  rw [run_convert_bytes_string w src dst e _ _ _ hs he hd]
  have h := run_loadCells_row (P := P) (w := w) b off n L t fr hb hl
  rw [hv] at h
  have e2 : encB s = (s.map fun b => (b.toNat : Int)).map (Value.int .u8) := by simp [encB]
  rw [e2] at h
  rw [run_bytesToString w ⟨b, off, none⟩ n cap _ h, foldl_bytes]
  simp [bs]
theorem wpl_bytes (src dst e : TypeId) (x : Operand) (ho : o.op = .convert src dst x) (b off n cap : Nat) (hx : a.eval x = .slice (some ⟨b, off, none⟩) n cap) (L : List Value) (t : TypeId) (fr : Nat × Nat) (s : Str)
    (hs : P.underlying src = some (.slice e)) (he : P.underlying e = some (.int .u8)) (hd : P.underlying dst = some .string)
    (hb : w.heap[b]? = some (.cells L.toArray t fr)) (hl : off + n ≤ L.length) (hv : (L.drop off).take n = encB s)
    (hgd : o.guard = none) (h : wpList P ops Q rest (a.put o.dst (.string (bs s))) w) : wpList P ops Q (o :: rest) a w :=
  wpl_run (s := convert src dst (a.eval x)) (by simp only [execOp, ho]) (by rw [hx]; exact run_bytes src dst e b off n cap L t fr s hs he hd hb hl hv) hgd h
/-- The whole of a row as a string. -/
theorem wpl_bytes_all (src dst e : TypeId) (x : Operand) (ho : o.op = .convert src dst x) (b n cap : Nat) (hx : a.eval x = .slice (some ⟨b, 0, none⟩) n cap) (t : TypeId) (fr : Nat × Nat) (s : Str)
    (hs : P.underlying src = some (.slice e)) (he : P.underlying e = some (.int .u8)) (hd : P.underlying dst = some .string)
    (hb : w.heap[b]? = some (.cells (encB s).toArray t fr)) (hl : s.length = n)
    (hgd : o.guard = none) (h : wpList P ops Q rest (a.put o.dst (.string (bs s))) w) : wpList P ops Q (o :: rest) a w :=
  wpl_bytes src dst e x ho b 0 n cap hx (encB s) t fr s hs he hd hb (by rw [encB_length]; omega) (by rw [List.drop_zero, List.take_of_length_le (by rw [encB_length]; omega)]) hgd h
end
theorem results_all {P : Program} {fn : Func} {p : Tmp} {ty : TypeId} (h : fn.results = #[.cell p ty]) (tmps : Array Value) (w : World) (b : Nat) (L : List Value) (t : TypeId) (fr : Nat × Nat) (n : Nat)
    (hp : tmps.getD p undef = .pointer (some ⟨b, 0, none⟩)) (hg : ∀ w, (isAgg ty).run P w = .ok true w) (hs : ∀ w, (sizeOf ty).run P w = .ok n w)
    (hb : w.heap[b]? = some (.cells L.toArray t fr)) (hl : L.length = n) : (results fn tmps).run P w = .ok (.agg L.toArray) w := by
  have hp' : tmps[p]?.getD undef = .pointer (some ⟨b, 0, none⟩) := by simpa using hp
  have hr := run_loadCells_row (P := P) (w := w) b 0 n L t fr hb (by omega)
  rw [List.drop_zero, List.take_of_length_le (by omega)] at hr
  simp [results, h, hp', asAddr, loadVar, hg, hs, hr, Result.andThen]
end Go.Proofs.Ytckopikeegegkaa
