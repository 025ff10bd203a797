/- LAWS 5: for Crash: a key that is there looked up; an array's first bytes; bytes copied from row to row; a slice of bools. -/
import Derived.Test.YtckopikeegegkaaDisk6
namespace Go.Proofs.Ytckopikeegegkaa
open Go.RowKit Go.MapKept
theorem run_lookup1 {w : World} {m : Nat} {es : Array MapEntry} {clock : Nat} {A : List (Nat × Str)} (hm : w.heap[m]? = some (.map es clock)) (hR : MapRep es clock A) (hr : A.Pairwise (fun p q => p.1 < q.1)) (n : Nat) {s : Str} (hl : Dk.look n A = some s) :
    (Instr.lookup 86 (.map (some m)) (.int .i64 n) false).run Try.prog w = .ok (arrB s) w := by
  have hc := run_checkKey (P := Try.prog) (w := w) Try.underlying3 (k := .int .i64 n) (by simp [IsKey]) es.isEmpty 9999
  rcases hR.find hr n with ⟨h1, _⟩ | ⟨s2, i, e, h1, h2, h3, h4, h5⟩
  · rw [hl] at h1; cases h1
  · rw [hl] at h1; cases h1
    have hf := run_findKey (P := Try.prog) (w := w) Try.underlying3 h2
    simp [Instr.lookup, run_underlying Try.underlying86, Go.MapKept.run_getObj_map hm, hc, hf]
theorem run_sliceArrHi {P : Program} (t et : TypeId) (n sz b off : Nat) (y : Int) (hi : Nat) (w : World) (hu : P.underlying t = some (.array n et)) (hs : ∀ w, (sizeOf et).run P w = .ok sz w) (ey : y = hi) (h0 : 0 < n) (h2 : hi ≤ n) :
    (Instr.sliceAt t (.pointer (some ⟨b, off, none⟩)) none (some (.int .i64 y)) none).run P w = .ok (.slice (some ⟨b, off, none⟩) hi n) w := by
  subst ey
  have e1 : (0 : Int) ≤ (hi : Int) ∧ (hi : Int) ≤ (n : Int) := ⟨by omega, by omega⟩
  have e4 : ¬ n < hi := by omega
  have e3 : ¬ n = 0 := by omega
  simp [Instr.sliceAt, run_underlying hu, Instr.sureAddr, Instr.sliceBounds, Instr.sliceBound, asIntOf, Result.andThen, e1, hs, addr_add, h2]
theorem run_copyRow {P : Program} {w : World} (dT sT et rT : TypeId) (b off c soff n cap cap2 : Nat) (L M : List Value) (t t2 : TypeId) (fr : Nat × Nat) (hu : P.underlying dT = some (.slice et)) (hs : ∀ w, (sizeOf et).run P w = .ok 1 w)
    (hb : w.heap[b]? = some (.cells L.toArray t (0, 0))) (hc : w.heap[c]? = some (.cells M.toArray t2 fr)) (hl : off + n ≤ L.length) (hm : soff + n ≤ M.length) (h1 : ∀ v ∈ M, v.oneCell' = true) :
    (Builtin.copy_ #[dT, sT] rT #[.slice (some ⟨b, off, none⟩) n cap, .slice (some ⟨c, soff, none⟩) n cap2]).run P w = .ok (.int .i64 n) (w.setRow b (L.take off ++ (M.drop soff).take n ++ L.drop (off + n)).toArray) := by
  have hld := run_loadCells_row (P := P) (w := w) c soff n M t2 fr hc hm
  have hlen : ((M.drop soff).take n).length = n := by simp; omega
  have hst := run_storeCells_at (P := P) b off t ((M.drop soff).take n) 0 L.toArray w hb (by rw [hlen]; simp; omega) (fun v hv => h1 v (List.mem_of_mem_drop (List.mem_of_mem_take hv)))
  rw [hlen] at hst
  simp only [Nat.add_zero] at hst
  simp [Builtin.copy_, run_underlying hu, Builtin.lenOf, Builtin.firstCells, hs, hld, goInt, Result.andThen] at hst ⊢
  rw [hst]

theorem wpl_copyRow {P : Program} {o : Oper} {ops : Array Oper} {rest : List Oper} {a : Act} {w : World} {Q : Exit → Act → World → Prop} (dT sT et : TypeId) (x y : Operand) (ho : o.op = .call { callee := .builtin .copy, args := #[x, y], argTypes := #[dT, sT] })
    (b off c soff n cap cap2 : Nat) (L M : List Value) (t t2 : TypeId) (fr : Nat × Nat) (hx : a.eval x = .slice (some ⟨b, off, none⟩) n cap) (hy : a.eval y = .slice (some ⟨c, soff, none⟩) n cap2) (hu : P.underlying dT = some (.slice et)) (hs : ∀ w, (sizeOf et).run P w = .ok 1 w)
    (hb : w.heap[b]? = some (.cells L.toArray t (0, 0))) (hc : w.heap[c]? = some (.cells M.toArray t2 fr)) (hl : off + n ≤ L.length) (hm : soff + n ≤ M.length) (h1 : ∀ v ∈ M, v.oneCell' = true) (hgd : o.guard = none)
    (h : wpList P ops Q rest (a.put o.dst (.int .i64 n)) (w.setRow b (L.take off ++ (M.drop soff).take n ++ L.drop (off + n)).toArray)) : wpList P ops Q (o :: rest) a w := by
  refine wpl_run (s := Builtin.copy_ #[dT, sT] o.type #[a.eval x, a.eval y]) ?_ ?_ hgd h
  · simp [execOp, ho, resolve, invoke, builtin]
  · rw [hx, hy]; exact run_copyRow dT sT et o.type b off c soff n cap cap2 L M t t2 fr hu hs hb hc hl hm h1
/-- What falls at one sector that was kept aside. -/
def fallStep (keep : List Bool) (torn : Int) (cut j : Nat) (p : Nat × Str) (t : List Str) : List Str :=
  if (j : Int) = torn then t.set p.1 (p.2.take cut ++ (t.getD p.1 []).drop cut) else if keep.getD j false then t.set p.1 p.2 else t
theorem fall_snoc (keep : List Bool) (torn : Int) (cut : Nat) (x : Nat × Str) : ∀ (A : List (Nat × Str)) (j : Nat) (t : List Str), Dk.fall keep torn cut j (A ++ [x]) t = fallStep keep torn cut (j + A.length) x (Dk.fall keep torn cut j A t)
  | [], j, t => rfl
  | p :: A, j, t => by
    simp only [List.cons_append, Dk.fall]
    rw [fall_snoc keep torn cut x A]
    simp only [List.length_cons]
    rw [show j + 1 + A.length = j + (A.length + 1) by omega]
theorem fall_length (keep : List Bool) (torn : Int) (cut : Nat) : ∀ (A : List (Nat × Str)) (j : Nat) (t : List Str), (Dk.fall keep torn cut j A t).length = t.length
  | [], j, t => rfl
  | p :: A, j, t => by
    simp only [Dk.fall]
    rw [fall_length keep torn cut A]
    split
    · rw [List.length_set]
    · split
      · rw [List.length_set]
      · rfl
theorem getD_64 {t : List Str} (ht : ∀ s ∈ t, s.length = 64) {n : Nat} (h : n < t.length) : (t.getD n []).length = 64 := by
  rw [List.getD_eq_getElem?_getD, List.getElem?_eq_getElem h]; exact ht _ (List.getElem_mem h)
theorem fall_64 (keep : List Bool) (torn : Int) {cut : Nat} (hcut : cut ≤ 64) : ∀ {A : List (Nat × Str)} {j : Nat} {t : List Str}, (∀ p ∈ A, p.1 < t.length ∧ p.2.length = 64) → (∀ s ∈ t, s.length = 64) → ∀ s ∈ Dk.fall keep torn cut j A t, s.length = 64
  | [], j, t, _, ht, s, hs => ht s hs
  | p :: A, j, t, hA, ht, s, hs => by
    obtain ⟨h1, h2⟩ := hA p List.mem_cons_self
    have hlen : ∀ x : Str, ∀ q ∈ A, q.1 < (t.set p.1 x).length ∧ q.2.length = 64 := fun x q hq => by rw [List.length_set]; exact hA q (List.mem_cons_of_mem _ hq)
    simp only [Dk.fall] at hs
    split at hs
    · refine fall_64 keep torn hcut (hlen _) (fun x hx => ?_) s hs
      rcases List.mem_or_eq_of_mem_set hx with hx | rfl
      · exact ht x hx
      · have := getD_64 ht h1
        rw [List.length_append, List.length_take, List.length_drop]; omega
    · split at hs
      · refine fall_64 keep torn hcut (hlen _) (fun x hx => ?_) s hs
        rcases List.mem_or_eq_of_mem_set hx with hx | rfl
        · exact ht x hx
        · exact h2
      · exact fall_64 keep torn hcut (fun q hq => hA q (List.mem_cons_of_mem _ hq)) ht s hs
/-- A slice of bools. -/
def BoolsAt (w : World) (v : Value) (l : List Bool) : Prop := (v = .slice none 0 0 ∧ l = []) ∨ ∃ a cap, v = .slice (some a) l.length cap ∧ ∀ i (h : i < l.length), w.cell? (a.add i) = some (.bool l[i])
end Go.Proofs.Ytckopikeegegkaa
