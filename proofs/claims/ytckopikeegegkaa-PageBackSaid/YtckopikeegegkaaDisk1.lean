/- DISK 1: the contracts of is, now, burn, Read. -/
import Derived.Test.YtckopikeegegkaaLaws
namespace Go.Proofs.Ytckopikeegegkaa
open Go.RowKit Go.MapKept
set_option linter.unusedSimpArgs false
set_option linter.unusedVariables false
variable {p q m : Nat} {D : Dk}

theorem run_lookup_disk {w : World} {es : Array MapEntry} {clock : Nat} {A : List (Nat × Str)} (hm : w.heap[m]? = some (.map es clock)) (hR : MapRep es clock A)
    (hr : A.Pairwise (fun p q => p.1 < q.1)) (n : Nat) :
    (Instr.lookup 86 (.map (some m)) (.int .i64 n) true).run Try.prog w =
      .ok (.tuple #[arrB ((Dk.look n A).getD (List.replicate 64 0)), .bool (Dk.look n A).isSome]) w := by
  have hz : (zeroValue 96).run Try.prog w = .ok (arrB (List.replicate 64 0)) w := by rw [Try.zeroValue96]; rfl
  have hc := run_checkKey (P := Try.prog) (w := w) Try.underlying3 (k := .int .i64 n) (by simp [IsKey]) es.isEmpty 9999
  rcases hR.find hr n with ⟨h1, h2⟩ | ⟨s, i, e, h1, h2, _⟩
  · have hf := run_findKey (P := Try.prog) (w := w) Try.underlying3 h2
    simp [Instr.lookup, run_underlying Try.underlying86, Go.MapKept.run_getObj_map hm, hc, hf, hz, h1]
  · have hf := run_findKey (P := Try.prog) (w := w) Try.underlying3 h2
    simp [Instr.lookup, run_underlying Try.underlying86, Go.MapKept.run_getObj_map hm, hc, hf, h1]

set_option maxHeartbeats 400000 in
theorem is_calls (n : Int) (w : World) (h : DiskAt w p q m D) :
    Calls Try.prog 56 #[.pointer (some ⟨p, 0, none⟩), .int .i64 n] w fun e w' => e = .returned (.int .i64 (if D.has n then 0 else 5)) ∧ w = w' := by
  obtain ⟨cap, hc, c0, c1, c2, hf⟩ := h.cells
  by_cases h0 : n < 0
  · have e : D.has n = false := by unfold Dk.has; simp; omega
    rw [e]
    have k0 : decide (n < 0) = true := by simpa using h0
    go_enter Try.func56, Try.ntmps56
    go_wp2
    go_ret
    exact ⟨rfl, rfl⟩
  · have k0 : decide (n < 0) = false := by simpa using h0
    by_cases h1 : n < D.there.length
    · have e : D.has n = true := by unfold Dk.has; simp; omega
      rw [e]
      go_enter Try.func56, Try.ntmps56
      go_wp2
      go_ret
      exact ⟨rfl, rfl⟩
    · have e : D.has n = false := by unfold Dk.has; simp; omega
      rw [e]
      go_enter Try.func56, Try.ntmps56
      go_wp2
      go_ret
      exact ⟨rfl, rfl⟩

set_option maxHeartbeats 400000 in
theorem is_nil (n : Int) (w : World) :
    Calls Try.prog 56 #[.pointer none, .int .i64 n] w fun e w' => e = .returned (.int .i64 2) ∧ w = w' := by
  go_enter Try.func56, Try.ntmps56
  go_wp2
  go_ret
  exact ⟨rfl, rfl⟩


theorem zero_sector (w : World) : (zeroValue 96).run Try.prog w = .ok (.agg Z64.toArray) w := by rw [Try.zeroValue96]; rfl

theorem wpo_lookup_some {o : Oper} {a : Act} {w : World} {K : Act → World → Prop} {Q : Exit → Act → World → Prop} (x y : Operand) (ho : o.op = .lookup 86 x y true) {es : Array MapEntry} {clock : Nat} {A : List (Nat × Str)} {n : Nat}
    (hR : MapRep es clock A) (hr : A.Pairwise (fun p q => p.1 < q.1)) {s : Str} (hl : Dk.look n A = some s) (hx : a.eval x = .map (some m)) (hy : a.eval y = .int .i64 n) (hm : w.heap[m]? = some (.map es clock))
    (h : K (a.put o.dst (.tuple #[.agg (encB s).toArray, .bool true])) w) : o.wp Try.prog a w K Q :=
  wpo_run (s := Instr.lookup 86 (a.eval x) (a.eval y) true) (by simp only [execOp, ho]) (by rw [hx, hy, run_lookup_disk hm hR hr n, hl]; rfl) h
theorem wpl_lookup_some {o : Oper} {a : Act} {w : World} {ops : Array Oper} {rest : List Oper} {Q : Exit → Act → World → Prop} (x y : Operand) (ho : o.op = .lookup 86 x y true) {es : Array MapEntry} {clock : Nat} {A : List (Nat × Str)} {n : Nat}
    (hR : MapRep es clock A) (hr : A.Pairwise (fun p q => p.1 < q.1)) {s : Str} (hl : Dk.look n A = some s) (hx : a.eval x = .map (some m)) (hy : a.eval y = .int .i64 n) (hm : w.heap[m]? = some (.map es clock))
    (hgd : o.guard = none) (h : wpList Try.prog ops Q rest (a.put o.dst (.tuple #[.agg (encB s).toArray, .bool true])) w) : wpList Try.prog ops Q (o :: rest) a w :=
  wpList_plain hgd fun _ hK => wpo_lookup_some x y ho hR hr hl hx hy hm (hK _ _ h)

theorem wpo_lookup_none {o : Oper} {a : Act} {w : World} {K : Act → World → Prop} {Q : Exit → Act → World → Prop} (x y : Operand) (ho : o.op = .lookup 86 x y true) {es : Array MapEntry} {clock : Nat} {A : List (Nat × Str)} {n : Nat}
    (hR : MapRep es clock A) (hr : A.Pairwise (fun p q => p.1 < q.1)) (hl : Dk.look n A = none) (hx : a.eval x = .map (some m)) (hy : a.eval y = .int .i64 n) (hm : w.heap[m]? = some (.map es clock))
    (h : K (a.put o.dst (.tuple #[.agg Z64.toArray, .bool false])) w) : o.wp Try.prog a w K Q :=
  wpo_run (s := Instr.lookup 86 (a.eval x) (a.eval y) true) (by simp only [execOp, ho]) (by rw [hx, hy, run_lookup_disk hm hR hr n, hl]; rfl) h

theorem wpl_lookup_none {o : Oper} {a : Act} {w : World} {ops : Array Oper} {rest : List Oper} {Q : Exit → Act → World → Prop} (x y : Operand) (ho : o.op = .lookup 86 x y true) {es : Array MapEntry} {clock : Nat} {A : List (Nat × Str)} {n : Nat}
    (hR : MapRep es clock A) (hr : A.Pairwise (fun p q => p.1 < q.1)) (hl : Dk.look n A = none) (hx : a.eval x = .map (some m)) (hy : a.eval y = .int .i64 n) (hm : w.heap[m]? = some (.map es clock))
    (hgd : o.guard = none) (h : wpList Try.prog ops Q rest (a.put o.dst (.tuple #[.agg Z64.toArray, .bool false])) w) : wpList Try.prog ops Q (o :: rest) a w :=
  wpList_plain hgd fun _ hK => wpo_lookup_none x y ho hR hr hl hx hy hm (hK _ _ h)

theorem there_split {L : List Str} (h : ∀ s ∈ L, s.length = 64) (n : Nat) (hn : n < L.length) (rest : List Value) :
    ((L.flatMap encB ++ rest).drop (n * 64)).take 64 = encB (L.getD n []) ∧ n * 64 + 64 ≤ (L.flatMap encB ++ rest).length := by
  induction L generalizing n with
  | nil => simp at hn
  | cons s L ih =>
    have hs : (encB s).length = 64 := (encB_length s).trans (h s (by simp))
    cases n with
    | zero =>
      constructor
      · simp only [List.flatMap_cons, List.append_assoc, Nat.zero_mul, List.drop_zero, List.getD_cons_zero]
        rw [List.take_append_of_le_length (by omega), List.take_of_length_le (by omega)]
      · simp only [List.flatMap_cons, List.append_assoc, List.length_append]; omega
    | succ n =>
      obtain ⟨h1, h2⟩ := ih (fun t ht => h t (by simp [ht])) n (by simpa using hn)
      constructor
      · simp only [List.flatMap_cons, List.append_assoc, List.getD_cons_succ]
        rw [show (n + 1) * 64 = (encB s).length + n * 64 by omega, List.drop_append, List.drop_of_length_le (by omega), List.nil_append, Nat.add_sub_cancel_left]
        exact h1
      · simp only [List.flatMap_cons, List.append_assoc, List.length_append] at h2 ⊢; omega

set_option maxHeartbeats 400000 in
theorem now_calls (n : Nat) (w : World) (h : DiskAt w p q m D) (hn : n < D.there.length) :
    Calls Try.prog 57 #[.pointer (some ⟨p, 0, none⟩), .int .i64 n] w fun e w' => e = .returned (.agg (encB (D.now n)).toArray) ∧ Keeps noB w w' := by
  obtain ⟨cap, hc, c0, c1, c2, hf⟩ := h.cells
  obtain ⟨es, clock, hm, hR⟩ := h.kept
  have lm := h.lt_m
  have lp := h.lt_p
  have lq := h.lt_q
  cases hl : Dk.look n D.aside with
  | some s =>
    have hs : s.length = 64 := (h.wf.aside _ (look_some hl)).2
    have hfin : D.now n = s := by simp [Dk.now, hl]
    rw [hfin]
    have Hl := Lib.hid hl; clear hl hfin
    go_enter Try.func57, Try.ntmps57
    go_wp2_with (first | (with_reducible refine wpl_alloc 96 Z64 rfl zero_sector rfl ?_) | ((with_reducible apply wpl_lookup_some (m := m) (hR := hR) (hr := h.wf.rises) (hl := Hl.out)); rfl; rfl; rfl; (simp (disch := (first | (simp only [World.size_alloc, World.size_setCell, World.size_drew, size_setRow, heap_drew, heap_drewN]; done) | ((try simp only [World.size_alloc, World.size_setCell, World.size_drew, size_setRow, heap_drew, heap_drewN]); omega))) only [heap_drew, heap_drewN, heap_alloc_ne, heap_alloc_eq, heap_setCell_ne, heap_setRow_ne]; exact hm); rfl) | ((with_reducible apply wpl_store_all 96 (n := 64) (vs := encB s) (hs := Try.sizeOf96) (L := Z64) (t := 96)); rfl; go_must (rfl; rfl; simp (disch := (first | (simp only [World.size_alloc, World.size_setCell, World.size_drew, size_setRow, heap_drew, heap_drewN]; done) | ((try simp only [World.size_alloc, World.size_setCell, World.size_drew, size_setRow, heap_drew, heap_drewN]); omega))) only [heap_drew, heap_drewN, heap_alloc_ne, heap_alloc_eq, heap_setCell_ne, heap_setRow_ne]; exact (encB_length s).trans hs; exact encB_one _; exact Z64_length; rfl; simp (disch := (first | (simp only [World.size_alloc, World.size_setCell, World.size_drew, size_setRow, heap_drew, heap_drewN]; done) | ((try simp only [World.size_alloc, World.size_setCell, World.size_drew, size_setRow, heap_drew, heap_drewN]); omega))) only [setRow_alloc_top, setRow_alloc_under])) | ((with_reducible apply wpl_load_all 96 (n := 64) (hg := Try.isAgg96) (hs := Try.sizeOf96) (L := encB s) (t := 96) (fr := (0, 0))); rfl; rfl; (simp (disch := (first | (simp only [World.size_alloc, World.size_setCell, World.size_drew, size_setRow, heap_drew, heap_drewN]; done) | ((try simp only [World.size_alloc, World.size_setCell, World.size_drew, size_setRow, heap_drew, heap_drewN]); omega))) only [heap_drew, heap_drewN, heap_alloc_ne, heap_alloc_eq, heap_setCell_ne, heap_setRow_ne]); exact (encB_length s).trans hs; rfl))
    exact bodyPost_ret (results_all rfl _ _ w.heap.size (encB s) 96 (0, 0) 64 rfl Try.isAgg96 Try.sizeOf96 (by simp (disch := (first | (simp only [World.size_alloc, World.size_setCell, World.size_drew, size_setRow, heap_drew, heap_drewN]; done) | ((try simp only [World.size_alloc, World.size_setCell, World.size_drew, size_setRow, heap_drew, heap_drewN]); omega))) only [heap_drew, heap_drewN, heap_alloc_ne, heap_alloc_eq, heap_setCell_ne, heap_setRow_ne]) ((encB_length s).trans hs)) rfl ⟨rfl, ((Keeps.refl _ _).alloc _).alloc _⟩
  | none =>
    have hs : (D.there.getD n []).length = 64 := by
      have : D.there.getD n [] = D.there[n] := by simp [List.getD, hn]
      rw [this]; exact h.wf.there _ (List.getElem_mem hn)
    have hfin : D.now n = D.there.getD n [] := by simp [Dk.now, hl]
    rw [hfin]
    obtain ⟨rest, hrow⟩ := h.row
    obtain ⟨r1, r2⟩ := there_split h.wf.there n hn rest
    have Hl := Lib.hid hl; clear hl hfin
    have R1 := Lib.hid r1; clear r1
    generalize hL : D.there.flatMap encB ++ rest = L at *
    generalize hS : D.there.getD n [] = s at *
    have HL := Lib.hid hL; clear hL
    have HS := Lib.hid hS; clear hS
    go_enter Try.func57, Try.ntmps57
    go_wp2_with (first | (with_reducible refine wpl_alloc 96 Z64 rfl zero_sector rfl ?_) | ((with_reducible apply wpl_lookup_none (m := m) (hR := hR) (hr := h.wf.rises) (hl := Hl.out)); rfl; rfl; rfl; (simp (disch := (first | (simp only [World.size_alloc, World.size_setCell, World.size_drew, size_setRow, heap_drew, heap_drewN]; done) | ((try simp only [World.size_alloc, World.size_setCell, World.size_drew, size_setRow, heap_drew, heap_drewN]); omega))) only [heap_drew, heap_drewN, heap_alloc_ne, heap_alloc_eq, heap_setCell_ne, heap_setRow_ne]; exact hm); rfl) | ((with_reducible apply wpl_store_all 96 (n := 64) (vs := Z64) (hs := Try.sizeOf96) (L := Z64) (t := 96)); rfl; rfl; rfl; simp (disch := (first | (simp only [World.size_alloc, World.size_setCell, World.size_drew, size_setRow, heap_drew, heap_drewN]; done) | ((try simp only [World.size_alloc, World.size_setCell, World.size_drew, size_setRow, heap_drew, heap_drewN]); omega))) only [heap_drew, heap_drewN, heap_alloc_ne, heap_alloc_eq, heap_setCell_ne, heap_setRow_ne]; exact Z64_length; exact encB_one _; exact Z64_length; rfl; simp (disch := (first | (simp only [World.size_alloc, World.size_setCell, World.size_drew, size_setRow, heap_drew, heap_drewN]; done) | ((try simp only [World.size_alloc, World.size_setCell, World.size_drew, size_setRow, heap_drew, heap_drewN]); omega))) only [setRow_alloc_top, setRow_alloc_under]) | ((with_reducible apply wpl_index_rows 85 (et := 96) (n := 64) (hu := Try.underlying85) (hs := Try.sizeOf96)); rfl; rfl; rfl; exact hn; rfl) | ((with_reducible apply wpl_load 96 (n := 64) (hg := Try.isAgg96) (hs := Try.sizeOf96) (L := L) (t := 96) (fr := (0, 0))); rfl; go_must (rfl; simp (disch := (first | (simp only [World.size_alloc, World.size_setCell, World.size_drew, size_setRow, heap_drew, heap_drewN]; done) | ((try simp only [World.size_alloc, World.size_setCell, World.size_drew, size_setRow, heap_drew, heap_drewN]); omega))) only [heap_drew, heap_drewN, heap_alloc_ne, heap_alloc_eq, heap_setCell_ne, heap_setRow_ne]; exact hrow; exact r2; rfl; rw [R1.out])) | ((with_reducible apply wpl_store_all 96 (n := 64) (vs := encB s) (hs := Try.sizeOf96) (L := Z64) (t := 96)); rfl; go_must (rfl; rfl; simp (disch := (first | (simp only [World.size_alloc, World.size_setCell, World.size_drew, size_setRow, heap_drew, heap_drewN]; done) | ((try simp only [World.size_alloc, World.size_setCell, World.size_drew, size_setRow, heap_drew, heap_drewN]); omega))) only [heap_drew, heap_drewN, heap_alloc_ne, heap_alloc_eq, heap_setCell_ne, heap_setRow_ne]; exact (encB_length s).trans hs; exact encB_one _; exact Z64_length; rfl; simp (disch := (first | (simp only [World.size_alloc, World.size_setCell, World.size_drew, size_setRow, heap_drew, heap_drewN]; done) | ((try simp only [World.size_alloc, World.size_setCell, World.size_drew, size_setRow, heap_drew, heap_drewN]); omega))) only [setRow_alloc_top, setRow_alloc_under])))
    exact bodyPost_ret (results_all rfl _ _ w.heap.size (encB s) 96 (0, 0) 64 rfl Try.isAgg96 Try.sizeOf96 (by simp (disch := (first | (simp only [World.size_alloc, World.size_setCell, World.size_drew, size_setRow, heap_drew, heap_drewN]; done) | ((try simp only [World.size_alloc, World.size_setCell, World.size_drew, size_setRow, heap_drew, heap_drewN]); omega))) only [heap_drew, heap_drewN, heap_alloc_ne, heap_alloc_eq, heap_setCell_ne, heap_setRow_ne]) ((encB_length s).trans hs)) rfl ⟨rfl, ((Keeps.refl _ _).alloc _).alloc _⟩
theorem now_length (h : D.Wf) {n : Nat} (hn : n < D.there.length) : (D.now n).length = 64 := by
  unfold Dk.now
  cases hl : Dk.look n D.aside with
  | some s => exact (h.aside _ (look_some hl)).2
  | none =>
    have : D.there.getD n [] = D.there[n] := by simp [List.getD, hn]
    simp only [Option.getD_none]
    rw [this]; exact h.there _ (List.getElem_mem hn)

set_option maxHeartbeats 400000 in
theorem read_calls (n : Int) (w : World) (h : DiskAt w p q m D) :
    Calls Try.prog 24 #[.pointer (some ⟨p, 0, none⟩), .int .i64 n] w fun e w' => e = .returned (.tuple #[.string (bs (D.read n).1), .int .i64 (D.read n).2]) ∧ Keeps noB w w' := by
  cases hh : D.has n with
  | false =>
    have hfin : D.read n = ([], 5) := by simp [Dk.read, hh]
    rw [hfin]
    have hi := is_calls n w h
    rw [hh] at hi
    clear hfin hh
    go_enter Try.func24, Try.ntmps24
    go_wp2_with (go_at_call 56; refine hi.mono ?_; rintro e w' ⟨rfl, rfl⟩)
    go_ret2
    exact ⟨rfl, Keeps.refl _ _⟩
  | true =>
    obtain ⟨k, rfl⟩ : ∃ k : Nat, n = k := ⟨n.toNat, by unfold Dk.has at hh; simp at hh; omega⟩
    have hk : k < D.there.length := by unfold Dk.has at hh; simp at hh; exact hh
    have hfin : D.read k = (D.now k, 0) := by simp [Dk.read, hh]
    rw [hfin]
    have hi := is_calls k w h
    rw [hh] at hi
    have hw := now_calls k w h hk
    have hs : (D.now k).length = 64 := now_length h.wf hk
    generalize D.now k = s at *
    clear hfin hh
    go_enter Try.func24, Try.ntmps24
    go_wp2_with (first | (go_at_call 56; refine hi.mono ?_; rintro e w' ⟨rfl, rfl⟩) | (go_at_call 57; refine hw.mono ?_; rintro e w' ⟨rfl, hK⟩) | (with_reducible refine wpl_alloc 96 Z64 rfl zero_sector rfl ?_) | ((with_reducible apply wpl_store_all 96 (n := 64) (vs := encB s) (hs := Try.sizeOf96) (L := Z64) (t := 96)); rfl; go_must (rfl; rfl; simp (disch := (first | (simp only [World.size_alloc, World.size_setCell, World.size_drew, size_setRow, heap_drew, heap_drewN]; done) | ((try simp only [World.size_alloc, World.size_setCell, World.size_drew, size_setRow, heap_drew, heap_drewN]); omega))) only [heap_drew, heap_drewN, heap_alloc_ne, heap_alloc_eq, heap_setCell_ne, heap_setRow_ne]; exact (encB_length s).trans hs; exact encB_one _; exact Z64_length; rfl; simp (disch := (first | (simp only [World.size_alloc, World.size_setCell, World.size_drew, size_setRow, heap_drew, heap_drewN]; done) | ((try simp only [World.size_alloc, World.size_setCell, World.size_drew, size_setRow, heap_drew, heap_drewN]); omega))) only [setRow_alloc_top, setRow_alloc_under])) | ((with_reducible apply wpl_bytes_all 35 9 5 (t := 96) (fr := (0, 0)) (s := s) (hs := Try.underlying35) (he := Try.underlying5) (hd := Try.underlying9)); rfl; go_must (rfl; (simp (disch := (first | (simp only [World.size_alloc, World.size_setCell, World.size_drew, size_setRow, heap_drew, heap_drewN]; done) | ((try simp only [World.size_alloc, World.size_setCell, World.size_drew, size_setRow, heap_drew, heap_drewN]); omega))) only [heap_drew, heap_drewN, heap_alloc_ne, heap_alloc_eq, heap_setCell_ne, heap_setRow_ne]); exact hs; rfl)))
    go_ret2
    exact ⟨rfl, hK.alloc _⟩
end Go.Proofs.Ytckopikeegegkaa
