/- MAPRANGE: a map of sectors ranged over: which keys have come. -/
import Derived.Test.YtckopikeegegkaaMapPut
import Derived.Maps.RangeWalk
import Derived.Test.YtckopikeegegkaaLaws2
namespace Go.Proofs.Ytckopikeegegkaa
open Go.RowKit Go.MapKept Go.Maps
open Go.ChangeMaps (setBlock)
set_option linter.unusedVariables false

theorem inj_of_nodup_map {α β : Type} {f : α → β} : ∀ {l : List α}, (l.map f).Nodup → ∀ {x y : α}, x ∈ l → y ∈ l → f x = f y → x = y
  | a :: l, h, x, y, hx, hy, e => by
    simp only [List.map_cons, List.nodup_cons] at h
    rcases List.mem_cons.1 hx with rfl | hx1 <;> rcases List.mem_cons.1 hy with rfl | hy1
    · rfl
    · exact absurd (List.mem_map.2 ⟨y, hy1, e.symm⟩) h.1
    · exact absurd (List.mem_map.2 ⟨x, hx1, e⟩) h.1
    · exact inj_of_nodup_map h.2 hx1 hy1 e
theorem inj_of_perm {es : Array MapEntry} {clock : Nat} {A : List (Nat × Str)} (h : MapRep es clock A) (hr : A.Pairwise (fun p q => p.1 < q.1)) {x y : MapEntry} (hx : x ∈ es.toList) (hy : y ∈ es.toList) (e : x.key = y.key) : x = y := by
  have h1 : (es.toList.map (·.key)).Perm (A.map (fun p => Value.int .i64 (p.1 : Nat))) := by
    have := h.perm.map Prod.fst
    rw [List.map_map, List.map_map] at this
    exact this
  have h2 : (A.map (fun p => Value.int .i64 (p.1 : Nat))).Nodup := by
    rw [List.nodup_iff_pairwise_ne, List.pairwise_map]
    refine hr.imp (fun {a b} hab q => ?_)
    injection q with _ q
    omega
  exact inj_of_nodup_map (h1.nodup_iff.2 h2) hx hy e
/-- Block r ranges over the map b, that has A; the keys 'done' have come. -/
structure Ranging (w : World) (b r : Nat) (A : List (Nat × Str)) (done : List Nat) : Prop where
  ex : ∃ es clock since seen c0, w.heap[b]? = some (.map es clock) ∧ MapRep es clock A ∧ w.heap[r]? = some (.mapIter (some b) since seen c0) ∧ (∀ x ∈ es.toList, x.born < since) ∧
    (∀ x ∈ es.toList, seen.contains x.born = true ↔ ∃ n ∈ done, x.key = .int .i64 (n : Nat)) ∧ since ≤ c0 ∧ since ≤ clock
  nodup : done.Nodup
  keys : ∀ n ∈ done, n ∈ A.map (·.1)

theorem MapRep.inv {es : Array MapEntry} {clock : Nat} {A : List (Nat × Str)} (h : MapRep es clock A) {p : Nat × Str} (hp : p ∈ A) : ∃ e ∈ es.toList, e.key = .int .i64 p.1 ∧ e.val = arrB p.2 := by
  have := (h.perm.mem_iff (a := entOf p)).2 (List.mem_map.2 ⟨p, hp, rfl⟩)
  obtain ⟨e, he, hq⟩ := List.mem_map.1 this
  simp only [entOf, Prod.mk.injEq] at hq
  exact ⟨e, he, hq.1, hq.2⟩

theorem ranging_start {P : Program} {w : World} {b : Nat} {es : Array MapEntry} {clock : Nat} {A : List (Nat × Str)} (t k e : TypeId) (ht : P.underlying t = some (.map k e)) (hb : w.heap[b]? = some (.map es clock)) (hR : MapRep es clock A) :
    (Instr.range t (.map (some b))).run P w = .ok (.pointer (some ⟨w.heap.size, 0, none⟩)) (w.alloc (.mapIter (some b) clock #[] clock)) ∧ Ranging (w.alloc (.mapIter (some b) clock #[] clock)) b w.heap.size A [] := by
  have hlt : b < w.heap.size := (Array.getElem?_eq_some_iff.1 hb).1
  refine ⟨run_range_map w t k e b es clock ht hb, ⟨⟨es, clock, clock, #[], clock, ((MapKept.heap_alloc w _).2 b hlt).trans hb, hR, (MapKept.heap_alloc w _).1, hR.old, ?_, Nat.le_refl _, Nat.le_refl _⟩, List.nodup_nil, by simp⟩⟩
  intro x hx
  simp

/-- How many entries are still to come. -/
theorem ranging_next {P : Program} {w : World} {b r : Nat} {A : List (Nat × Str)} {done : List Nat} (h : Ranging w b r A done) (hr : A.Pairwise (fun p q => p.1 < q.1)) (ty : TypeId) :
    ((∀ n, n ∈ A.map (·.1) → n ∈ done) ∧ (Instr.next (.pointer (some ⟨r, 0, none⟩)) false ty).run P w = .ok (.tuple #[.bool false]) w) ∨
    ∃ n s w', (n, s) ∈ A ∧ n ∉ done ∧ (Instr.next (.pointer (some ⟨r, 0, none⟩)) false ty).run P w = .ok (.tuple #[.bool true, .int .i64 (n : Nat), arrB s]) w' ∧ Ranging w' b r A (done ++ [n]) ∧ w'.rangeLeft b r < w.rangeLeft b r ∧
      Keeps (fun k => k = r) w w' ∧ w'.heap.size = w.heap.size ∧ (Instr.entry (.pointer (some ⟨r, 0, none⟩))).run P w' = .ok (.tuple #[.int .i64 (n : Nat), arrB s]) w' := by
  obtain ⟨⟨es, clock, since, seen, c0, hb, hR, hi, hold, hseen, hsc, hsk⟩, hnd, hks⟩ := h
  have hne : b ≠ r := by intro e; subst e; rw [hb] at hi; cases hi
  rcases run_next_at (P := P) w ty r b since c0 seen es clock hi hb hold hsc with ⟨h0, hrun⟩ | ⟨e, he, w1, hal, hrun⟩
  · refine .inl ⟨fun n hn => ?_, hrun⟩
    obtain ⟨p, hp, rfl⟩ := List.mem_map.1 hn
    obtain ⟨x, hx, hk, _⟩ := hR.inv hp
    obtain ⟨n, hn, hk2⟩ := (hseen x hx).1 (all_seen es seen h0 x hx)
    rw [hk] at hk2
    injection hk2 with _ h3
    have : p.1 = n := by omega
    rw [this]; exact hn
  · obtain ⟨hem, hes⟩ := mem_left he
    obtain ⟨⟨n, s⟩, hp, hk, hv⟩ := hR.key hem
    dsimp only at hk hv
    have hr1 : w1.heap[r]? = some (.mapIter (some b) since seen c0) := by rcases hal with rfl | rfl <;> exact hi
    have hb1 : w1.heap[b]? = some (.map es clock) := by rcases hal with rfl | rfl <;> exact hb
    have hset := heap_set (o' := .mapIter (some b) since (seen.push e.born) clock) hr1
    have hb' : (setBlock w1 r (.mapIter (some b) since (seen.push e.born) clock)).heap[b]? = some (.map es clock) := (hset.2 b hne).trans hb1
    have hnd2 : n ∉ done := by
      intro q
      have := (hseen e hem).2 ⟨n, q, hk⟩
      rw [hes] at this; cases this
    refine .inr ⟨n, s, _, hp, hnd2, by rw [← hk, ← hv]; exact hrun, ⟨⟨es, clock, since, seen.push e.born, clock, hb', hR, hset.1, hold, ?_, hsk, hsk⟩, ?_, ?_⟩, ?_, ?_, ?_, ?_⟩
    · intro x hx
      rw [contains_push, Bool.or_eq_true, hseen x hx]
      constructor
      · rintro (⟨m, hm, hk2⟩ | hbn)
        · exact ⟨m, List.mem_append_left _ hm, hk2⟩
        · have : x = e := by
            have hb2 : x.born = e.born := by simpa using hbn
            exact inj_of_nodup_map hR.born hx hem hb2
          subst this
          exact ⟨n, by simp, hk⟩
      · rintro ⟨m, hm, hk2⟩
        rcases List.mem_append.1 hm with hm | hm
        · exact .inl ⟨m, hm, hk2⟩
        · right
          obtain rfl : m = n := by simpa using hm
          have : x = e := by
            obtain ⟨⟨n1, s1⟩, hp1, hk1, hv1⟩ := hR.key hx
            dsimp only at hk1 hv1
            rw [hk2] at hk1
            injection hk1 with _ h3
            obtain rfl : m = n1 := by omega
            have h4 := rises_inj hr hp hp1 rfl
            injection h4 with _ h5
            subst h5
            exact inj_of_perm hR hr hx hem (by rw [hk2, hk]) 
          subst this; simp
    · rw [List.nodup_append]
      refine ⟨hnd, by simp, ?_⟩
      intro a ha c hc
      obtain rfl : c = n := by simpa using hc
      intro q; subst q; exact hnd2 ha
    · intro m hm
      rcases List.mem_append.1 hm with hm | hm
      · exact hks m hm
      · obtain rfl : m = n := by simpa using hm
        exact List.mem_map.2 ⟨_, hp, rfl⟩
    · have l1 : w.rangeLeft b r = (leftOf es seen).size := by unfold World.rangeLeft; rw [hb, hi]
      have l2 : (setBlock w1 r (.mapIter (some b) since (seen.push e.born) clock)).rangeLeft b r = (leftOf es (seen.push e.born)).size := by
        unfold World.rangeLeft; rw [hb']; rw [show (setBlock w1 r (.mapIter (some b) since (seen.push e.born) clock)).heap[r]? = _ from hset.1]
      rw [l1, l2]; exact left_shrinks es seen e he
    · rcases hal with rfl | rfl <;> exact ⟨rfl, rfl, rfl, by simp [setBlock], fun i _ hi => hset.2 i hi⟩
    · rcases hal with rfl | rfl <;> simp [setBlock]
    · have := run_entry_at (P := P) (setBlock w1 r (.mapIter (some b) since (seen.push e.born) clock)) r b since seen es clock e hset.1 hb' hem hR.born
      rw [this, hk, hv]
end Go.Proofs.Ytckopikeegegkaa
