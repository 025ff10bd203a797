/- A sector put into the map that is kept aside. -/
import Derived.Test.YtckopikeegegkaaLaws
import Derived.RangeFuncRecord
namespace Go.Proofs.Ytckopikeegegkaa
open Go.RowKit Go.MapKept

theorem put_new {n : Nat} {s : Str} : ∀ {A : List (Nat × Str)}, Dk.look n A = none → (Dk.put n s A).Perm ((n, s) :: A)
  | [], _ => List.Perm.refl _
  | p :: l, h => by
    unfold Dk.look at h
    split at h
    · cases h
    · rename_i e
      unfold Dk.put
      split
      · exact List.Perm.refl _
      · exact ((put_new h).cons p).trans (List.Perm.swap _ _ _)
theorem put_old {n : Nat} {s t : Str} : ∀ {A : List (Nat × Str)}, A.Pairwise (fun p q => p.1 < q.1) → Dk.look n A = some t →
    ∃ R, A.Perm ((n, t) :: R) ∧ (Dk.put n s A).Perm ((n, s) :: R)
  | p :: l, hr, h => by
    unfold Dk.look at h
    unfold Dk.put
    by_cases e : p.1 = n
    · rw [if_pos e] at h
      cases h
      subst e
      refine ⟨l, List.Perm.refl _, ?_⟩
      rw [if_neg (by omega), if_pos rfl]
    · rw [if_neg e] at h
      have hlt : p.1 < n := (List.pairwise_cons.1 hr).1 _ (look_some h)
      rw [if_neg (by omega), if_neg e]
      obtain ⟨R, h1, h2⟩ := put_old (s := s) (List.pairwise_cons.1 hr).2 h
      exact ⟨p :: R, (h1.cons p).trans (List.Perm.swap _ _ _), (h2.cons p).trans (List.Perm.swap _ _ _)⟩
theorem put_mem {n : Nat} {s : Str} {q : Nat × Str} : ∀ {A : List (Nat × Str)}, q ∈ Dk.put n s A → q = (n, s) ∨ q ∈ A
  | [], h => by simp [Dk.put] at h; exact .inl h
  | p :: l, h => by
    unfold Dk.put at h
    split at h
    · rcases List.mem_cons.1 h with h | h
      · exact .inl h
      · exact .inr h
    · split at h
      · rcases List.mem_cons.1 h with h | h
        · exact .inl h
        · exact .inr (List.mem_cons_of_mem _ h)
      · rcases List.mem_cons.1 h with h | h
        · exact .inr (by rw [h]; exact List.mem_cons_self)
        · rcases put_mem h with h | h
          · exact .inl h
          · exact .inr (List.mem_cons_of_mem _ h)
theorem put_rises {n : Nat} {s : Str} : ∀ {A : List (Nat × Str)}, A.Pairwise (fun p q => p.1 < q.1) → (Dk.put n s A).Pairwise (fun p q => p.1 < q.1)
  | [], _ => by simp [Dk.put]
  | p :: l, h => by
    obtain ⟨h1, h2⟩ := List.pairwise_cons.1 h
    unfold Dk.put
    split
    · rename_i e
      refine List.pairwise_cons.2 ⟨fun q hq => ?_, h⟩
      rcases List.mem_cons.1 hq with rfl | hq
      · exact e
      · have := h1 q hq; simp only; omega
    · split
      · rename_i e
        refine List.pairwise_cons.2 ⟨fun q hq => ?_, h2⟩
        have := h1 q hq; simp only; omega
      · refine List.pairwise_cons.2 ⟨fun q hq => ?_, put_rises h2⟩
        rcases put_mem hq with rfl | hq
        · simp only; omega
        · exact h1 q hq

theorem list_set_perm {α : Type} (v : α) : ∀ (L : List α) (i : Nat) (x : α), L[i]? = some x → ∃ R, L.Perm (x :: R) ∧ (L.set i v).Perm (v :: R)
  | a :: l, 0, x, h => by simp at h; subst h; exact ⟨l, List.Perm.refl _, List.Perm.refl _⟩
  | a :: l, i + 1, x, h => by
    obtain ⟨R, h1, h2⟩ := list_set_perm v l i x (by simpa using h)
    exact ⟨a :: R, (h1.cons a).trans (List.Perm.swap _ _ _), (h2.cons a).trans (List.Perm.swap _ _ _)⟩

theorem MapRep.put_found {es : Array MapEntry} {clock : Nat} {A : List (Nat × Str)} (h : MapRep es clock A) (hr : A.Pairwise (fun p q => p.1 < q.1)) {n i : Nat} {s t : Str} {e : MapEntry}
    (hl : Dk.look n A = some t) (he : es.toList[i]? = some e) (hk : e.key = .int .i64 n) (hv : e.val = arrB t) :
    MapRep (es.modify i fun e => { e with key := .int .i64 n, val := arrB s }) clock (Dk.put n s A) := by
  have hm : (es.modify i fun e => { e with key := Value.int .i64 n, val := arrB s }).toList = es.toList.set i { e with key := .int .i64 n, val := arrB s } := by
    apply List.ext_getElem?
    intro j
    simp only [Array.getElem?_toList, Array.getElem?_modify, List.getElem?_set]
    by_cases e1 : i = j
    · subst e1
      have : es[i]? = some e := by simpa using he
      have hlt : i < es.size := (Array.getElem?_eq_some_iff.1 this).1
      have h9 : es[i] = e := by
        have := this; rw [Array.getElem?_eq_getElem hlt] at this; exact Option.some.inj this
      simp [hlt, h9]
    · simp [e1]
  refine ⟨?_, ?_, ?_⟩
  · rw [hm, List.map_set]
    obtain ⟨R, h1, h2⟩ := list_set_perm (Value.int .i64 (n : Int), arrB s) (es.toList.map fun e => (e.key, e.val)) i (e.key, e.val) (by simp [he])
    obtain ⟨R', h3, h4⟩ := put_old (s := s) hr hl
    have h5 : ((e.key, e.val) :: R).Perm ((A.map entOf)) := h1.symm.trans h.perm
    have h6 : (A.map entOf).Perm (entOf (n, t) :: R'.map entOf) := h3.map entOf
    have h7 : (e.key, e.val) = entOf (n, t) := by simp [entOf, hk, hv]
    rw [h7] at h5
    have h8 := (h5.trans h6).cons_inv
    exact h2.trans ((h8.cons _).trans (h4.map entOf).symm)
  · rw [hm, List.map_set]
    have : (es.toList.map (·.born)).set i e.born = es.toList.map (·.born) := by
      apply List.ext_getElem?
      intro j
      simp only [List.getElem?_set, List.getElem?_map]
      by_cases e1 : i = j
      · subst e1
        simp only [he, if_true, Option.map_some]
        have := (List.getElem?_eq_some_iff.1 he).1
        simp at this
        simp [this]
      · simp [e1]
    simp only [this]
    exact h.born
  · rw [hm]
    intro x hx
    rcases List.mem_or_eq_of_mem_set hx with hx | rfl
    · exact h.old x hx
    · exact h.old e (List.mem_of_getElem? he)
theorem MapRep.put_fresh {es : Array MapEntry} {clock : Nat} {A : List (Nat × Str)} (h : MapRep es clock A) {n : Nat} {s : Str} (hl : Dk.look n A = none) :
    MapRep (es.push { key := .int .i64 n, val := arrB s, born := clock }) (clock + 1) (Dk.put n s A) := by
  refine ⟨?_, ?_, ?_⟩
  · simp only [Array.toList_push, List.map_append, List.map_cons, List.map_nil]
    exact (List.perm_append_comm.trans ((h.perm.cons _))).trans ((put_new hl).map entOf).symm
  · simp only [Array.toList_push, List.map_append, List.map_cons, List.map_nil]
    refine List.nodup_append.2 ⟨h.born, by simp, ?_⟩
    intro a ha b hb
    obtain ⟨x, hx, rfl⟩ := List.mem_map.1 ha
    have := h.old x hx
    simp at hb
    omega
  · intro x hx
    simp only [Array.toList_push, List.mem_append, List.mem_singleton] at hx
    rcases hx with hx | rfl
    · have := h.old x hx; omega
    · simp

theorem putObj_eq (w : World) (r : Nat) (o : Obj) (h : r < w.heap.size) : (w.putObj r o).heap[r]? = some o := by simp [World.putObj, h]
theorem putObj_ne (w : World) (r k : Nat) (o : Obj) (h : k ≠ r) : (w.putObj r o).heap[k]? = w.heap[k]? := by
  simp [World.putObj, Ne.symm h]
theorem size_putObj (w : World) (r : Nat) (o : Obj) : (w.putObj r o).heap.size = w.heap.size := by simp [World.putObj]
theorem Keeps.putObj {S : Nat → Prop} {w w' : World} (h : Keeps S w w') {r : Nat} (hr : r < w.heap.size → S r) (o : Obj) : Keeps S w (w'.putObj r o) :=
  ⟨h.os, h.tape, h.output, by rw [size_putObj]; exact h.size, fun k hk hs => by
    have hne : k ≠ r := fun e => hs (by rw [e]; exact hr (by rw [← e]; exact hk))
    rw [putObj_ne _ _ _ _ hne]; exact h.block k hk hs⟩

theorem run_mapUpdate_disk {P : Program} {w : World} {m mt et : Nat} {es : Array MapEntry} {clock : Nat} {A : List (Nat × Str)} (hu : P.underlying mt = some (.map 3 et)) (hi : P.underlying 3 = some (.int .i64))
    (hm : w.heap[m]? = some (.map es clock)) (hR : MapRep es clock A) (hr : A.Pairwise (fun p q => p.1 < q.1)) (n : Nat) (s : Str) :
    ∃ es' clock', MapRep es' clock' (Dk.put n s A) ∧ (Instr.mapUpdate mt (.map (some m)) (.int .i64 n) (arrB s)).run P w = .ok () (w.putObj m (.map es' clock')) := by
  have hc := run_checkKey (P := P) (w := w) hi (k := .int .i64 n) (by simp [IsKey]) false 9999
  rcases hR.find hr n with ⟨h1, h2⟩ | ⟨t, i, e, h1, h2, h3, h4, h5⟩
  · refine ⟨_, _, hR.put_fresh (s := s) h1, ?_⟩
    have hf := run_findKey (P := P) (w := w) hi h2
    simp [Instr.mapUpdate, run_underlying hu, Go.MapKept.run_getObj_map hm, hc, hf, Go.MapKept.run_setObj_map _ hm, World.putObj]
  · refine ⟨_, _, hR.put_found (s := s) hr h1 h3 h4 h5, ?_⟩
    have hf := run_findKey (P := P) (w := w) hi h2
    have hk : ((es[i]?).map (·.key)).getD (.int .i64 n) = .int .i64 n := by
      have : es[i]? = some e := by simpa using h3
      simp [this, h4]
    have hs : ∀ W, (Instr.keyThatStays (.int .i64 n) (.int .i64 n)).run P W = .ok (.int .i64 n) W := by
      intro W; simp [Instr.keyThatStays, Instr.sameBits]
    simp [Instr.mapUpdate, run_underlying hu, Go.MapKept.run_getObj_map hm, hc, hf, hk, hs, Go.MapKept.run_setObj_map _ hm, World.putObj]
end Go.Proofs.Ytckopikeegegkaa
