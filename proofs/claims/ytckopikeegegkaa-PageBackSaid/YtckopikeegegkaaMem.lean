/- MEM: what lies in memory: bytes as cells, the frame of a call, a disk. -/
import Derived.Test.YtckopikeegegkaaRows
import Derived.WalkKit
import Derived.WalkSpells
import Derived.WalkLawsBesides
import Derived.MapKept
import Derived.Test.YtckopikeegegkaaPure1
namespace Go.Proofs.Ytckopikeegegkaa
open Go.RowKit Go.MapKept

def encB (l : Str) : List Value := l.map fun b => .int .u8 b.toNat
abbrev arrB (l : Str) : Value := .agg (encB l).toArray
theorem encB_length (l : Str) : (encB l).length = l.length := by simp [encB]
theorem encB_append (a b : Str) : encB (a ++ b) = encB a ++ encB b := by simp [encB]
theorem encB_one (l : Str) : ∀ v ∈ encB l, v.oneCell' = true := by
  intro v hv; obtain ⟨b, _, rfl⟩ := List.mem_map.1 hv; rfl

@[simp, go_sem] theorem bs_size (l : Str) : (bs l).size = l.length := by simp [bs, ByteArray.size]
@[simp] theorem bs_data (l : Str) : (bs l).data.toList = l := by simp [bs]
theorem bs_of (s : ByteArray) : bs s.data.toList = s := by simp [bs]
theorem bs_inj {a b : Str} : bs a = bs b ↔ a = b := ⟨fun h => by simpa [bs] using congrArg (fun x : ByteArray => x.data.toList) h, fun h => by rw [h]⟩
/-- All blocks but those of S are as they were; nothing has gone. -/
structure Keeps (S : Nat → Prop) (w w' : World) : Prop where
  os : w'.os = w.os
  tape : w'.tape = w.tape
  output : w'.output = w.output
  size : w.heap.size ≤ w'.heap.size
  block : ∀ k, k < w.heap.size → ¬ S k → w'.heap[k]? = w.heap[k]?
def noB : Nat → Prop := fun _ => False
namespace Keeps
variable {S : Nat → Prop} {w w' w'' : World}
theorem refl (S : Nat → Prop) (w : World) : Keeps S w w := ⟨rfl, rfl, rfl, Nat.le_refl _, fun _ _ _ => rfl⟩
theorem trans (h : Keeps S w w') (k : Keeps S w' w'') : Keeps S w w'' :=
  ⟨k.os.trans h.os, k.tape.trans h.tape, k.output.trans h.output, Nat.le_trans h.size k.size,
   fun i hi hs => (k.block i (Nat.lt_of_lt_of_le hi h.size) hs).trans (h.block i hi hs)⟩
theorem mono {T : Nat → Prop} (h : Keeps S w w') (hT : ∀ k, k < w.heap.size → S k → T k) : Keeps T w w' :=
  ⟨h.os, h.tape, h.output, h.size, fun i hi hs => h.block i hi (fun q => hs (hT i hi q))⟩
theorem drew (h : Keeps S w w') : Keeps S w w'.drew := ⟨h.os, h.tape, h.output, h.size, h.block⟩
theorem alloc (h : Keeps S w w') (o : Obj) : Keeps S w (w'.alloc o) :=
  h.trans ⟨rfl, rfl, rfl, by simp, fun k hk _ => Below.heap_alloc _ _ _ hk⟩
theorem setCell (h : Keeps S w w') {a : Addr} (ha : a.block < w.heap.size → S a.block) (v : Value) : Keeps S w (w'.setCell a v) :=
  ⟨h.os, h.tape, h.output, by simpa using h.size, fun k hk hs => by
    have e : k ≠ a.block := fun e => hs (e ▸ ha (e ▸ hk))
    rw [Below.heap_setCell _ _ _ _ e]; exact h.block k hk hs⟩
theorem setRow (h : Keeps S w w') {b : Nat} (ha : b < w.heap.size → S b) (cs : Array Value) : Keeps S w (w'.setRow b cs) :=
  ⟨h.os, h.tape, h.output, by simpa using h.size, fun k hk hs => by
    have e : k ≠ b := fun e => hs (e ▸ ha (e ▸ hk))
    rw [setRow_other _ _ _ _ e]; exact h.block k hk hs⟩
theorem below (h : Keeps noB w w') : Below w.heap.size w w' := ⟨h.os, h.tape, h.output, h.size, fun k hk => h.block k hk (fun q => q)⟩
theorem of_below (h : Below w.heap.size w w') : Keeps noB w w' := ⟨h.os, h.tape, h.output, h.size, fun k hk _ => h.block k hk⟩
theorem of_below' {B : Nat} (h : Below B w w') (hB : w.heap.size ≤ B) : Keeps noB w w' := of_below (h.mono hB)
theorem cell (h : Keeps S w w') {b : Nat} (o : Nat) (hb : b < w.heap.size) (hs : ¬ S b) : w'.cell? ⟨b, o, none⟩ = w.cell? ⟨b, o, none⟩ :=
  World.cell?_of_block (w := w) (h.block b hb hs)
theorem frozen (h : Keeps S w w') {b : Nat} (o : Nat) (hb : b < w.heap.size) (hs : ¬ S b) : w'.frozen? ⟨b, o, none⟩ = w.frozen? ⟨b, o, none⟩ :=
  World.frozen?_of_block (w := w) (h.block b hb hs)
end Keeps
theorem keeps_drewN (w : World) (n : Nat) : Keeps noB w (w.drewN n) := ⟨rfl, rfl, rfl, Nat.le_refl _, fun _ _ _ => rfl⟩

/-! ### A map of sectors -/
def entOf (p : Nat × Str) : Value × Value := (.int .i64 p.1, arrB p.2)
structure MapRep (es : Array MapEntry) (clock : Nat) (A : List (Nat × Str)) : Prop where
  perm : (es.toList.map fun e => (e.key, e.val)).Perm (A.map entOf)
  born : (es.toList.map (·.born)).Nodup
  old : ∀ e ∈ es.toList, e.born < clock
theorem MapRep.key {es : Array MapEntry} {clock : Nat} {A : List (Nat × Str)} (h : MapRep es clock A) {e : MapEntry} (he : e ∈ es.toList) :
    ∃ p ∈ A, e.key = .int .i64 p.1 ∧ e.val = arrB p.2 := by
  have := (h.perm.mem_iff (a := (e.key, e.val))).1 (List.mem_map.2 ⟨e, he, rfl⟩)
  obtain ⟨p, hp, hq⟩ := List.mem_map.1 this
  simp only [entOf, Prod.mk.injEq] at hq
  exact ⟨p, hp, hq.1.symm, hq.2.symm⟩
theorem look_some {n : Nat} {s : Str} : ∀ {A : List (Nat × Str)}, Dk.look n A = some s → (n, s) ∈ A
  | p :: l, h => by
    unfold Dk.look at h
    split at h
    · rename_i e; cases h; subst e; exact List.mem_cons_self
    · exact List.mem_cons_of_mem _ (look_some h)
theorem look_none {n : Nat} : ∀ {A : List (Nat × Str)}, Dk.look n A = none → ∀ p ∈ A, p.1 ≠ n
  | p :: l, h, q, hq => by
    unfold Dk.look at h
    split at h
    · cases h
    · rename_i e
      rcases List.mem_cons.1 hq with rfl | hq
      · exact e
      · exact look_none h q hq
theorem rises_inj {A : List (Nat × Str)} (h : A.Pairwise (fun p q => p.1 < q.1)) {p q : Nat × Str} (hp : p ∈ A) (hq : q ∈ A) (e : p.1 = q.1) : p = q := by
  induction h with
  | nil => cases hp
  | cons h1 _ ih =>
    rcases List.mem_cons.1 hp with rfl | hp1 <;> rcases List.mem_cons.1 hq with rfl | hq1
    · rfl
    · have := h1 _ hq1; omega
    · have := h1 _ hp1; omega
    · exact ih hp1 hq1
theorem look_mem {A : List (Nat × Str)} (h : A.Pairwise (fun p q => p.1 < q.1)) {n : Nat} {s : Str} (hm : (n, s) ∈ A) : Dk.look n A = some s := by
  cases hl : Dk.look n A with
  | none => exact absurd rfl (look_none hl _ hm)
  | some t => have := rises_inj h (look_some hl) hm rfl; cases this; rfl
/-- What findNow comes to. -/
theorem MapRep.find {es : Array MapEntry} {clock : Nat} {A : List (Nat × Str)} (h : MapRep es clock A) (hr : A.Pairwise (fun p q => p.1 < q.1)) (n : Nat) :
    (Dk.look n A = none ∧ Instr.findNow (.int .i64) (.int .i64 n) es.toList 0 = some none) ∨
    ∃ s i e, Dk.look n A = some s ∧ Instr.findNow (.int .i64) (.int .i64 n) es.toList 0 = some (some (i, arrB s)) ∧ es.toList[i]? = some e ∧ e.key = .int .i64 n ∧ e.val = arrB s := by
  have hk : ∀ x ∈ es.toList, IsKey (.int .i64) x.key := fun x hx => by
    obtain ⟨p, _, e, _⟩ := h.key hx; rw [e]; simp [IsKey]
  rcases findNow_spec (d := .int .i64) (k := .int .i64 n) (by simp [IsKey]) es.toList 0 hk with ⟨h1, h2⟩ | ⟨j, e, h1, h2, h3⟩
  · left
    refine ⟨?_, h1⟩
    cases hl : Dk.look n A with
    | none => rfl
    | some s =>
      have hm := look_some hl
      have := (h.perm.mem_iff (a := entOf (n, s))).2 (List.mem_map.2 ⟨_, hm, rfl⟩)
      obtain ⟨x, hx, hq⟩ := List.mem_map.1 this
      simp only [entOf, Prod.mk.injEq] at hq
      exact absurd hq.1 (h2 x hx)
  · right
    have hm : e ∈ es.toList := List.mem_of_getElem? h2
    obtain ⟨p, hp, hpk, hpv⟩ := h.key hm
    have hn : p.1 = n := by rw [hpk] at h3; injection h3 with _ h4; omega
    refine ⟨p.2, j, e, ?_, ?_, h2, h3, hpv⟩
    · exact look_mem hr (by rw [← hn]; exact hp)
    · rw [h1, hpv]; simp

/-! ### A disk in memory: block p its struct, block q its sectors, block m the map. -/
structure DiskAt (w : World) (p q m : Nat) (D : Dk) : Prop where
  strct : ∃ cap, D.there.length ≤ cap ∧ w.heap[p]? = some (.cells #[.slice (some ⟨q, 0, none⟩) D.there.length cap, .map (some m), .int .i64 D.left] 88 (0, 0))
  row : ∃ rest, w.heap[q]? = some (.cells (D.there.flatMap encB ++ rest).toArray 96 (0, 0))
  kept : ∃ es clock, w.heap[m]? = some (.map es clock) ∧ MapRep es clock D.aside
  wf : D.Wf
namespace DiskAt
variable {w w' : World} {p q m : Nat} {D : Dk}
theorem lt_p (h : DiskAt w p q m D) : p < w.heap.size := by
  obtain ⟨_, _, e⟩ := h.strct; exact (Array.getElem?_eq_some_iff.1 e).1
theorem lt_q (h : DiskAt w p q m D) : q < w.heap.size := by
  obtain ⟨_, e⟩ := h.row; exact (Array.getElem?_eq_some_iff.1 e).1
theorem lt_m (h : DiskAt w p q m D) : m < w.heap.size := by
  obtain ⟨_, _, e, _⟩ := h.kept; exact (Array.getElem?_eq_some_iff.1 e).1
theorem ne_pq (h : DiskAt w p q m D) : p ≠ q := by
  obtain ⟨_, _, e⟩ := h.strct; obtain ⟨_, e'⟩ := h.row
  intro x; subst x; rw [e] at e'; injection e' with e'; injection e' with _ e' _; exact absurd e' (by decide)
theorem ne_pm (h : DiskAt w p q m D) : p ≠ m := by
  obtain ⟨_, _, e⟩ := h.strct; obtain ⟨_, _, e', _⟩ := h.kept
  intro x; subst x; rw [e] at e'; cases e'
theorem ne_qm (h : DiskAt w p q m D) : q ≠ m := by
  obtain ⟨_, e⟩ := h.row; obtain ⟨_, _, e', _⟩ := h.kept
  intro x; subst x; rw [e] at e'; cases e'
theorem same (h : DiskAt w p q m D) (hp : w'.heap[p]? = w.heap[p]?) (hq : w'.heap[q]? = w.heap[q]?) (hm : w'.heap[m]? = w.heap[m]?) : DiskAt w' p q m D :=
  ⟨by rw [hp]; exact h.strct, by rw [hq]; exact h.row, by rw [hm]; exact h.kept, h.wf⟩
theorem keep {S : Nat → Prop} (h : DiskAt w p q m D) (k : Keeps S w w') (hp : ¬ S p) (hq : ¬ S q) (hm : ¬ S m) : DiskAt w' p q m D :=
  h.same (k.block p h.lt_p hp) (k.block q h.lt_q hq) (k.block m h.lt_m hm)
/-- The struct's three cells. -/
theorem cells (h : DiskAt w p q m D) : ∃ cap, D.there.length ≤ cap ∧ w.cell? ⟨p, 0, none⟩ = some (.slice (some ⟨q, 0, none⟩) D.there.length cap) ∧
    w.cell? ⟨p, 1, none⟩ = some (.map (some m)) ∧ w.cell? ⟨p, 2, none⟩ = some (.int .i64 D.left) ∧ ∀ o, w.frozen? ⟨p, o, none⟩ = false := by
  obtain ⟨cap, hc, e⟩ := h.strct
  exact ⟨cap, hc, by simp [World.cell?, e], by simp [World.cell?, e], by simp [World.cell?, e], fun o => by simp [World.frozen?, e]⟩
end DiskAt
def dset (p q m : Nat) : Nat → Prop := fun k => k = p ∨ k = q ∨ k = m
end Go.Proofs.Ytckopikeegegkaa
