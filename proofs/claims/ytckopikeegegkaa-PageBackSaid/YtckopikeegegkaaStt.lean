/- STT: contracts of a disk, each with what the plain function answers handed in; for the walks of laws. -/
import Derived.Test.YtckopikeegegkaaMay
import Derived.Test.YtckopikeegegkaaPure6
namespace Go.Proofs.Ytckopikeegegkaa
open Go.RowKit Go.MapKept Go.Shelf
set_option linter.unusedVariables false
section
variable {w0 W : World} {p q m : Nat} {D D' : Dk} {n : Int}
theorem DiskAt.alloc (h : DiskAt W p q m D) (o : Obj) : DiskAt (W.alloc o) p q m D := h.keep ((Keeps.refl noB _).alloc o) (fun q => q) (fun q => q) (fun q => q)
theorem DiskAt.drew (h : DiskAt W p q m D) : DiskAt W.drew p q m D := h.same rfl rfl rfl
theorem DiskAt.held (h : DiskAt W p q m D) {W' : World} (k : Keeps noB W W') : DiskAt W' p q m D := h.keep k (fun q => q) (fun q => q) (fun q => q)
theorem dNew (he : Dk.make n = some D) : Calls Try.prog 16 #[.int .i64 n] W fun e W' => ∃ p q m, e = .returned (.tuple #[.pointer (some ⟨p, 0, none⟩), .int .i64 0]) ∧ DiskAt W' p q m D ∧ Keeps noB W W' ∧ W.heap.size ≤ p ∧ W.heap.size ≤ q ∧ W.heap.size ≤ m := new_good n D W he
theorem dPages {e : Int} (h : DiskAt W p q m D) (he : pages D = e) : Calls Try.prog 20 #[.pointer (some ⟨p, 0, none⟩)] W fun r W' => r = .returned (.int .i64 e) ∧ W = W' := by
  subst he; exact pages_calls W h
theorem dRead {s : Str} {e : Int} (h : DiskAt W p q m D) (he : D.read n = (s, e)) : Calls Try.prog 24 #[.pointer (some ⟨p, 0, none⟩), .int .i64 n] W fun r W' => r = .returned (.tuple #[.string (bs s), .int .i64 e]) ∧ DiskAt W' p q m D ∧ Keeps noB W W' := by
  have := read_calls n W h
  rw [he] at this
  exact this.mono (fun r W' ⟨h1, h2⟩ => ⟨h1, h.held h2, h2⟩)
theorem dWrite {s : Str} {e : Int} (h : DiskAt W p q m D) (he : D.write n s = (e, D')) : Calls Try.prog 32 #[.pointer (some ⟨p, 0, none⟩), .int .i64 n, .string (bs s)] W fun r W' => r = .returned (.int .i64 e) ∧ DiskAt W' p q m D' ∧ Keeps (dset p q m) W W' := by
  have := write_calls n s W h
  rw [he] at this
  exact this
theorem dPread {s : Str} {e : Int} (h : DiskAt W p q m D) (he : pgRead D n = (s, e)) : Calls Try.prog 19 #[.pointer (some ⟨p, 0, none⟩), .int .i64 n] W fun r W' => r = .returned (.tuple #[.string (bs s), .int .i64 e]) ∧ DiskAt W' p q m D ∧ Keeps noB W W' := by
  have := pread_calls n W h
  rw [he] at this
  exact this.mono (fun r W' ⟨h1, h2⟩ => ⟨h1, h.held h2, h2⟩)
theorem dPwrite {s : Str} {e : Int} (h : DiskAt W p q m D) (he : pgWrite D n s = (e, D')) : Calls Try.prog 21 #[.pointer (some ⟨p, 0, none⟩), .int .i64 n, .string (bs s)] W fun r W' => r = .returned (.int .i64 e) ∧ DiskAt W' p q m D' ∧ Keeps (dset p q m) W W' := by
  have := pwrite_calls n s W h
  rw [he] at this
  exact this
theorem dSetRoot {on : Bool} {ep pg e : Int} (h : DiskAt W p q m D) (he : pgSetRoot D n ⟨on, ep, pg⟩ = (e, D')) : Calls Try.prog 17 #[.pointer (some ⟨p, 0, none⟩), .int .i64 n, .agg #[.bool on, .int .i64 ep, .int .i64 pg]] W fun r W' => r = .returned (.int .i64 e) ∧ DiskAt W' p q m D' ∧ Keeps (dset p q m) W W' := by
  have := setRoot_calls n ⟨on, ep, pg⟩ W h
  rw [he] at this
  exact this
theorem dRoot {on : Bool} {ep pg e : Int} (h : DiskAt W p q m D) (he : pgRoot D n = (⟨on, ep, pg⟩, e)) : Calls Try.prog 18 #[.pointer (some ⟨p, 0, none⟩), .int .i64 n] W fun r W' => r = .returned (.tuple #[.agg #[.bool on, .int .i64 ep, .int .i64 pg], .int .i64 e]) ∧ DiskAt W' p q m D ∧ Keeps noB W W' := by
  have := pgroot_calls n W h
  rw [he] at this
  exact this.mono (fun r W' ⟨h1, h2⟩ => ⟨h1, h.held h2, h2⟩)
theorem dFuse {e : Int} (h : DiskAt W p q m D) (hn : n ≤ 9223372036854775807) (he : D.fuse n = (e, D')) : Calls Try.prog 35 #[.pointer (some ⟨p, 0, none⟩), .int .i64 n] W fun r W' => r = .returned (.int .i64 e) ∧ DiskAt W' p q m D' ∧ Keeps (dset p q m) W W' := by
  have := fuse_calls n W h hn
  rw [he] at this
  exact this
theorem dDead {b : Bool} (h : DiskAt W p q m D) (he : D.dead = b) : Calls Try.prog 30 #[.pointer (some ⟨p, 0, none⟩)] W fun r W' => r = .returned (.bool b) ∧ W = W' := by
  subst he; exact dead_calls W h
theorem dSectors {e : Int} (h : DiskAt W p q m D) (he : (D.there.length : Int) = e) : Calls Try.prog 39 #[.pointer (some ⟨p, 0, none⟩)] W fun r W' => r = .returned (.int .i64 e) ∧ W = W' := by
  subst he; exact sectors_calls W h
theorem dFlush {e : Int} (h : DiskAt W p q m D) (he : D.flush = (e, D')) : Calls Try.prog 31 #[.pointer (some ⟨p, 0, none⟩)] W fun r W' => r = .returned (.int .i64 e) ∧ DiskAt W' p q m D' ∧ Keeps (dset p q m) W W' := by
  have := flush_calls W h
  rw [he] at this
  exact this
theorem dCrash {e : Int} {kv : Value} {keep : List Bool} {torn cut : Int} (h : DiskAt W p q m D) (hkv : BoolsAt W kv keep) (hap : 0 < keep.length → ∀ a n c, kv = .slice (some a) n c → ¬ dset p q m a.block) (he : D.crash keep torn cut = (e, D')) :
    Calls Try.prog 29 #[.pointer (some ⟨p, 0, none⟩), kv, .int .i64 torn, .int .i64 cut] W fun r W' => r = .returned (.int .i64 e) ∧ DiskAt W' p q m D' ∧ Keeps (dset p q m) W W' := by
  have := crash_calls kv keep torn cut W h hkv hap
  rw [he] at this
  exact this
theorem dAside (h : DiskAt W p q m D) : Calls Try.prog 27 #[.pointer (some ⟨p, 0, none⟩)] W fun r W' =>
    ∃ v, r = .returned v ∧ W'.ownsRow W.heap.size 3 1 v D.aside.length ((keysOf D.aside).map (Value.int .i64)) ∧ (v = .slice none 0 0 ↔ D.aside = []) ∧ DiskAt W' p q m D ∧ Keeps noB W W' :=
  (aside_calls W h).mono (fun r W' ⟨v, h1, h2, h3, h4⟩ => ⟨v, h1, h2, h3, h.held h4, h4⟩)
end
theorem BoolsAt.form {w : World} {v : Value} {l : List Bool} (h : BoolsAt w v l) : ∃ ad cap, v = .slice ad l.length cap := by
  rcases h with ⟨rfl, rfl⟩ | ⟨a, cap, rfl, _⟩
  · exact ⟨none, 0, rfl⟩
  · exact ⟨some a, cap, rfl⟩
theorem BoolsAt.lt {w : World} {l : List Bool} {a : Addr} {n c : Nat} (h : BoolsAt w (.slice (some a) n c) l) (hl : 0 < l.length) : a.block < w.heap.size := by
  rcases h with ⟨h, _⟩ | ⟨b, cap, h, hc⟩
  · cases h
  · cases h
    have h1 := hc 0 hl
    have hb : (a.add 0).block = a.block := by unfold Addr.add; split <;> rfl
    rw [← hb]
    cases hh : w.heap[(a.add 0).block]? with
    | none => simp [World.cell?, hh] at h1
    | some o => exact (Array.getElem?_eq_some_iff.1 hh).1
theorem cell_block {w : World} {a : Addr} {v : Value} (h : w.cell? a = some v) : a.block < w.heap.size := by
  cases hh : w.heap[a.block]? with
  | none => simp [World.cell?, hh] at h
  | some o => exact (Array.getElem?_eq_some_iff.1 hh).1
theorem cell_keeps {S : Nat → Prop} {W W' : World} {a : Addr} {v : Value} (k : Keeps S W W') (h : W.cell? a = some v) (hS : ¬ S a.block) : W'.cell? a = some v :=
  (World.cell?_of_block (w := W) (k.block _ (cell_block h) hS)).trans h
theorem BoolsAt.at_ {w : World} {l : List Bool} {ad : Option Addr} {n c : Nat} (h : BoolsAt w (.slice ad n c) l) (i : Nat) (hi : i < l.length) : ∃ a, ad = some a ∧ w.cell? (a.add i) = some (.bool l[i]) := by
  rcases h with ⟨h, rfl⟩ | ⟨b, cap, h, hc⟩
  · simp at hi
  · cases h; exact ⟨b, rfl, hc i hi⟩
/-- A slice that came in is none of the blocks of a disk that is new. -/
theorem BoolsAt.apart {w : World} {v : Value} {l : List Bool} {p q m : Nat} (h : BoolsAt w v l) (hp : w.heap.size ≤ p) (hq : w.heap.size ≤ q) (hm : w.heap.size ≤ m) : 0 < l.length → ∀ a n c, v = .slice (some a) n c → ¬ dset p q m a.block := by
  intro hl a n c e
  subst e
  have := h.lt hl
  simp only [dset]; omega
theorem carry {S : Nat → Prop} {W W' : World} {b : Nat} {o : Obj} (k : Keeps S W W') (f : W.heap[b]? = some o) (hS : ¬ S b) : W'.heap[b]? = some o := (k.block b (Array.getElem?_eq_some_iff.1 f).1 hS).trans f
theorem blk_alloc {W : World} {b : Nat} {o : Obj} (f : W.heap[b]? = some o) (x : Obj) : (W.alloc x).heap[b]? = some o :=
  (heap_alloc_ne _ _ _ (by have := (Array.getElem?_eq_some_iff.1 f).1; omega)).trans f
theorem keepsSet {W : World} {b : Nat} {cs : Array Value} {t : TypeId} {fr : Nat × Nat} (f : W.heap[b]? = some (.cells cs t fr)) (vs : List Value) : Keeps (fun k => k = b) W (W.setRow b vs.toArray) := (Keeps.refl (fun k => k = b) W).setRow (fun _ => rfl) _
theorem setBox {W : World} {b : Nat} {cs : Array Value} {t : TypeId} {fr : Nat × Nat} (f : W.heap[b]? = some (.cells cs t fr)) (vs : List Value) : (W.setRow b vs.toArray).heap[b]? = some (.cells vs.toArray t fr) := setRow_eq _ _ _ _ _ _ f
theorem cell_blk {W : World} {b : Nat} {cs : Array Value} {t : TypeId} {fr : Nat × Nat} (f : W.heap[b]? = some (.cells cs t fr)) (i : Nat) (v : Value) (h : cs[i]? = some v) : W.cell? ⟨b, i, none⟩ = some v := by
  simp [World.cell?, f, h]
theorem frozen_blk {W : World} {b : Nat} {cs : Array Value} {t : TypeId} (f : W.heap[b]? = some (.cells cs t (0, 0))) (i : Nat) : W.frozen? ⟨b, i, none⟩ = false := by
  simp [World.frozen?, f]
/-- Conditions on a world, for regions. -/
abbrev Blk1 (b1 : Nat) (o1 : Obj) (W : World) : Prop := W.heap[b1]? = some o1
abbrev Blk2 (b1 : Nat) (o1 : Obj) (b2 : Nat) (o2 : Obj) (W : World) : Prop := W.heap[b1]? = some o1 ∧ W.heap[b2]? = some o2
abbrev Blk2c (b1 : Nat) (o1 : Obj) (b2 : Nat) (o2 : Obj) (a : Addr) (v : Value) (W : World) : Prop := W.heap[b1]? = some o1 ∧ W.heap[b2]? = some o2 ∧ W.cell? a = some v
/-- A slice of one-cell elements. -/
def CellsAt {α : Type} (enc : α → Value) (w : World) (v : Value) (l : List α) : Prop := (v = .slice none 0 0 ∧ l = []) ∨ ∃ a cap, v = .slice (some a) l.length cap ∧ ∀ i (h : i < l.length), w.cell? (a.add i) = some (enc l[i])
theorem CellsAt.form {α : Type} {enc : α → Value} {w : World} {v : Value} {l : List α} (h : CellsAt enc w v l) : ∃ ad cap, v = .slice ad l.length cap := by
  rcases h with ⟨rfl, rfl⟩ | ⟨a, cap, rfl, _⟩
  · exact ⟨none, 0, rfl⟩
  · exact ⟨some a, cap, rfl⟩
theorem CellsAt.at_ {α : Type} {enc : α → Value} {w : World} {l : List α} {ad : Option Addr} {n c : Nat} (h : CellsAt enc w (.slice ad n c) l) (i : Nat) (hi : i < l.length) : ∃ a, ad = some a ∧ w.cell? (a.add i) = some (enc l[i]) := by
  rcases h with ⟨h, rfl⟩ | ⟨b, cap, h, hc⟩
  · simp at hi
  · cases h; exact ⟨b, rfl, hc i hi⟩
theorem CellsAt.keep {α : Type} {enc : α → Value} {w W : World} {v : Value} {l : List α} (h : CellsAt enc w v l) (hk : Keeps noB w W) : CellsAt enc W v l := by
  rcases h with h | ⟨a, cap, rfl, hc⟩
  · exact .inl h
  · exact .inr ⟨a, cap, rfl, fun i hi => cell_keeps hk (hc i hi) (fun q => q)⟩
def cutE (cut : Int) : Int := IntKind.u64.wrap cut % 65
theorem cutE_bounds (c : Int) : 0 ≤ cutE c ∧ cutE c ≤ 64 := by unfold cutE; omega
theorem cutE_eq (c : Int) : wrap64 ((IntKind.u64.wrap c).tmod 65) = cutE c := by
  have h := cutE_bounds c
  have u : 0 ≤ IntKind.u64.wrap c := by rw [IntKind.wrap_u64]; omega
  rw [Int.tmod_eq_emod_of_nonneg u]
  exact IntWalk.wrap64_in (IntKind.u64.wrap c % 65) (by unfold cutE at h; omega)
end Go.Proofs.Ytckopikeegegkaa
