/- AT: a disk that was made within the call: its contracts, each with what the plain function answers handed in. -/
import Derived.Test.YtckopikeegegkaaAwake4
import Derived.Test.YtckopikeegegkaaPage7
import Derived.Test.YtckopikeegegkaaPure2
import Derived.Test.YtckopikeegegkaaLaws4
namespace Go.Proofs.Ytckopikeegegkaa
open Go.RowKit Go.MapKept Go.Shelf
set_option linter.unusedVariables false
/-- The disk D lies in W, in blocks that are new since w0; nothing that w0 has was turned. -/
structure At (w0 W : World) (p q m : Nat) (D : Dk) : Prop where
  at_ : DiskAt W p q m D
  kept : Keeps noB w0 W
  hp : w0.heap.size ≤ p
  hq : w0.heap.size ≤ q
  hm : w0.heap.size ≤ m
namespace At
variable {w0 W W' : World} {p q m : Nat} {D D' : Dk}
theorem same (h : At w0 W p q m D) (k : Keeps noB W W') : At w0 W' p q m D := ⟨h.at_.keep k (fun q => q) (fun q => q) (fun q => q), h.kept.trans k, h.hp, h.hq, h.hm⟩
theorem alloc (h : At w0 W p q m D) (o : Obj) : At w0 (W.alloc o) p q m D := h.same ((Keeps.refl _ _).alloc o)
theorem drew (h : At w0 W p q m D) : At w0 W.drew p q m D := h.same (Keeps.refl _ _).drew
theorem turned (h : At w0 W p q m D) (k : Keeps (dset p q m) W W') (d : DiskAt W' p q m D') : At w0 W' p q m D' :=
  ⟨d, h.kept.trans_new k (fun k hk q => by have := h.hp; have := h.hq; have := h.hm; simp only [dset] at q; omega), h.hp, h.hq, h.hm⟩
/-- A block that w0 has, or that is none of the disk's. -/
theorem turned_block (h : At w0 W p q m D) (k : Keeps (dset p q m) W W') {b : Nat} (hb : b < w0.heap.size) : W'.heap[b]? = W.heap[b]? :=
  k.block b (Nat.lt_of_lt_of_le hb h.kept.size) (fun x => by have := h.hp; have := h.hq; have := h.hm; simp only [dset] at x; omega)
end At
section
variable {w0 W : World} {p q m : Nat} {D D' : Dk} {n : Int}
theorem new_at {n : Int} {D : Dk} (W : World) (k : Keeps noB w0 W) (he : Dk.make n = some D) : Calls Try.prog 16 #[.int .i64 n] W fun e W' => ∃ p q m, e = .returned (.tuple #[.pointer (some ⟨p, 0, none⟩), .int .i64 0]) ∧ At w0 W' p q m D ∧ Keeps noB W W' := by
  refine (new_good n D W he).mono ?_
  rintro e W' ⟨p, q, m, rfl, d, k2, lp, lq, lm⟩
  have := k.size
  exact ⟨p, q, m, rfl, ⟨d, k.trans k2, by omega, by omega, by omega⟩, k2⟩
theorem pages_at {e : Int} (h : At w0 W p q m D) (he : pages D = e) : Calls Try.prog 20 #[.pointer (some ⟨p, 0, none⟩)] W fun r W' => r = .returned (.int .i64 e) ∧ W = W' := by
  subst he; exact pages_calls W h.at_
theorem read_at {s : Str} {e : Int} (h : At w0 W p q m D) (he : D.read n = (s, e)) : Calls Try.prog 24 #[.pointer (some ⟨p, 0, none⟩), .int .i64 n] W fun r W' => r = .returned (.tuple #[.string (bs s), .int .i64 e]) ∧ At w0 W' p q m D ∧ Keeps noB W W' := by
  have := read_calls n W h.at_
  rw [he] at this
  exact this.mono (fun r W' ⟨h1, h2⟩ => ⟨h1, h.same h2, h2⟩)
theorem write_at {s : Str} {e : Int} (h : At w0 W p q m D) (he : D.write n s = (e, D')) : Calls Try.prog 32 #[.pointer (some ⟨p, 0, none⟩), .int .i64 n, .string (bs s)] W fun r W' => r = .returned (.int .i64 e) ∧ At w0 W' p q m D' ∧ Keeps (dset p q m) W W' := by
  have := write_calls n s W h.at_
  rw [he] at this
  exact this.mono (fun r W' ⟨h1, h2, h3⟩ => ⟨h1, h.turned h3 h2, h3⟩)
theorem pread_at {s : Str} {e : Int} (h : At w0 W p q m D) (he : pgRead D n = (s, e)) : Calls Try.prog 19 #[.pointer (some ⟨p, 0, none⟩), .int .i64 n] W fun r W' => r = .returned (.tuple #[.string (bs s), .int .i64 e]) ∧ At w0 W' p q m D ∧ Keeps noB W W' := by
  have := pread_calls n W h.at_
  rw [he] at this
  exact this.mono (fun r W' ⟨h1, h2⟩ => ⟨h1, h.same h2, h2⟩)
theorem pwrite_at {s : Str} {e : Int} (h : At w0 W p q m D) (he : pgWrite D n s = (e, D')) : Calls Try.prog 21 #[.pointer (some ⟨p, 0, none⟩), .int .i64 n, .string (bs s)] W fun r W' => r = .returned (.int .i64 e) ∧ At w0 W' p q m D' ∧ Keeps (dset p q m) W W' := by
  have := pwrite_calls n s W h.at_
  rw [he] at this
  exact this.mono (fun r W' ⟨h1, h2, h3⟩ => ⟨h1, h.turned h3 h2, h3⟩)
theorem setRoot_at {on : Bool} {ep pg e : Int} (h : At w0 W p q m D) (he : pgSetRoot D n ⟨on, ep, pg⟩ = (e, D')) : Calls Try.prog 17 #[.pointer (some ⟨p, 0, none⟩), .int .i64 n, .agg #[.bool on, .int .i64 ep, .int .i64 pg]] W fun r W' => r = .returned (.int .i64 e) ∧ At w0 W' p q m D' ∧ Keeps (dset p q m) W W' := by
  have := setRoot_calls n ⟨on, ep, pg⟩ W h.at_
  rw [he] at this
  exact this.mono (fun r W' ⟨h1, h2, h3⟩ => ⟨h1, h.turned h3 h2, h3⟩)
theorem root_at {on : Bool} {ep pg e : Int} (h : At w0 W p q m D) (he : pgRoot D n = (⟨on, ep, pg⟩, e)) : Calls Try.prog 18 #[.pointer (some ⟨p, 0, none⟩), .int .i64 n] W fun r W' => r = .returned (.tuple #[.agg #[.bool on, .int .i64 ep, .int .i64 pg], .int .i64 e]) ∧ At w0 W' p q m D ∧ Keeps noB W W' := by
  have := pgroot_calls n W h.at_
  rw [he] at this
  exact this.mono (fun r W' ⟨h1, h2⟩ => ⟨h1, h.same h2, h2⟩)
theorem fuse_at {e : Int} (h : At w0 W p q m D) (hn : n ≤ 9223372036854775807) (he : D.fuse n = (e, D')) : Calls Try.prog 35 #[.pointer (some ⟨p, 0, none⟩), .int .i64 n] W fun r W' => r = .returned (.int .i64 e) ∧ At w0 W' p q m D' ∧ Keeps (dset p q m) W W' := by
  have := fuse_calls n W h.at_ hn
  rw [he] at this
  exact this.mono (fun r W' ⟨h1, h2, h3⟩ => ⟨h1, h.turned h3 h2, h3⟩)
theorem dead_at {b : Bool} (h : At w0 W p q m D) (he : D.dead = b) : Calls Try.prog 30 #[.pointer (some ⟨p, 0, none⟩)] W fun r W' => r = .returned (.bool b) ∧ W = W' := by
  subst he; exact dead_calls W h.at_
end
end Go.Proofs.Ytckopikeegegkaa
