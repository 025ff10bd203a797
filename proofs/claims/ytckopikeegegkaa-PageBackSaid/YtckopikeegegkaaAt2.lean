/- AT 2: Flush, Crash, Aside, Sectors of a disk that was made within the call. -/
import Derived.Test.YtckopikeegegkaaAt
import Derived.Test.YtckopikeegegkaaDisk7
namespace Go.Proofs.Ytckopikeegegkaa
open Go.RowKit Go.MapKept Go.Shelf
set_option linter.unusedVariables false
section
variable {w0 W : World} {p q m : Nat} {D D' : Dk} {n : Int}
theorem flush_at {e : Int} (h : At w0 W p q m D) (he : D.flush = (e, D')) : Calls Try.prog 31 #[.pointer (some ⟨p, 0, none⟩)] W fun r W' => r = .returned (.int .i64 e) ∧ At w0 W' p q m D' ∧ Keeps (dset p q m) W W' := by
  have := flush_calls W h.at_
  rw [he] at this
  exact this.mono (fun r W' ⟨h1, h2, h3⟩ => ⟨h1, h.turned h3 h2, h3⟩)
theorem crash_at {e : Int} {kv : Value} {keep : List Bool} {torn cut : Int} (h : At w0 W p q m D) (hkv : BoolsAt W kv keep) (hap : 0 < keep.length → ∀ a n c, kv = .slice (some a) n c → ¬ dset p q m a.block) (he : D.crash keep torn cut = (e, D')) :
    Calls Try.prog 29 #[.pointer (some ⟨p, 0, none⟩), kv, .int .i64 torn, .int .i64 cut] W fun r W' => r = .returned (.int .i64 e) ∧ At w0 W' p q m D' ∧ Keeps (dset p q m) W W' := by
  have := crash_calls kv keep torn cut W h.at_ hkv hap
  rw [he] at this
  exact this.mono (fun r W' ⟨h1, h2, h3⟩ => ⟨h1, h.turned h3 h2, h3⟩)
theorem aside_at (h : At w0 W p q m D) : Calls Try.prog 27 #[.pointer (some ⟨p, 0, none⟩)] W fun r W' =>
    ∃ v, r = .returned v ∧ W'.ownsRow W.heap.size 3 1 v D.aside.length ((keysOf D.aside).map (Value.int .i64)) ∧ (v = .slice none 0 0 ↔ D.aside = []) ∧ At w0 W' p q m D ∧ Keeps noB W W' :=
  (aside_calls W h.at_).mono (fun r W' ⟨v, h1, h2, h3, h4⟩ => ⟨v, h1, h2, h3, h.same h4, h4⟩)
theorem sectors_at {e : Int} (h : At w0 W p q m D) (he : (D.there.length : Int) = e) : Calls Try.prog 39 #[.pointer (some ⟨p, 0, none⟩)] W fun r W' => r = .returned (.int .i64 e) ∧ W = W' := by
  subst he; exact sectors_calls W h.at_
/-- A slice of bools that came in: no block of the disk's. -/
theorem BoolsAt.carry {w W : World} {v : Value} {l : List Bool} (h : BoolsAt w v l) (hk : Keeps noB w W) : BoolsAt W v l := by
  rcases h with h | ⟨a, cap, rfl, hc⟩
  · exact .inl h
  · refine .inr ⟨a, cap, rfl, fun i hi => ?_⟩
    have h1 := hc i hi
    have hb : (a.add i).block < w.heap.size := by
      cases hh : w.heap[(a.add i).block]? with
      | none => simp [World.cell?, hh] at h1
      | some o => exact (Array.getElem?_eq_some_iff.1 hh).1
    exact (World.cell?_of_block (w := w) (hk.block _ hb (fun q => q))).trans h1
end
end Go.Proofs.Ytckopikeegegkaa
