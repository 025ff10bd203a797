/- DISK 6: the contract of Aside. -/
import Derived.Test.YtckopikeegegkaaDisk5
import Derived.Test.YtckopikeegegkaaMapKeys
import Derived.Test.YtckopikeegegkaaShelf
import Derived.Test.YtckopikeegegkaaIter
namespace Go.Proofs.Ytckopikeegegkaa
open Go.RowKit Go.MapKept Go.Maps Go.Shelf Go.Sort
set_option linter.unusedSimpArgs false
set_option linter.unusedVariables false
variable {p q m : Nat} {D : Dk}

theorem sortsA (k : Nat) : AnyZI.SortsIn Try.prog Try.sortedA_ren Fence.wide k :=
  ⟨fun blk off cap ss W hH hblk hsz => callsIn_wide.2 (Try.slices_Sort_int blk off cap ss W hH hblk hsz), fun p cap W => callsIn_wide.2 (Try.slices_Sort_int_none p cap W)⟩
set_option maxHeartbeats 1000000 in
theorem keysOf_calls (m : Nat) (w : World) : Calls Try.prog 59 #[.map (some m)] w fun e w' =>
    e = .returned (.func (.func 73) #[] #[.pointer (some ⟨w.heap.size, 0, none⟩)]) ∧ w.alloc (.cells #[.map (some m)] 86) = w' := by
  go_enter Try.func59, Try.ntmps59
  go_wp2
  go_ret
  exact ⟨rfl, rfl⟩
set_option maxHeartbeats 1000000 in
theorem aside_nil (w : World) : Calls Try.prog 27 #[.pointer none] w fun e w' => e = .returned (.slice none 0 0) ∧ w = w' := by
  go_enter Try.func27, Try.ntmps27
  go_wp2
  go_ret
  exact ⟨rfl, rfl⟩
def keysOf (A : List (Nat × Str)) : List Int := A.map (fun p => (p.1 : Int))
theorem sorted_keys {A : List (Nat × Str)} (hr : A.Pairwise (fun p q => p.1 < q.1)) {k : List Nat} (hk : k.Perm (A.map (·.1))) : (k.map Int.ofNat).mergeSort (fun x y => decide (x ≤ y)) = keysOf A := by
  have h1 : ((k.map Int.ofNat).mergeSort (fun x y => decide (x ≤ y))).Perm (keysOf A) := by
    refine (List.mergeSort_perm _ _).trans ?_
    have := hk.map Int.ofNat
    rw [List.map_map] at this
    exact this
  have h2 : ((k.map Int.ofNat).mergeSort (fun x y => decide (x ≤ y))).Pairwise (fun x y => x ≤ y) := by
    have := List.pairwise_mergeSort (le := fun x y : Int => decide (x ≤ y)) (fun a b c h1 h2 => by simp at *; omega) (fun a b => by simp; omega) (k.map Int.ofNat)
    exact this.imp (fun h => by simpa using h)
  have h3 : (keysOf A).Pairwise (fun x y => x ≤ y) := by
    unfold keysOf
    rw [List.pairwise_map]
    exact hr.imp (fun h => by omega)
  exact h1.eq_of_pairwise (fun a b _ _ h1 h2 => by omega) h2 h3
set_option maxHeartbeats 1000000 in
theorem aside_calls (w : World) (h : DiskAt w p q m D) : Calls Try.prog 27 #[.pointer (some ⟨p, 0, none⟩)] w fun e w' =>
    ∃ v, e = .returned v ∧ w'.ownsRow w.heap.size 3 1 v D.aside.length ((keysOf D.aside).map (Value.int .i64)) ∧ (v = .slice none 0 0 ↔ D.aside = []) ∧ Keeps noB w w' := by
  obtain ⟨cap, hc, c0, c1, c2, hf⟩ := h.cells
  obtain ⟨es, clock, hm, hR⟩ := h.kept
  have hr := h.wf.rises
  have lm := h.lt_m
  have hk := keysOf_calls m w
  have hl : D.aside.length ≤ 4096 := by
    have h1 := nodup_le (k := D.aside.map (·.1)) (l := List.range D.there.length) (keys_nodup hr) (fun n hn => by
      obtain ⟨x, hx, rfl⟩ := List.mem_map.1 hn
      exact List.mem_range.2 (h.wf.aside x hx).1)
    have := h.wf.small
    rw [List.length_map, List.length_range] at h1
    omega
  have hseq := keys_gives Fence.wide 2 trivial rfl (by omega) w.heap.size m D.aside hr (w.alloc (.cells #[.map (some m)] 86)) (by simp) (by simp) es clock ((heap_alloc_ne _ _ _ (by omega)).trans hm) hR
  have cS := AnyZI.sorted_in Try.sortedA Fence.wide 5 trivial trivial trivial trivial rfl (by omega) (sortsA _) (enters_of Try.func72 (by kernel_rfl) rfl) 73 #[.pointer (some ⟨w.heap.size, 0, none⟩)] trivial (enters_of Try.func73 (by kernel_rfl) rfl) _ D.aside.length (by unfold maxLen; omega) (by omega) _ hseq
  change CallsIn _ _ Try.prog 58 _ _ _ at cS
  have cS' := callsIn_wide.1 cS
  clear cS hseq
  go_enter Try.func27, Try.ntmps27
  go_wp2_with (first | (go_at_call 59; refine hk.mono ?_; rintro e w' ⟨rfl, rfl⟩) | (go_at_call 58; refine cS'.mono ?_; rintro e w1 ⟨v, ss, rfl, hS, hrow, hnil, hb⟩))
  go_ret
  obtain ⟨k, hk1, rfl⟩ := hS
  have e1 := sorted_keys hr hk1
  have e2 : (k.map Int.ofNat).length = D.aside.length := by rw [List.length_map, hk1.length_eq, List.length_map]
  rw [e1, e2] at hrow
  refine ⟨v, rfl, ?_, ?_, ?_⟩
  · obtain ⟨r1, r2⟩ := hrow
    refine ⟨r1, r2.imp (fun x => x) ?_⟩
    rintro ⟨g, cp, cur, a1, a2, a3, a4⟩
    exact ⟨g, cp, cur, a1, by simp at a2; omega, a3, a4⟩
  · rw [hnil, ← List.length_eq_zero_iff, e2, List.length_eq_zero_iff]
  · exact ((Keeps.refl noB w).alloc _).trans (Keeps.of_below hb)
end Go.Proofs.Ytckopikeegegkaa
