/- MAPKEYS: maps.Keys of a map of sectors, as an iterator: each key comes once, in some order. -/
import Derived.Test.YtckopikeegegkaaMapRange
import Derived.Test.YtckopikeegegkaaPage2
import Derived.RangeFuncGives
namespace Go.Proofs.Ytckopikeegegkaa
open Go.RowKit Go.MapKept Go.Maps Go.Shelf
set_option linter.unusedSimpArgs false
set_option linter.unusedVariables false

theorem Ranging.of_walks {w w' : World} {b r : Nat} {A : List (Nat × Str)} {done : List Nat} (h : Ranging w b r A done) (hk : KeepsWalks w w') : Ranging w' b r A done ∧ w'.rangeLeft b r = w.rangeLeft b r := by
  obtain ⟨⟨es, clock, since, seen, c0, h1, h2, h3, h4⟩, h5, h6⟩ := h
  have e1 := hk.same b _ h1 rfl
  have e2 := hk.same r _ h3 rfl
  exact ⟨⟨⟨es, clock, since, seen, c0, e1, h2, e2, h4⟩, h5, h6⟩, by unfold World.rangeLeft; rw [h1, h3, e1, e2]⟩
theorem perm_of_covers {l : List Nat} : ∀ {k : List Nat}, k.Nodup → l.Nodup → (∀ n ∈ k, n ∈ l) → (∀ n ∈ l, n ∈ k) → k.Perm l := fun hk hl h1 h2 =>
  (List.perm_ext_iff_of_nodup hk hl).2 (fun n => ⟨h1 n, h2 n⟩)
theorem nodup_le {α : Type} [DecidableEq α] : ∀ {k l : List α}, k.Nodup → (∀ x ∈ k, x ∈ l) → k.length ≤ l.length
  | [], _, _, _ => Nat.zero_le _
  | a :: k, l, h, hs => by
    obtain ⟨h1, h2⟩ := List.nodup_cons.1 h
    have ha := hs a List.mem_cons_self
    have := nodup_le (k := k) (l := l.erase a) h2 (fun x hx => (List.mem_erase_of_ne (fun e => by subst e; exact h1 hx)).2 (hs x (List.mem_cons_of_mem _ hx)))
    rw [List.length_erase_of_mem ha] at this
    have hp : 0 < l.length := List.length_pos_of_mem ha
    rw [List.length_cons]; omega
theorem keys_nodup {A : List (Nat × Str)} (hr : A.Pairwise (fun p q => p.1 < q.1)) : (A.map (·.1)).Nodup := by
  rw [List.nodup_iff_pairwise_ne, List.pairwise_map]
  exact hr.imp (fun {a b} hab q => by omega)
theorem grown_keeps {w w' : World} {row : Option Nat} (h : w.grownBy w' row) : Keeps (fun k => row = some k) w w' := ⟨h.os, h.tape, h.output, h.size, fun k hk hs => h.block k hk (fun e => hs e.symm)⟩

set_option maxRecDepth 100000 in
set_option maxHeartbeats 1000000 in
theorem keys1_in (F : Fence) (r : Nat) (hf : F.fn 73) (hro : F.round = none) (hn : 1 ≤ r) (l nb m : Nat) (A : List (Nat × Str)) (hA : A.Pairwise (fun p q => p.1 < q.1)) (J : List Int → World → Prop)
    (hY : ∀ pre x W, J pre W → pre.length < A.length → YieldAt F (r - 1) Try.prog l #[.int .i64 x] W fun e W' => e = .returned (.bool true) ∧ J (pre ++ [x]) W' ∧ KeepsWalks W W')
    (W : World) (hJ : AbidesFrom W.heap.size J) (hB : W.cell? ⟨nb, 0, none⟩ = some (.map (some m))) (es : Array MapEntry) (clock : Nat) (hm : W.heap[m]? = some (.map es clock)) (hR : MapRep es clock A) (h0 : J [] W) :
    CallsIn F r Try.prog 73 #[.func (.yield l) #[] #[], .pointer (some ⟨nb, 0, none⟩)] W fun e W' => (∃ v, e = .returned v) ∧
      ∃ ss : List Int, (∃ k : List Nat, k.Perm (A.map (·.1)) ∧ ss = k.map Int.ofNat) ∧ J ss W' := by
  obtain ⟨hrun0, hrg0⟩ := ranging_start (P := Try.prog) 86 3 96 Try.underlying86 hm hR
  refine callsIn_of_wp Try.func73 rfl hf ?_ hro
  simp only [Try.ntmps73, List.size_toArray, List.length_cons, List.length_nil, Nat.reduceAdd, Nat.reduceSub, Array.replicate_succ, Array.replicate_zero, List.push_toArray, List.append_toArray, List.nil_append, List.cons_append]
  gi_wp2
  gi_loopw [3] (fun _ wr => ∃ done, Ranging wr m W.heap.size A done ∧ J (done.map Int.ofNat) wr) (fun _ wr => wr.rangeLeft m W.heap.size)
  case atStart =>
    exact ⟨[], hrg0, hJ [] W _ none h0 (World.grownBy_alloc W _ none) (fun r e => by cases e)⟩
  case round =>
    obtain ⟨done, hrg, hJs⟩ := hrel
    rcases ranging_next (P := Try.prog) hrg hA 0 with ⟨hall, hrun⟩ | ⟨n, s, w2, hmem, hnd, hrun, hrg2, hlt, hk2, hsz, hen⟩
    · gi_wp2
      go_end0
      exact ⟨⟨_, rfl⟩, _, ⟨done, perm_of_covers hrg.nodup (keys_nodup hA) hrg.keys hall, rfl⟩, hJs⟩
    · have hJ2 : J (done.map Int.ofNat) w2 := hJ _ wr w2 (some W.heap.size) hJs ⟨hk2.os, hk2.tape, hk2.output, hk2.size, fun i hi hne => hk2.block i hi (fun e => hne (by rw [e]))⟩ (fun r e => by
        cases e
        obtain ⟨⟨es', c', si, se, c0, h1, h2, h3, h4⟩, _, _⟩ := hrg
        exact ⟨Nat.le_refl _, _, h3, rfl⟩)
      have hlen : (done.map Int.ofNat).length < A.length := by
        rw [List.length_map]
        have h1 : (n :: done).length ≤ (A.map (·.1)).length := by
          refine nodup_le (List.nodup_cons.2 ⟨hnd, hrg.nodup⟩) (fun x hx => ?_)
          rcases List.mem_cons.1 hx with rfl | hx
          · exact List.mem_map.2 ⟨_, hmem, rfl⟩
          · exact hrg.keys x hx
        simp only [List.length_cons, List.length_map] at h1
        omega
      obtain ⟨fn, tmps, assign, body, hy, hR2⟩ := hY _ (n : Int) w2 hJ2 hlen
      gi_wp2
      refine hR2.mono ?_
      rintro e W3 ⟨rfl, hJ3, hk3⟩
      gi_wp2
      obtain ⟨g1, g2⟩ := hrg2.of_walks hk3
      go_roundw
      case rel => exact ⟨done ++ [n], g1, by rw [List.map_append]; exact hJ3⟩
      case measure => rw [g2]; exact hlt
theorem keys_gives (F : Fence) (r : Nat) (hf : F.fn 73) (hro : F.round = none) (hn : 1 ≤ r) (nb m : Nat) (A : List (Nat × Str)) (hA : A.Pairwise (fun p q => p.1 < q.1)) (w : World) (hnb : nb < w.heap.size)
    (hB : w.cell? ⟨nb, 0, none⟩ = some (.map (some m))) (es : Array MapEntry) (clock : Nat) (hm : w.heap[m]? = some (.map es clock)) (hR : MapRep es clock A) :
    SeqGives F r Try.prog 73 #[.pointer (some ⟨nb, 0, none⟩)] (Value.int .i64) (fun ss => ∃ k : List Nat, k.Perm (A.map (·.1)) ∧ ss = k.map Int.ofNat) A.length w := fun l J W hW hJ hY h0 =>
  keys1_in F r hf hro hn l nb m A hA J hY W hJ ((hW.cell (p := ⟨nb, 0, none⟩) hnb).trans hB) es clock ((hW.block m (Array.getElem?_eq_some_iff.1 hm).1).trans hm) hR h0
end Go.Proofs.Ytckopikeegegkaa
