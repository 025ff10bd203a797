/- PAGEBACK: the walk of the law. -/
import Derived.Test.YtckopikeegegkaaPageTorn
import Derived.Test.YtckopikeegegkaaPure8
namespace Go.Proofs.Ytckopikeegegkaa
open Go.RowKit Go.MapKept Go.Shelf
set_option linter.unusedSimpArgs false
set_option linter.unusedVariables false
abbrev u8V (x : Int) : Value := .int .u8 x
abbrev strV (s : Str) : Value := .string (bs s)
theorem pb_make : Dk.make 64 = some (Dk.zero 64) := by kernel_rfl
theorem pb_zero : ∀ k : Fin 16, pgRead (Dk.zero 64) (k.val : Int) = ([], 0) := by decide +kernel
def Wz : List Str := List.replicate 16 []
theorem pb_zeroV (w : World) : (zeroValue 68).run Try.prog w = .ok (.agg (Wz.map strV).toArray) w := by kernel_rfl
structure Back (D : Dk) (ws : List Str) : Prop where
  left : D.left = -1
  len : D.there.length = 64
  reads : ∀ k : Nat, k < 16 → pgRead D k = (ws.getD k [], 0)
  many : ws.length = 16
theorem wz_get : ∀ k : Fin 16, Wz.getD k.val [] = [] := by decide
theorem back_zero : Back (Dk.zero 64) Wz := ⟨rfl, by kernel_rfl, fun k hk => by rw [pb_zero ⟨k, hk⟩]; rw [wz_get ⟨k, hk⟩], by simp [Wz]⟩
theorem back_write {D : Dk} {ws : List Str} (h : Back D ws) {k : Nat} (hk : k < 16) {b : Str} (hb : b.length ≤ 254) : pgWrite D k b = (0, wrote4 D k (pgBody b)) ∧ Back (wrote4 D k (pgBody b)) (ws.set k b) := by
  have hl := h.len
  refine ⟨pgWrite_done (by omega) hb h.left, wrote4_left h.left _ _, by rw [wrote4_there]; exact hl, fun j hj => ?_, by rw [List.length_set]; exact h.many⟩
  by_cases e : j = k
  · subst e
    rw [pgRead_wrote4 (by omega) hb]
    simp [List.getD_eq_getElem?_getD, h.many, hk]
  · rw [pgRead_other e, h.reads j hj]
    simp [List.getD_eq_getElem?_getD, List.getElem?_set, Ne.symm e]
theorem back_long {D : Dk} {ws : List Str} (h : Back D ws) {k : Nat} (hk : k < 16) {b : Str} (hb : 254 < b.length) : pgWrite D k b = (40, D) := by
  have hl := h.len
  exact pgWrite_long (by omega) hb

set_option maxRecDepth 20000 in
set_option maxHeartbeats 20000000 in
theorem pageBack_walk (nv bv kv : Value) (n : List Int) (bodies : List Str) (keep : List Bool) (w : World) (hn : CellsAt u8V w nv n) (hb : CellsAt strV w bv bodies) (hkv : BoolsAt w kv keep) (hnb : ∀ x ∈ n, 0 ≤ x ∧ x ≤ 255) (hl1 : n.length ≤ maxLen) (hl2 : bodies.length ≤ maxLen) (hl3 : ∀ x ∈ bodies, x.length ≤ maxLen) :
    Calls Try.prog 11 #[nv, bv, kv] w fun e w' => e = .returned (.bool true) ∧ Keeps noB w w' := by
  have haw := fun W => awake4_calls W
  obtain ⟨an, cn, rfl⟩ := hn.form
  obtain ⟨ab, cb, rfl⟩ := hb.form
  obtain ⟨ak, ck, rfl⟩ := hkv.form
  by_cases hg : 60 < n.length
  · have g0 : decide (60 < (n.length : Int)) = true := by simp; omega
    go_enter Try.func11, Try.ntmps11
    go_wp2_with (go_at_call 15; refine (haw _).mono ?_; rintro e W1 ⟨rfl, q1⟩)
    go_ret
    exact ⟨rfl, q1⟩
  have g0 : decide (60 < (n.length : Int)) = false := by simp; omega
  by_cases hg2 : 400 < keep.length
  · have g1 : decide (400 < (keep.length : Int)) = true := by simp; omega
    go_enter Try.func11, Try.ntmps11
    go_wp2_with (go_at_call 15; refine (haw _).mono ?_; rintro e W1 ⟨rfl, q1⟩)
    go_ret
    exact ⟨rfl, q1⟩
  have g1 : decide (400 < (keep.length : Int)) = false := by simp; omega
  have hmk := pb_make
  have hB0 := back_zero
  generalize Dk.zero 64 = D0 at *
  go_enter Try.func11, Try.ntmps11
  go_wp2_with (first | (go_at_call 15; refine (haw _).mono ?_; rintro e W1 ⟨rfl, q1⟩) | (go_at_call 16; refine (dNew hmk).mono ?_; rintro e W2 ⟨p, q, j, rfl, hA, q2, lp, lq, lm⟩) | (with_reducible refine wpl_alloc 68 (Wz.map strV) rfl pb_zeroV rfl ?_))
  have hk : Keeps noB w (W2.alloc (.cells (Wz.map strV).toArray 68)) := (q1.trans q2).alloc _
  have s1 := q1.size
  replace lp : w.heap.size ≤ p := by omega
  replace lq : w.heap.size ≤ q := by omega
  replace lm : w.heap.size ≤ j := by omega
  have x1 := hA.lt_p; have x2 := hA.lt_q; have x3 := hA.lt_m
  have f9 := heap_alloc_eq W2 (.cells (Wz.map strV).toArray 68) _ rfl
  replace hA := hA.alloc (.cells (Wz.map strV).toArray 68)
  clear haw q1 q2 hmk
  generalize hW3 : W2.alloc (.cells (Wz.map strV).toArray 68) = W3 at *
  generalize W2.heap.size = b9 at *
  clear hW3
  go_loopw [10] (fun i wr => ∃ (k : Nat) (D : Dk) (ws : List Str), k ≤ n.length ∧ k ≤ bodies.length ∧ i = .int .i64 k ∧ DiskAt wr p q j D ∧ Back D ws ∧ wr.heap[b9]? = some (.cells (ws.map strV).toArray 68) ∧ Keeps noB w wr) (fun i _ => n.length - (intOf i).toNat)
  case atStart => exact ⟨0, D0, Wz, by omega, by omega, rfl, hA, hB0, f9, hk⟩
  case round =>
    obtain ⟨k, D, ws, hk1, hk2, rfl, hA, hB, f9, hk⟩ := hrel
    by_cases c1 : k < n.length
    · have d1 : decide ((k : Int) < (n.length : Int)) = true := by rw [decide_eq_true_eq]; omega
      by_cases c2 : k < bodies.length
      · have d2 : decide ((k : Int) < (bodies.length : Int)) = true := by rw [decide_eq_true_eq]; omega
        obtain ⟨a0, rfl, hc0⟩ := hn.at_ k c1
        obtain ⟨a1, rfl, hc1⟩ := hb.at_ k c2
        have hx := hnb _ (List.getElem_mem c1)
        have hbl := hl3 _ (List.getElem_mem c2)
        generalize n[k] = x at *
        generalize bodies[k] = b at *
        have y0 := cell_keeps hk hc0 (fun q => q)
        have y1 := cell_keeps hk hc1 (fun q => q)
        obtain ⟨r, hr⟩ : ∃ r : Nat, x % 16 = r := ⟨(x % 16).toNat, by omega⟩
        have hr16 : r < 16 := by omega
        go_wp2_with fail
        refine wp_region_text [(0, true), (1, true), (2, true), (3, true), (4, true), (5, true), (6, true), (7, true), (8, true), (9, true), (10, true), (11, false), (12, true)] (fun W' => W'.cell? (a0.add k) = some (u8V x) ∧ W'.cell? (a1.add k) = some (strV b)) (by kernel_rfl) (by kernel_rfl) (fun d _ _ _ _ h => by cases d <;> exact h) ⟨y0, y1⟩ ?_
        iterate 11 (apply wpText_take; rfl; rfl; (intro W hS; (try dsimp only at hS); (try (have hS1 := hS.1; have hS2 := hS.2)); go_simp; exact rfl); try simp only [Act.put, List.setIfInBounds_toArray, List.set_cons_succ, List.set_cons_zero])
        apply wpText_goL; rfl; intro K hK
        by_cases hb4 : b.length ≤ 254
        · have d4 : decide ((b.length : Int) ≤ 254) = true := by rw [decide_eq_true_eq]; omega
          obtain ⟨e1, hB'⟩ := back_write hB hr16 hb4
          generalize wrote4 D r (pgBody b) = D' at *
          go_wp2_with (go_at_call 21; rw [hr]; (with_reducible refine (dPwrite (by first | exact hA | exact hA.alloc _ | exact (hA.alloc _).alloc _ | exact hA.drew | exact hA.drew.alloc _) e1).mono ?_); rintro e Wx ⟨rfl, hx2, kx⟩)
          have n9 : ¬ dset p q j b9 := by simp only [dset]; omega
          have g9 := carry kx f9 n9
          have hk2' := Keeps.trans_new (by first | exact hk | exact hk.alloc _ | exact (hk.alloc _).alloc _ | exact hk.drew | exact hk.drew.alloc _) kx (fun k hk q => by simp only [dset] at q; omega)
          refine hK _ _ ⟨cell_keeps hk2' hc0 (fun q => q), cell_keeps hk2' hc1 (fun q => q)⟩ ?_
          clear hK K kx
          try simp only [Act.put, List.setIfInBounds_toArray, List.set_cons_succ, List.set_cons_zero]
          (apply wpText_take; rfl; rfl; (intro W hS; (try dsimp only at hS); (try (have hS1 := hS.1; have hS2 := hS.2)); go_simp; exact rfl); try simp only [Act.put, List.setIfInBounds_toArray, List.set_cons_succ, List.set_cons_zero])
          apply wpText_done
          have y0 := cell_keeps hk2' hc0 (fun q => q)
          have y1 := cell_keeps hk2' hc1 (fun q => q)
          go_wp2_with fail
          refine wp_region_late [10] [(0, true), (1, true), (2, true), (3, true), (4, true), (5, true), (6, true), (7, true), (8, true), (9, true), (10, false)] (fun W' => W'.cell? (a0.add k) = some (u8V x) ∧ W'.cell? (a1.add k) = some (strV b)) (by kernel_rfl) (by kernel_rfl) (fun d _ _ _ _ h => by cases d <;> exact h) ⟨y0, y1⟩ ?_
          iterate 4 (apply wpLate_take; rfl; rfl; (intro W hS; (try dsimp only at hS); (try (have hS1 := hS.1; have hS2 := hS.2)); go_simp; exact rfl); try simp only [Act.put, List.setIfInBounds_toArray, List.set_cons_succ, List.set_cons_zero])
          apply wpLate_take (v := .int .u8 (r : Nat)); rfl; rfl; (intro W hS; go_simp; rw [Int.tmod_eq_emod_of_nonneg hx.1, hr]); try simp only [Act.put, List.setIfInBounds_toArray, List.set_cons_succ, List.set_cons_zero]
          iterate 4 (apply wpLate_take; rfl; rfl; (intro W hS; (try dsimp only at hS); (try (have hS1 := hS.1; have hS2 := hS.2)); go_simp; exact rfl); try simp only [Act.put, List.setIfInBounds_toArray, List.set_cons_succ, List.set_cons_zero])
          apply wpLate_take (v := .pointer (some ⟨b9, r, none⟩)); rfl; rfl; (intro W hS; go_simp; (first | exact fun h => absurd h (by omega) | exact if_pos (by omega))); try simp only [Act.put, List.setIfInBounds_toArray, List.set_cons_succ, List.set_cons_zero]
          apply wpLate_goL; rfl; intro K hK
          apply wpl_store1 9 (t := 68) (L := ws.map strV) (v := strV b); rfl; rfl; rfl; exact Try.sizeOf9; exact g9; rfl; rfl; (rw [List.length_map, hB.many]; exact hr16); rfl
          have g9' := setBox (W := Wx.drew) g9 ((ws.map strV).set r (strV b))
          have kx := keepsSet (W := Wx.drew) g9 ((ws.map strV).set r (strV b))
          have hA' := hx2.drew.keep kx (by omega) (by omega) (by omega)
          have hk3 := Keeps.trans_new hk2'.drew kx (fun k hk q => by omega)
          refine wpl_end (hK _ _ (fun h => absurd h (by decide)) ?_); clear hK K; try simp only [Act.put, List.setIfInBounds_toArray, List.set_cons_succ, List.set_cons_zero]
          apply wpLate_done
          go_wp2_with fail
          exact ⟨⟨k + 1, D', ws.set r b, by omega, by omega, by simp, hA', hB', by rw [g9', List.map_set], hk3⟩, by simp [intOf]; omega⟩
        · have d4 : decide ((b.length : Int) ≤ 254) = false := by rw [decide_eq_false_iff_not]; omega
          have e1 := back_long hB hr16 (b := b) (by omega)
          go_wp2_with (go_at_call 21; rw [hr]; (with_reducible refine (dPwrite (by first | exact hA | exact hA.alloc _ | exact (hA.alloc _).alloc _ | exact hA.drew | exact hA.drew.alloc _) e1).mono ?_); rintro e Wx ⟨rfl, hx2, kx⟩)
          have n9 : ¬ dset p q j b9 := by simp only [dset]; omega
          have g9 := carry kx f9 n9
          have hk2' := Keeps.trans_new (by first | exact hk | exact hk.alloc _ | exact (hk.alloc _).alloc _ | exact hk.drew | exact hk.drew.alloc _) kx (fun k hk q => by simp only [dset] at q; omega)
          refine hK _ _ ⟨cell_keeps hk2' hc0 (fun q => q), cell_keeps hk2' hc1 (fun q => q)⟩ ?_
          clear hK K kx
          try simp only [Act.put, List.setIfInBounds_toArray, List.set_cons_succ, List.set_cons_zero]
          (apply wpText_take; rfl; rfl; (intro W hS; (try dsimp only at hS); (try (have hS1 := hS.1; have hS2 := hS.2)); go_simp; exact rfl); try simp only [Act.put, List.setIfInBounds_toArray, List.set_cons_succ, List.set_cons_zero])
          apply wpText_done
          have y0 := cell_keeps hk2' hc0 (fun q => q)
          have y1 := cell_keeps hk2' hc1 (fun q => q)
          go_wp2_with fail
          exact ⟨⟨k + 1, D, ws, by omega, by omega, by simp, hx2, hB, g9, hk2'⟩, by simp [intOf]; omega⟩
      · have d2 : decide ((k : Int) < (bodies.length : Int)) = false := by rw [decide_eq_false_iff_not]; omega
        obtain ⟨E1, E2, e1, e2, e3, e4⟩ := pgRead_flushed hA.wf hB.left keep 0 0 (by decide)
        have hz : 0 ≤ wr.heap.size := Nat.zero_le _
        go_wp2_with (first | (go_at_call 31; refine (dFlush (by first | exact hA | exact hA.alloc _ | exact (hA.alloc _).alloc _ | exact hA.drew | exact hA.drew.alloc _) (by assumption)).mono ?_; rintro e Wx ⟨rfl, hx, kx⟩; have zx := kx.size; (try simp only [World.size_alloc, World.size_drew] at zx); (first | replace f9 := carry kx f9 (by first | exact (fun q => q) | (simp only [dset]; omega) | omega | (dsimp only; omega)) | replace f9 := carry kx (blk_alloc f9 _) (by first | exact (fun q => q) | (simp only [dset]; omega) | omega | (dsimp only; omega)) | replace f9 := carry kx (blk_alloc (blk_alloc f9 _) _) (by first | exact (fun q => q) | (simp only [dset]; omega) | omega | (dsimp only; omega))); replace hk := Keeps.trans_new (by first | exact hk | exact hk.alloc _ | exact (hk.alloc _).alloc _ | exact hk.drew | exact hk.drew.alloc _) kx (fun k hk q => by first | exact q.elim | (simp only [dset] at q; omega) | omega | (dsimp only at q; omega)); replace hz := Nat.le_trans hz (Nat.le_trans (by omega) zx); replace hA := hx; clear hx kx zx) | (go_at_call 29; refine (dCrash (by first | exact hA | exact hA.alloc _ | exact (hA.alloc _).alloc _ | exact hA.drew | exact hA.drew.alloc _) (BoolsAt.carry hkv (by first | exact hk | exact hk.alloc _ | exact (hk.alloc _).alloc _ | exact hk.drew | exact hk.drew.alloc _)) (hkv.apart (by omega) (by omega) (by omega)) (by assumption)).mono ?_; rintro e Wx ⟨rfl, hx, kx⟩; have zx := kx.size; (try simp only [World.size_alloc, World.size_drew] at zx); (first | replace f9 := carry kx f9 (by first | exact (fun q => q) | (simp only [dset]; omega) | omega | (dsimp only; omega)) | replace f9 := carry kx (blk_alloc f9 _) (by first | exact (fun q => q) | (simp only [dset]; omega) | omega | (dsimp only; omega)) | replace f9 := carry kx (blk_alloc (blk_alloc f9 _) _) (by first | exact (fun q => q) | (simp only [dset]; omega) | omega | (dsimp only; omega))); replace hk := Keeps.trans_new (by first | exact hk | exact hk.alloc _ | exact (hk.alloc _).alloc _ | exact hk.drew | exact hk.drew.alloc _) kx (fun k hk q => by first | exact q.elim | (simp only [dset] at q; omega) | omega | (dsimp only at q; omega)); replace hz := Nat.le_trans hz (Nat.le_trans (by omega) zx); replace hA := hx; clear hx kx zx))
        have e5 : ∀ k : Nat, k < 16 → pgRead E2 k = (ws.getD k [], 0) := fun k hk => by rw [e4 k]; exact hB.reads k hk
        have hm := hB.many
        clear hz e1 e2 e3 e4
        go_loopw [12] (fun i wr => ∃ k : Nat, k ≤ 16 ∧ i = .int .i64 k ∧ DiskAt wr p q j E2 ∧ wr.heap[b9]? = some (.cells (ws.map strV).toArray 68) ∧ Keeps noB w wr) (fun i _ => 16 - (intOf i).toNat)
        case atStart => exact ⟨0, by omega, rfl, hA, f9, hk⟩
        case round =>
          obtain ⟨k, hk1, rfl, hA, f9, hk⟩ := hrel
          by_cases c : k < 16
          · have d : decide ((k : Int) < 16) = true := by rw [decide_eq_true_eq]; omega
            have e6 := e5 k c
            have hz : 0 ≤ wr.heap.size := Nat.zero_le _
            have c9 : ∀ W : World, W.heap[b9]? = some (.cells (ws.map strV).toArray 68) → W.cell? ⟨b9, k, none⟩ = some (strV (ws.getD k [])) := fun W f => cell_blk f k _ (by simp [List.getD_eq_getElem?_getD, hm, c])
            generalize ws.getD k [] = s at *
            go_wp2_with ((go_at_call 19; (with_reducible refine (dPread (by first | exact hA | exact hA.alloc _ | exact (hA.alloc _).alloc _ | exact hA.drew | exact hA.drew.alloc _) e6).mono ?_); rintro e Wx ⟨rfl, hx, kx⟩; skip; have zx := kx.size; (try simp only [World.size_alloc, World.size_drew] at zx); (first | replace f9 := carry kx f9 (by first | exact (fun q => q) | (simp only [dset]; omega) | omega | (dsimp only; omega)) | replace f9 := carry kx (blk_alloc f9 _) (by first | exact (fun q => q) | (simp only [dset]; omega) | omega | (dsimp only; omega)) | replace f9 := carry kx (blk_alloc (blk_alloc f9 _) _) (by first | exact (fun q => q) | (simp only [dset]; omega) | omega | (dsimp only; omega))); replace hk := Keeps.trans_new (by first | exact hk | exact hk.alloc _ | exact (hk.alloc _).alloc _ | exact hk.drew | exact hk.drew.alloc _) kx (fun k hk q => by first | exact q.elim | (simp only [dset] at q; omega) | omega | (dsimp only at q; omega)); replace hz := Nat.le_trans hz (Nat.le_trans (by omega) zx); replace hA := hx; clear hx kx zx); have c9' := c9 _ f9)
            all_goals first | exact ⟨⟨k + 1, by omega, by simp, hA, f9, hk⟩, by simp [intOf]; omega⟩ | trace_state
          · obtain rfl : k = 16 := by omega
            go_wp2
            go_ret
            exact ⟨rfl, hk⟩
    · have d1 : decide ((k : Int) < (n.length : Int)) = false := by rw [decide_eq_false_iff_not]; omega
      obtain ⟨E1, E2, e1, e2, e3, e4⟩ := pgRead_flushed hA.wf hB.left keep 0 0 (by decide)
      have hz : 0 ≤ wr.heap.size := Nat.zero_le _
      go_wp2_with (first | (go_at_call 31; refine (dFlush (by first | exact hA | exact hA.alloc _ | exact (hA.alloc _).alloc _ | exact hA.drew | exact hA.drew.alloc _) (by assumption)).mono ?_; rintro e Wx ⟨rfl, hx, kx⟩; have zx := kx.size; (try simp only [World.size_alloc, World.size_drew] at zx); (first | replace f9 := carry kx f9 (by first | exact (fun q => q) | (simp only [dset]; omega) | omega | (dsimp only; omega)) | replace f9 := carry kx (blk_alloc f9 _) (by first | exact (fun q => q) | (simp only [dset]; omega) | omega | (dsimp only; omega)) | replace f9 := carry kx (blk_alloc (blk_alloc f9 _) _) (by first | exact (fun q => q) | (simp only [dset]; omega) | omega | (dsimp only; omega))); replace hk := Keeps.trans_new (by first | exact hk | exact hk.alloc _ | exact (hk.alloc _).alloc _ | exact hk.drew | exact hk.drew.alloc _) kx (fun k hk q => by first | exact q.elim | (simp only [dset] at q; omega) | omega | (dsimp only at q; omega)); replace hz := Nat.le_trans hz (Nat.le_trans (by omega) zx); replace hA := hx; clear hx kx zx) | (go_at_call 29; refine (dCrash (by first | exact hA | exact hA.alloc _ | exact (hA.alloc _).alloc _ | exact hA.drew | exact hA.drew.alloc _) (BoolsAt.carry hkv (by first | exact hk | exact hk.alloc _ | exact (hk.alloc _).alloc _ | exact hk.drew | exact hk.drew.alloc _)) (hkv.apart (by omega) (by omega) (by omega)) (by assumption)).mono ?_; rintro e Wx ⟨rfl, hx, kx⟩; have zx := kx.size; (try simp only [World.size_alloc, World.size_drew] at zx); (first | replace f9 := carry kx f9 (by first | exact (fun q => q) | (simp only [dset]; omega) | omega | (dsimp only; omega)) | replace f9 := carry kx (blk_alloc f9 _) (by first | exact (fun q => q) | (simp only [dset]; omega) | omega | (dsimp only; omega)) | replace f9 := carry kx (blk_alloc (blk_alloc f9 _) _) (by first | exact (fun q => q) | (simp only [dset]; omega) | omega | (dsimp only; omega))); replace hk := Keeps.trans_new (by first | exact hk | exact hk.alloc _ | exact (hk.alloc _).alloc _ | exact hk.drew | exact hk.drew.alloc _) kx (fun k hk q => by first | exact q.elim | (simp only [dset] at q; omega) | omega | (dsimp only at q; omega)); replace hz := Nat.le_trans hz (Nat.le_trans (by omega) zx); replace hA := hx; clear hx kx zx))
      have e5 : ∀ k : Nat, k < 16 → pgRead E2 k = (ws.getD k [], 0) := fun k hk => by rw [e4 k]; exact hB.reads k hk
      have hm := hB.many
      clear hz e1 e2 e3 e4
      go_loopw [12] (fun i wr => ∃ k : Nat, k ≤ 16 ∧ i = .int .i64 k ∧ DiskAt wr p q j E2 ∧ wr.heap[b9]? = some (.cells (ws.map strV).toArray 68) ∧ Keeps noB w wr) (fun i _ => 16 - (intOf i).toNat)
      case atStart => exact ⟨0, by omega, rfl, hA, f9, hk⟩
      case round =>
        obtain ⟨k, hk1, rfl, hA, f9, hk⟩ := hrel
        by_cases c : k < 16
        · have d : decide ((k : Int) < 16) = true := by rw [decide_eq_true_eq]; omega
          have e6 := e5 k c
          have hz : 0 ≤ wr.heap.size := Nat.zero_le _
          have c9 : ∀ W : World, W.heap[b9]? = some (.cells (ws.map strV).toArray 68) → W.cell? ⟨b9, k, none⟩ = some (strV (ws.getD k [])) := fun W f => cell_blk f k _ (by simp [List.getD_eq_getElem?_getD, hm, c])
          generalize ws.getD k [] = s at *
          go_wp2_with ((go_at_call 19; (with_reducible refine (dPread (by first | exact hA | exact hA.alloc _ | exact (hA.alloc _).alloc _ | exact hA.drew | exact hA.drew.alloc _) e6).mono ?_); rintro e Wx ⟨rfl, hx, kx⟩; skip; have zx := kx.size; (try simp only [World.size_alloc, World.size_drew] at zx); (first | replace f9 := carry kx f9 (by first | exact (fun q => q) | (simp only [dset]; omega) | omega | (dsimp only; omega)) | replace f9 := carry kx (blk_alloc f9 _) (by first | exact (fun q => q) | (simp only [dset]; omega) | omega | (dsimp only; omega)) | replace f9 := carry kx (blk_alloc (blk_alloc f9 _) _) (by first | exact (fun q => q) | (simp only [dset]; omega) | omega | (dsimp only; omega))); replace hk := Keeps.trans_new (by first | exact hk | exact hk.alloc _ | exact (hk.alloc _).alloc _ | exact hk.drew | exact hk.drew.alloc _) kx (fun k hk q => by first | exact q.elim | (simp only [dset] at q; omega) | omega | (dsimp only at q; omega)); replace hz := Nat.le_trans hz (Nat.le_trans (by omega) zx); replace hA := hx; clear hx kx zx); have c9' := c9 _ f9)
          all_goals first | exact ⟨⟨k + 1, by omega, by simp, hA, f9, hk⟩, by simp [intOf]; omega⟩ | trace_state
        · obtain rfl : k = 16 := by omega
          go_wp2
          go_ret
          exact ⟨rfl, hk⟩
end Go.Proofs.Ytckopikeegegkaa
