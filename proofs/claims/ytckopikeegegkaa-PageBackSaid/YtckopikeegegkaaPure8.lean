/- PURE 8: what was written to a page is read there; other pages are what they were. -/
import Derived.Test.YtckopikeegegkaaPure7
namespace Go.Proofs.Ytckopikeegegkaa
theorem hasPage_same {d d' : Dk} (h : d'.there.length = d.there.length) (n : Int) : hasPage d' n = hasPage d n := by unfold hasPage pages; rw [h]
theorem hasPage_nat {d : Dk} {n : Nat} : hasPage d n = true ↔ 4 * n + 3 < d.there.length := by
  unfold hasPage pages
  simp only [Bool.and_eq_true, decide_eq_true_eq]
  omega
theorem pgRead_same {d d' : Dk} (h : d'.there.length = d.there.length) (n : Nat) (hn : ∀ k, 4 * n ≤ k → k < 4 * n + 4 → d'.now k = d.now k) : pgRead d' n = pgRead d n := by
  unfold pgRead
  rw [hasPage_same h]
  have : pageOf d' ((n : Int)).toNat = pageOf d ((n : Int)).toNat := by
    simp only [Int.toNat_natCast]
    unfold pageOf
    rw [hn _ (by omega) (by omega), hn _ (by omega) (by omega), hn _ (by omega) (by omega), hn _ (by omega) (by omega)]
  rw [this]
theorem sub_length (l : Str) {a b : Nat} (h : b ≤ l.length) : (sub l a b).length = b - a := by unfold sub; rw [List.length_take, List.length_drop]; omega
/-- A page's four sectors, written. -/
def wrote4 (d : Dk) (n : Nat) (b : Str) : Dk := wrote (wrote (wrote (wrote d (4 * n) (sub b 0 64)) (4 * n + 1) (sub b 64 128)) (4 * n + 2) (sub b 128 192)) (4 * n + 3) (sub b 192 256)
theorem wrote4_there (d : Dk) (n : Nat) (b : Str) : (wrote4 d n b).there = d.there := rfl
theorem wrote4_now (d : Dk) (n : Nat) (b : Str) (k : Nat) : (wrote4 d n b).now k = if 4 * n ≤ k ∧ k < 4 * n + 4 then sub b (64 * (k - 4 * n)) (64 * (k - 4 * n) + 64) else d.now k := by
  unfold wrote4
  rw [now_wrote, now_wrote, now_wrote, now_wrote]
  by_cases h : 4 * n ≤ k ∧ k < 4 * n + 4
  · rw [if_pos h]
    obtain ⟨j, hj, rfl⟩ : ∃ j, j < 4 ∧ k = 4 * n + j := ⟨k - 4 * n, by omega, by omega⟩
    rw [show 4 * n + j - 4 * n = j by omega]
    rcases (by omega : j = 0 ∨ j = 1 ∨ j = 2 ∨ j = 3) with rfl | rfl | rfl | rfl
    · rw [if_neg (by omega), if_neg (by omega), if_neg (by omega), if_pos (by omega)]
    · rw [if_neg (by omega), if_neg (by omega), if_pos (by omega)]
    · rw [if_neg (by omega), if_pos (by omega)]
    · rw [if_pos (by omega)]
  · rw [if_neg h, if_neg (by omega), if_neg (by omega), if_neg (by omega), if_neg (by omega)]
theorem wrote4_left {d : Dk} (h : d.left = -1) (n : Nat) (b : Str) : (wrote4 d n b).left = -1 := by
  unfold wrote4
  simp only [wrote_left, h]; rfl
theorem wrote4_wf {d : Dk} (hw : d.Wf) {n : Nat} {b : Str} (hn : 4 * n + 3 < d.there.length) (hb : b.length = 256) : (wrote4 d n b).Wf := by
  unfold wrote4
  refine wrote_wf (wrote_wf (wrote_wf (wrote_wf hw (by omega) ?_) ?_ ?_) ?_ ?_) ?_ ?_
  all_goals first | (rw [sub_length _ (by omega)]) | (simp only [wrote_there]; omega)
theorem rng4 : rng 4 = [0, 1, 2, 3] := by decide
theorem pgWrite_done {d : Dk} {n : Nat} {b : Str} (hn : 4 * n + 3 < d.there.length) (hb : b.length ≤ 254) (hl : d.left = -1) : pgWrite d n b = (0, wrote4 d n (pgBody b)) := by
  have hB := pgBody_length hb
  unfold pgWrite
  rw [if_neg (by rw [hasPage_nat.2 hn]; simp), if_neg (by omega), rng4]
  generalize pgBody b = B at *
  have s : ∀ (d : Dk) (j : Nat) (a c : Nat), d.there.length > 4 * n + j → d.left = -1 → c ≤ 256 → c - a = 64 → d.write ((n : Int) * 4 + (j : Int)) (sub B a c) = (0, wrote d (4 * n + j) (sub B a c)) := fun d j a c h1 h2 h3 h4 => by
    have := write_done (d := d) (n := 4 * n + j) (s := sub B a c) (by omega) (by rw [sub_length _ (by omega)]; omega) (by omega)
    rw [← this]; congr 1; omega
  have l1 : ∀ (d : Dk) (k : Nat) (t : Str), d.left = -1 → (wrote d k t).left = -1 := fun d k t h => by rw [wrote_left, h]; rfl
  have e0 := s d 0 0 64 (by omega) hl (by omega) (by omega)
  have e1 := s (wrote d (4 * n) (sub B 0 64)) 1 64 128 (by rw [wrote_there]; omega) (l1 _ _ _ hl) (by omega) (by omega)
  have e2 := s (wrote (wrote d (4 * n) (sub B 0 64)) (4 * n + 1) (sub B 64 128)) 2 128 192 (by simp only [wrote_there]; omega) (l1 _ _ _ (l1 _ _ _ hl)) (by omega) (by omega)
  have e3 := s (wrote (wrote (wrote d (4 * n) (sub B 0 64)) (4 * n + 1) (sub B 64 128)) (4 * n + 2) (sub B 128 192)) 3 192 256 (by simp only [wrote_there]; omega) (l1 _ _ _ (l1 _ _ _ (l1 _ _ _ hl))) (by omega) (by omega)
  simp only [wrun]
  have v0 : ((0 : Fin 4).val : Int) = ((0 : Nat) : Int) := rfl
  have v1 : ((1 : Fin 4).val : Int) = ((1 : Nat) : Int) := rfl
  have v2 : ((2 : Fin 4).val : Int) = ((2 : Nat) : Int) := rfl
  have v3 : ((3 : Fin 4).val : Int) = ((3 : Nat) : Int) := rfl
  have w0 : (0 : Fin 4).val = 0 := rfl
  have w1 : (1 : Fin 4).val = 1 := rfl
  have w2 : (2 : Fin 4).val = 2 := rfl
  have w3 : (3 : Fin 4).val = 3 := rfl
  simp only [w0, w1, w2, w3, Nat.zero_mul, Nat.one_mul, Nat.reduceMul, Nat.reduceAdd, Nat.zero_add]
  rw [e0]
  simp only [if_true, Nat.add_zero]
  rw [e1]
  simp only [if_true]
  rw [e2]
  simp only [if_true]
  rw [e3]
  simp only [if_true]
  rfl
theorem subs_join (b : Str) (h : b.length = 256) : sub b 0 64 ++ (sub b 64 128 ++ (sub b 128 192 ++ sub b 192 256)) = b := by
  unfold sub
  rw [List.drop_zero]
  simp only [Nat.sub_zero, Nat.reduceSub]
  have e : (b.drop 192).take 64 = b.drop 192 := List.take_of_length_le (by rw [List.length_drop]; omega)
  have f : ∀ k, (b.drop k).take 64 ++ b.drop (k + 64) = b.drop k := fun k => by
    rw [← List.drop_drop]; exact List.take_append_drop 64 (b.drop k)
  rw [e, f 128, f 64]
  exact List.take_append_drop 64 b
theorem pageOf_wrote4 (d : Dk) (n : Nat) (b : Str) (h : b.length = 256) : pageOf (wrote4 d n b) n = b := by
  unfold pageOf
  rw [wrote4_now, wrote4_now, wrote4_now, wrote4_now, if_pos (by omega), if_pos (by omega), if_pos (by omega), if_pos (by omega)]
  rw [show 4 * n - 4 * n = 0 by omega, show 4 * n + 1 - 4 * n = 1 by omega, show 4 * n + 2 - 4 * n = 2 by omega, show 4 * n + 3 - 4 * n = 3 by omega]
  exact subs_join b h
theorem read_body (b : Str) (h : b.length ≤ 254) : ((pgBody b).getD 0 0).toNat * 256 + ((pgBody b).getD 1 0).toNat = b.length ∧ ((pgBody b).drop 2).take b.length = b := by
  constructor
  · show (UInt8.ofNat (b.length / 256)).toNat * 256 + (UInt8.ofNat (b.length % 256)).toNat = b.length
    simp; omega
  · show (b ++ List.replicate (254 - b.length) 0).take b.length = b
    simp
theorem pgRead_of {d : Dk} {n : Nat} {B b : Str} (hp : hasPage d n = true) (hB : pageOf d n = B) (h1 : (B.getD 0 0).toNat * 256 + (B.getD 1 0).toNat = b.length) (h2 : (B.drop 2).take b.length = b) (hb : b.length ≤ 254) : pgRead d n = (b, 0) := by
  unfold pgRead
  rw [if_neg (by rw [hp]; simp)]
  simp only [Int.toNat_natCast]
  rw [hB, h1]
  rw [h2]
  exact if_neg (by omega)
theorem pgRead_wrote4 {d : Dk} {n : Nat} {b : Str} (hn : 4 * n + 3 < d.there.length) (hb : b.length ≤ 254) : pgRead (wrote4 d n (pgBody b)) n = (b, 0) :=
  pgRead_of (hasPage_nat.2 (by rw [wrote4_there]; exact hn)) (pageOf_wrote4 d n _ (pgBody_length hb)) (read_body b hb).1 (read_body b hb).2 hb
theorem pgRead_other {d : Dk} {n k : Nat} {b : Str} (h : k ≠ n) : pgRead (wrote4 d n b) k = pgRead d k :=
  pgRead_same (by rw [wrote4_there]) k (fun j h1 h2 => by rw [wrote4_now, if_neg (by omega)])
theorem pgWrite_long {d : Dk} {n : Nat} {b : Str} (hn : 4 * n + 3 < d.there.length) (h : 254 < b.length) : pgWrite d n b = (40, d) := by
  unfold pgWrite
  rw [if_neg (by rw [hasPage_nat.2 hn]; simp)]
  exact if_pos h
/-- Behind a flush, and a crash, all is read as it was. -/
theorem pgRead_flushed {d : Dk} (hw : d.Wf) (hl : d.left = -1) (keep : List Bool) (torn cut : Int) (hc : 0 ≤ cut ∧ cut ≤ 64) : ∃ D1 D2, d.flush = (0, D1) ∧ D1.crash keep torn cut = (0, D2) ∧ D2.there.length = d.there.length ∧ ∀ k : Nat, pgRead D2 k = pgRead d k := by
  refine ⟨_, ⟨Dk.settle d.aside d.there, [], -1⟩, flush_done hl, ?_, settle_length _ _, fun k => ?_⟩
  · unfold Dk.crash
    rw [if_neg (by omega)]
    rfl
  · refine pgRead_same (settle_length _ _) k (fun j _ _ => ?_)
    rw [now_flat rfl]
    exact flush_getD hw j
end Go.Proofs.Ytckopikeegegkaa
