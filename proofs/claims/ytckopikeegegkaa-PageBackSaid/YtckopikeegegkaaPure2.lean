/- PURE 2: what is read behind a write; roots. -/
import Derived.Test.YtckopikeegegkaaPage6
namespace Go.Proofs.Ytckopikeegegkaa

theorem look_put_same (n : Nat) (s : Str) : ∀ A, Dk.look n (Dk.put n s A) = some s
  | [] => by simp [Dk.put, Dk.look]
  | p :: l => by
    unfold Dk.put
    split
    · simp [Dk.look]
    · split
      · simp [Dk.look]
      · rename_i h1 h2; unfold Dk.look; rw [if_neg h2]; exact look_put_same n s l
theorem look_put_other {n k : Nat} (s : Str) (h : n ≠ k) : ∀ A, Dk.look k (Dk.put n s A) = Dk.look k A
  | [] => by simp [Dk.put, Dk.look, h]
  | p :: l => by
    unfold Dk.put
    split
    · simp [Dk.look, h]
    · split
      · rename_i h1 h2
        simp only [Dk.look]
        rw [if_neg h, if_neg (by omega)]
      · rename_i h1 h2
        simp only [Dk.look]
        rw [look_put_other s h l]
/-- What a write does that is done. -/
def wrote (d : Dk) (n : Nat) (s : Str) : Dk := { d with left := Dk.burnt d.left, aside := Dk.put n s d.aside }
theorem write_done {d : Dk} {n : Nat} {s : Str} (hn : n < d.there.length) (hs : s.length = 64) (hl : d.left ≠ 0) : d.write n s = (0, wrote d n s) := by
  have : d.has n = true := by simp [Dk.has, hn]
  simp [Dk.write, this, hs, hl, wrote]
theorem now_wrote (d : Dk) (n k : Nat) (s : Str) : (wrote d n s).now k = if n = k then s else d.now k := by
  unfold Dk.now wrote
  split
  · rename_i h; subst h; rw [look_put_same]; rfl
  · rename_i h; rw [look_put_other s h]
theorem wrote_there (d : Dk) (n : Nat) (s : Str) : (wrote d n s).there = d.there := rfl
theorem wrote_left (d : Dk) (n : Nat) (s : Str) : (wrote d n s).left = Dk.burnt d.left := rfl
theorem burnt_none {x : Int} (h : x = -1) : Dk.burnt x = -1 := by subst h; rfl

/-! Roots. -/
theorem big_byte (e : Nat) (h : e ≤ 1099511627776) : big ((List.range 8).map (fun i => UInt8.ofNat (e / 256 ^ (7 - i) % 256))) = e := by
  have hr : (List.range 8) = [0, 1, 2, 3, 4, 5, 6, 7] := by decide
  have s : ∀ k, e / 256 ^ (k + 1) * 256 + e / 256 ^ k % 256 = e / 256 ^ k := fun k => by
    rw [Nat.pow_succ, ← Nat.div_div_eq_div_mul]; exact Nat.div_add_mod' _ _
  have t : ∀ x : Nat, (UInt8.ofNat (x % 256)).toNat = x % 256 := fun x => by simp
  have z : 0 * 256 + e / 256 ^ 7 % 256 = e / 256 ^ 7 := by
    have : e / 256 ^ 7 < 256 := by
      rw [Nat.div_lt_iff_lt_mul (Nat.pow_pos (by decide))]
      exact Nat.lt_of_le_of_lt h (by decide)
    rw [Nat.mod_eq_of_lt this]; omega
  rw [hr]
  simp only [List.map_cons, List.map_nil, big, List.foldl_cons, List.foldl_nil, t]
  show ((((((((0 * 256 + e / 256 ^ 7 % 256) * 256 + e / 256 ^ 6 % 256) * 256 + e / 256 ^ 5 % 256) * 256 + e / 256 ^ 4 % 256) * 256 + e / 256 ^ 3 % 256) * 256 + e / 256 ^ 2 % 256) * 256 + e / 256 ^ 1 % 256) * 256 + e / 256 ^ 0 % 256) = e
  rw [z, s 6, s 5, s 4, s 3, s 2, s 1, s 0, Nat.pow_zero, Nat.div_one]
theorem rootOf_rootText {m : Mk} (h : mayRoot m = true) : rootOf (rootText m) = m := by
  obtain ⟨on, e, g⟩ := m
  simp only [mayRoot, Bool.and_eq_true, decide_eq_true_eq] at h
  obtain ⟨h1, h2, h3, h4⟩ := h
  obtain ⟨e, rfl⟩ : ∃ k : Nat, e = k := ⟨e.toNat, by omega⟩
  obtain ⟨g, rfl⟩ : ∃ k : Nat, g = k := ⟨g.toNat, by omega⟩
  have hl : ((List.range 8).map (fun i => UInt8.ofNat (e / 256 ^ (7 - i) % 256))).length = 8 := by simp
  have b1 := big_byte e (by omega)
  have hb : rootText ⟨on, e, g⟩ = (if on then 1 else 0) :: ((List.range 8).map (fun i => UInt8.ofNat (e / 256 ^ (7 - i) % 256)) ++ (UInt8.ofNat (g / 256) :: UInt8.ofNat (g % 256) :: List.replicate 53 0)) := rfl
  rw [hb]
  generalize (List.range 8).map (fun i => UInt8.ofNat (e / 256 ^ (7 - i) % 256)) = M at *
  have e1 : sub ((if on then 1 else 0) :: (M ++ (UInt8.ofNat (g / 256) :: UInt8.ofNat (g % 256) :: List.replicate 53 0))) 1 9 = M := by
    unfold sub
    rw [List.drop_succ_cons, List.drop_zero, List.take_append_of_le_length (by omega), List.take_of_length_le (by omega)]
  have e2 : sub ((if on then 1 else 0) :: (M ++ (UInt8.ofNat (g / 256) :: UInt8.ofNat (g % 256) :: List.replicate 53 0))) 9 11 = [UInt8.ofNat (g / 256), UInt8.ofNat (g % 256)] := by
    unfold sub
    rw [List.drop_succ_cons, List.drop_append, List.drop_of_length_le (by omega), hl]
    rfl
  unfold rootOf
  have b2 : big [UInt8.ofNat (g / 256), UInt8.ofNat (g % 256)] = g := by
    simp only [big, List.foldl_cons, List.foldl_nil, UInt8.toNat_ofNat']
    omega
  simp only [e1, e2, b1, b2, if_neg (show ¬ 1099511627776 < e by omega), if_neg (show ¬ 1024 ≤ g by omega)]
  cases on <;> rfl
theorem set_on (d : Dk) {a : Nat} {m : Mk} (hr : hasRoot d a = true) (hl : d.left ≠ 0) : pgSetRoot d a m = if mayRoot m then (0, wrote d (4 * a) (rootText m)) else (1, d) := by
  have hn : 4 * a < d.there.length := by
    simp only [hasRoot, hasPage, Bool.and_eq_true, decide_eq_true_eq] at hr
    unfold pages at hr
    omega
  unfold pgSetRoot
  rw [hr]
  cases hm : mayRoot m with
  | false => rfl
  | true =>
    have := write_done hn (rootText_length m) hl
    simp only [Bool.not_true, Bool.false_eq_true, if_false, if_true]
    rw [← this]
    congr 1
theorem root_on (d : Dk) {a : Nat} (hr : hasRoot d a = true) : pgRoot d a = (rootOf (d.now (4 * a)), 0) := by
  unfold pgRoot
  rw [hr]
  simp
theorem hasRoot_there {d d' : Dk} (h : d'.there = d.there) (a : Int) : hasRoot d' a = hasRoot d a := by unfold hasRoot hasPage pages; rw [h]
theorem hasRoot_w (d : Dk) (n : Nat) (s : Str) {a : Int} (h : hasRoot d a = true) : hasRoot (wrote d n s) a = true := h
/-- Both roots of a disk, set one behind the other. -/
theorem roots_two (d : Dk) (a b : Nat) (hab : a ≠ b) (ha : hasRoot d a = true) (hb : hasRoot d b = true) (hl : d.left = -1) (za : rootOf (d.now (4 * a)) = ⟨false, 0, 0⟩) (zb : rootOf (d.now (4 * b)) = ⟨false, 0, 0⟩) (m n : Mk) :
    ∃ D1 D2, pgSetRoot d a m = (if mayRoot m then 0 else 1, D1) ∧ pgSetRoot D1 b n = (if mayRoot n then 0 else 1, D2) ∧
      pgRoot D2 a = (if mayRoot m then m else ⟨false, 0, 0⟩, 0) ∧ pgRoot D2 b = (if mayRoot n then n else ⟨false, 0, 0⟩, 0) := by
  have n1 : 4 * a ≠ 4 * b := by omega
  cases hm : mayRoot m <;> cases hn : mayRoot n
  · refine ⟨d, d, ?_, ?_, ?_, ?_⟩
    · rw [set_on d ha (by omega), hm]; rfl
    · rw [set_on d hb (by omega), hn]; rfl
    · rw [root_on d ha, za]; rfl
    · rw [root_on d hb, zb]; rfl
  · refine ⟨d, wrote d (4 * b) (rootText n), ?_, ?_, ?_, ?_⟩
    · rw [set_on d ha (by omega), hm]; rfl
    · rw [set_on d hb (by omega), hn]; rfl
    · rw [root_on _ (hasRoot_w _ _ _ ha), now_wrote, if_neg (Ne.symm n1), za]; rfl
    · rw [root_on _ (hasRoot_w _ _ _ hb), now_wrote, if_pos rfl, rootOf_rootText hn]; rfl
  · refine ⟨wrote d (4 * a) (rootText m), wrote d (4 * a) (rootText m), ?_, ?_, ?_, ?_⟩
    · rw [set_on d ha (by omega), hm]; rfl
    · rw [set_on _ (hasRoot_w _ _ _ hb) (by rw [wrote_left, hl]; decide), hn]; rfl
    · rw [root_on _ (hasRoot_w _ _ _ ha), now_wrote, if_pos rfl, rootOf_rootText hm]; rfl
    · rw [root_on _ (hasRoot_w _ _ _ hb), now_wrote, if_neg n1, zb]; rfl
  · refine ⟨wrote d (4 * a) (rootText m), wrote (wrote d (4 * a) (rootText m)) (4 * b) (rootText n), ?_, ?_, ?_, ?_⟩
    · rw [set_on d ha (by omega), hm]; rfl
    · rw [set_on _ (hasRoot_w _ _ _ hb) (by rw [wrote_left, hl]; decide), hn]; rfl
    · rw [root_on _ (hasRoot_w _ _ _ (hasRoot_w _ _ _ ha)), now_wrote, if_neg (Ne.symm n1), now_wrote, if_pos rfl, rootOf_rootText hm]; rfl
    · rw [root_on _ (hasRoot_w _ _ _ (hasRoot_w _ _ _ hb)), now_wrote, if_pos rfl, rootOf_rootText hn]; rfl
theorem rootOf_zero : rootOf (List.replicate 64 0) = ⟨false, 0, 0⟩ := by kernel_rfl
end Go.Proofs.Ytckopikeegegkaa
