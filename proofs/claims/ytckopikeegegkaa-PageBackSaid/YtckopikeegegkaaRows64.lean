/- ROWS64: a row of sectors, one of which is set. -/
import Derived.Test.YtckopikeegegkaaMem
namespace Go.Proofs.Ytckopikeegegkaa
theorem flat_length : ∀ {t : List Str}, (∀ s ∈ t, s.length = 64) → (t.flatMap encB).length = t.length * 64
  | [], _ => rfl
  | s :: t, h => by
    rw [List.flatMap_cons, List.length_append, encB_length, h s List.mem_cons_self, flat_length (fun x hx => h x (List.mem_cons_of_mem _ hx)), List.length_cons]
    omega
theorem rows_drop {s : Str} (hs : s.length = 64) (l : List Value) (k : Nat) : (encB s ++ l).drop (k + 64) = l.drop k := by
  have e : (encB s ++ l).drop 64 = l := by rw [List.drop_append_of_le_length (by rw [encB_length]; omega), List.drop_of_length_le (by rw [encB_length]; omega), List.nil_append]
  rw [Nat.add_comm k 64, ← List.drop_drop, e]
theorem rows_take {s : Str} (hs : s.length = 64) (l : List Value) (k : Nat) : (encB s ++ l).take (k + 64) = encB s ++ l.take k := by
  have := encB_length s
  rw [List.take_append, List.take_of_length_le (by omega)]
  congr 2; omega
theorem rows_set {s : Str} (hs : s.length = 64) (rest : List Value) : ∀ {t : List Str} (n : Nat), (∀ s ∈ t, s.length = 64) → n < t.length →
    (t.flatMap encB ++ rest).take (n * 64) ++ encB s ++ (t.flatMap encB ++ rest).drop (n * 64 + 64) = (t.set n s).flatMap encB ++ rest
  | [], n, _, h => absurd h (by simp)
  | x :: t, 0, ht, _ => by
    have hx := ht x List.mem_cons_self
    simp only [Nat.zero_mul, List.take_zero, List.nil_append, List.set_cons_zero, List.flatMap_cons, List.append_assoc]
    have := rows_drop hx (t.flatMap encB ++ rest) 0
    rw [List.drop_zero] at this
    rw [this]
  | x :: t, n + 1, ht, h => by
    have hx := ht x List.mem_cons_self
    have ih := rows_set hs rest (t := t) n (fun y hy => ht y (List.mem_cons_of_mem _ hy)) (by simpa using h)
    simp only [List.set_cons_succ, List.flatMap_cons, List.append_assoc]
    rw [show (n + 1) * 64 = n * 64 + 64 by omega, show n * 64 + 64 + 64 = (n * 64 + 64) + 64 by omega, rows_take hx, rows_drop hx]
    rw [← ih]
    simp only [List.append_assoc]
theorem rows_part {s : Str} (hs : s.length = 64) {cut : Nat} (hc : cut ≤ 64) (rest : List Value) : ∀ {t : List Str} (n : Nat), (∀ s ∈ t, s.length = 64) → n < t.length →
    (t.flatMap encB ++ rest).take (n * 64) ++ (encB s).take cut ++ (t.flatMap encB ++ rest).drop (n * 64 + cut) = (t.set n (s.take cut ++ (t.getD n []).drop cut)).flatMap encB ++ rest
  | [], n, _, h => absurd h (by simp)
  | x :: t, 0, ht, _ => by
    have hx := ht x List.mem_cons_self
    have e1 : (encB s).take cut = encB (s.take cut) := by unfold encB; rw [List.map_take]
    have e2 : (encB x ++ (t.flatMap encB ++ rest)).drop cut = encB (x.drop cut) ++ (t.flatMap encB ++ rest) := by
      rw [List.drop_append_of_le_length (by rw [encB_length]; omega)]
      congr 1
      unfold encB; rw [List.map_drop]
    simp only [Nat.zero_mul, Nat.zero_add, List.take_zero, List.nil_append, List.set_cons_zero, List.flatMap_cons, List.append_assoc, List.getD_cons_zero]
    rw [e1, e2, encB_append, List.append_assoc]
  | x :: t, n + 1, ht, h => by
    have hx := ht x List.mem_cons_self
    have ih := rows_part hs hc rest (t := t) n (fun y hy => ht y (List.mem_cons_of_mem _ hy)) (by simpa using h)
    have e : ∀ (l : List Value) (k j : Nat), (encB x ++ l).drop (k + 64 + j) = l.drop (k + j) := fun l k j => by
      rw [show k + 64 + j = (k + j) + 64 by omega, rows_drop hx]
    simp only [List.set_cons_succ, List.flatMap_cons, List.append_assoc, List.getD_cons_succ]
    rw [show (n + 1) * 64 = n * 64 + 64 by omega, rows_take hx, e]
    rw [← ih]
    simp only [List.append_assoc]
end Go.Proofs.Ytckopikeegegkaa
