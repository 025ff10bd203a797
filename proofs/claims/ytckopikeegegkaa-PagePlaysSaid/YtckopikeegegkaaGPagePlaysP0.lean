/- Texts of one proof, one behind the other: Pure1, Mem, RowGen, Opens, Laws, Disk1, Disk2, MapPut, Laws2, RegText, Disk3, Disk4, Page1, Page2, Laws3, RegIn, Page3. No condition. -/
import Derived.Test.YtckopikeegegkaaRows
import Derived.WalkKit
import Derived.WalkSpells
import Derived.WalkLawsBesides
import Derived.MapKept
import Derived.ProofKit
import Derived.Lib.SmallJoins
import Derived.Lib.ConvBytes
import Derived.Lib.Hide
import Derived.Deep.DeepMust
import Derived.Laws.CopyRow
import Derived.StillTailTactics
import Derived.RangeFuncRecord
import Derived.OrdersHeld
import Derived.RangeFuncNested
import Derived.RangeFuncBound
import Derived.RangeFuncCalls
import Derived.RangeFuncLeaves
import Derived.RangeFuncBox
import Derived.RangeFuncOne
import Derived.Shelf.Abstract
import Derived.Shelf.RegionOpen
import Derived.OwnWalkIn
import Derived.TacticsInMore
import Derived.LoopNIn
import Derived.LoopIn
import Derived.OrdersIn
import Derived.TacticsIn
/- PURE 1: the disk and the pages as plain data: what the calls of packages disk and page answer, said over lists. -/
namespace Go.Proofs.Ytckopikeegegkaa
abbrev Str := List UInt8
def bs (l : Str) : ByteArray := ⟨l.toArray⟩

/-- A disk: what is there, what is kept aside (rising), its fuse (-1: none). -/
structure Dk where
  there : List Str
  aside : List (Nat × Str)
  left : Int
  deriving Inhabited

namespace Dk
def look (n : Nat) : List (Nat × Str) → Option Str
  | [] => none
  | p :: l => if p.1 = n then some p.2 else look n l
def size (d : Dk) : Nat := d.there.length
def now (d : Dk) (n : Nat) : Str := (look n d.aside).getD (d.there.getD n [])
def has (d : Dk) (n : Int) : Bool := decide (0 ≤ n) && decide (n < d.there.length)
def read (d : Dk) (n : Int) : Str × Int := if d.has n then (d.now n.toNat, 0) else ([], 5)
def put (n : Nat) (s : Str) : List (Nat × Str) → List (Nat × Str)
  | [] => [(n, s)]
  | p :: l => if n < p.1 then (n, s) :: p :: l else if p.1 = n then (n, s) :: l else p :: put n s l
def burnt (x : Int) : Int := if 0 < x then x - 1 else x
def write (d : Dk) (n : Int) (s : Str) : Int × Dk :=
  if !d.has n then (5, d) else if s.length ≠ 64 then (1, d) else if d.left = 0 then (42, d)
  else (0, { d with left := burnt d.left, aside := put n.toNat s d.aside })
def settle : List (Nat × Str) → List Str → List Str
  | [], t => t
  | p :: l, t => settle l (t.set p.1 p.2)
def flush (d : Dk) : Int × Dk := if d.left = 0 then (42, d) else (0, ⟨settle d.aside d.there, [], burnt d.left⟩)
def fuse (d : Dk) (n : Int) : Int × Dk := if n < 0 then (1, d) else if d.left = 0 then (42, d) else (0, { d with left := n })
def dead (d : Dk) : Bool := decide (d.left = 0)
def fall (keep : List Bool) (torn : Int) (cut : Nat) : Nat → List (Nat × Str) → List Str → List Str
  | _, [], t => t
  | k, p :: l, t => fall keep torn cut (k + 1) l
      (if (k : Int) = torn then t.set p.1 (p.2.take cut ++ (t.getD p.1 []).drop cut) else if keep.getD k false then t.set p.1 p.2 else t)
def crash (d : Dk) (keep : List Bool) (torn cut : Int) : Int × Dk :=
  if cut < 0 ∨ 64 < cut then (1, d) else (0, ⟨fall keep torn cut.toNat 0 d.aside d.there, [], -1⟩)
def zero (n : Nat) : Dk := ⟨List.replicate n (List.replicate 64 0), [], -1⟩
def make (n : Int) : Option Dk := if n < 1 ∨ 4096 < n then none else some (zero n.toNat)

/-- What always holds of a disk. -/
structure Wf (d : Dk) : Prop where
  there : ∀ s ∈ d.there, s.length = 64
  aside : ∀ p ∈ d.aside, p.1 < d.there.length ∧ p.2.length = 64
  rises : d.aside.Pairwise (fun p q => p.1 < q.1)
  left : -1 ≤ d.left ∧ d.left ≤ 9223372036854775807
  pos : 1 ≤ d.there.length
  small : d.there.length ≤ 4096
end Dk

/-! Pages. -/
def pages (d : Dk) : Int := (d.there.length / 4 : Nat)
def hasPage (d : Dk) (n : Int) : Bool := decide (0 ≤ n) && decide (n < pages d)
def pageOf (d : Dk) (n : Nat) : Str := d.now (4 * n) ++ (d.now (4 * n + 1) ++ (d.now (4 * n + 2) ++ d.now (4 * n + 3)))
def pgRead (d : Dk) (n : Int) : Str × Int :=
  if !hasPage d n then ([], 5) else
  let all := pageOf d n.toNat
  let long := (all.getD 0 0).toNat * 256 + (all.getD 1 0).toNat
  if 254 < long then ([], 4) else ((all.drop 2).take long, 0)
def pgBody (b : Str) : Str := UInt8.ofNat (b.length / 256) :: UInt8.ofNat (b.length % 256) :: (b ++ List.replicate (254 - b.length) 0)
def sub (l : Str) (a b : Nat) : Str := (l.drop a).take (b - a)
def rng (k : Nat) : List (Fin 4) := (List.finRange 4).take k
/-- The sectors of a page, one behind the other, as long as none is refused. -/
def wrun (b : Str) (n : Int) : List (Fin 4) → Dk → Int × Dk
  | [], d => (0, d)
  | x :: l, d => if (d.write (n * 4 + (x.val : Int)) (sub b (x.val * 64) (x.val * 64 + 64))).1 = 0
      then wrun b n l (d.write (n * 4 + (x.val : Int)) (sub b (x.val * 64) (x.val * 64 + 64))).2
      else d.write (n * 4 + (x.val : Int)) (sub b (x.val * 64) (x.val * 64 + 64))
def pgWrite (d : Dk) (n : Int) (b : Str) : Int × Dk :=
  if !hasPage d n then (5, d) else if 254 < b.length then (40, d) else wrun (pgBody b) n (rng 4) d
structure Mk where
  on : Bool
  epoch : Int
  page : Int
  deriving DecidableEq, Inhabited
def big (l : Str) : Nat := l.foldl (fun n b => n * 256 + b.toNat) 0
def hasRoot (d : Dk) (k : Int) : Bool := decide (k ≤ 1) && hasPage d k
def rootOf (s : Str) : Mk :=
  ⟨s.getD 0 0 == 1, if 1099511627776 < big (sub s 1 9) then 0 else big (sub s 1 9), if 1024 ≤ big (sub s 9 11) then 0 else big (sub s 9 11)⟩
def pgRoot (d : Dk) (k : Int) : Mk × Int := if !hasRoot d k then (⟨false, 0, 0⟩, 5) else (rootOf (d.now (4 * k.toNat)), 0)
def rootText (m : Mk) : Str :=
  (if m.on then 1 else 0) :: ((List.range 8).map (fun i => UInt8.ofNat (m.epoch.toNat / 256 ^ (7 - i) % 256)) ++
    (UInt8.ofNat (m.page.toNat / 256) :: UInt8.ofNat (m.page.toNat % 256) :: List.replicate 53 0))
def mayRoot (m : Mk) : Bool := decide (0 ≤ m.epoch) && (decide (m.epoch ≤ 1099511627776) && (decide (0 ≤ m.page) && decide (m.page < 1024)))
def pgSetRoot (d : Dk) (k : Int) (m : Mk) : Int × Dk :=
  if !hasRoot d k then (5, d) else if !mayRoot m then (1, d) else d.write (4 * k) (rootText m)
end Go.Proofs.Ytckopikeegegkaa
/- MEM: what lies in memory: bytes as cells, the frame of a call, a disk. -/
namespace Go.Proofs.Ytckopikeegegkaa
open Go.RowKit Go.MapKept

def encB (l : Str) : List Value := l.map fun b => .int .u8 b.toNat
abbrev arrB (l : Str) : Value := .agg (encB l).toArray
theorem encB_length (l : Str) : (encB l).length = l.length := by simp [encB]
theorem encB_append (a b : Str) : encB (a ++ b) = encB a ++ encB b := by simp [encB]
theorem encB_one (l : Str) : ∀ v ∈ encB l, v.oneCell' = true := by
  intro v hv; obtain ⟨b, _, rfl⟩ := List.mem_map.1 hv; rfl

@[simp, go_sem] theorem bs_size (l : Str) : (bs l).size = l.length := by simp [bs, ByteArray.size]
@[simp] theorem bs_data (l : Str) : (bs l).data.toList = l := by simp [bs]
theorem bs_of (s : ByteArray) : bs s.data.toList = s := by simp [bs]
theorem bs_inj {a b : Str} : bs a = bs b ↔ a = b := ⟨fun h => by simpa [bs] using congrArg (fun x : ByteArray => x.data.toList) h, fun h => by rw [h]⟩
/-- All blocks but those of S are as they were; nothing has gone. -/
structure Keeps (S : Nat → Prop) (w w' : World) : Prop where
  os : w'.os = w.os
  tape : w'.tape = w.tape
  output : w'.output = w.output
  size : w.heap.size ≤ w'.heap.size
  block : ∀ k, k < w.heap.size → ¬ S k → w'.heap[k]? = w.heap[k]?
def noB : Nat → Prop := fun _ => False
namespace Keeps
variable {S : Nat → Prop} {w w' w'' : World}
theorem refl (S : Nat → Prop) (w : World) : Keeps S w w := ⟨rfl, rfl, rfl, Nat.le_refl _, fun _ _ _ => rfl⟩
theorem trans (h : Keeps S w w') (k : Keeps S w' w'') : Keeps S w w'' :=
  ⟨k.os.trans h.os, k.tape.trans h.tape, k.output.trans h.output, Nat.le_trans h.size k.size,
   fun i hi hs => (k.block i (Nat.lt_of_lt_of_le hi h.size) hs).trans (h.block i hi hs)⟩
theorem mono {T : Nat → Prop} (h : Keeps S w w') (hT : ∀ k, k < w.heap.size → S k → T k) : Keeps T w w' :=
  ⟨h.os, h.tape, h.output, h.size, fun i hi hs => h.block i hi (fun q => hs (hT i hi q))⟩
theorem drew (h : Keeps S w w') : Keeps S w w'.drew := ⟨h.os, h.tape, h.output, h.size, h.block⟩
theorem alloc (h : Keeps S w w') (o : Obj) : Keeps S w (w'.alloc o) :=
  h.trans ⟨rfl, rfl, rfl, by simp, fun k hk _ => Below.heap_alloc _ _ _ hk⟩
theorem setCell (h : Keeps S w w') {a : Addr} (ha : a.block < w.heap.size → S a.block) (v : Value) : Keeps S w (w'.setCell a v) :=
  ⟨h.os, h.tape, h.output, by simpa using h.size, fun k hk hs => by
    have e : k ≠ a.block := fun e => hs (e ▸ ha (e ▸ hk))
    rw [Below.heap_setCell _ _ _ _ e]; exact h.block k hk hs⟩
theorem setRow (h : Keeps S w w') {b : Nat} (ha : b < w.heap.size → S b) (cs : Array Value) : Keeps S w (w'.setRow b cs) :=
  ⟨h.os, h.tape, h.output, by simpa using h.size, fun k hk hs => by
    have e : k ≠ b := fun e => hs (e ▸ ha (e ▸ hk))
    rw [setRow_other _ _ _ _ e]; exact h.block k hk hs⟩
theorem below (h : Keeps noB w w') : Below w.heap.size w w' := ⟨h.os, h.tape, h.output, h.size, fun k hk => h.block k hk (fun q => q)⟩
theorem of_below (h : Below w.heap.size w w') : Keeps noB w w' := ⟨h.os, h.tape, h.output, h.size, fun k hk _ => h.block k hk⟩
theorem of_below' {B : Nat} (h : Below B w w') (hB : w.heap.size ≤ B) : Keeps noB w w' := of_below (h.mono hB)
theorem cell (h : Keeps S w w') {b : Nat} (o : Nat) (hb : b < w.heap.size) (hs : ¬ S b) : w'.cell? ⟨b, o, none⟩ = w.cell? ⟨b, o, none⟩ :=
  World.cell?_of_block (w := w) (h.block b hb hs)
theorem frozen (h : Keeps S w w') {b : Nat} (o : Nat) (hb : b < w.heap.size) (hs : ¬ S b) : w'.frozen? ⟨b, o, none⟩ = w.frozen? ⟨b, o, none⟩ :=
  World.frozen?_of_block (w := w) (h.block b hb hs)
end Keeps
theorem keeps_drewN (w : World) (n : Nat) : Keeps noB w (w.drewN n) := ⟨rfl, rfl, rfl, Nat.le_refl _, fun _ _ _ => rfl⟩

/-! ### A map of sectors -/
def entOf (p : Nat × Str) : Value × Value := (.int .i64 p.1, arrB p.2)
structure MapRep (es : Array MapEntry) (clock : Nat) (A : List (Nat × Str)) : Prop where
  perm : (es.toList.map fun e => (e.key, e.val)).Perm (A.map entOf)
  born : (es.toList.map (·.born)).Nodup
  old : ∀ e ∈ es.toList, e.born < clock
theorem MapRep.key {es : Array MapEntry} {clock : Nat} {A : List (Nat × Str)} (h : MapRep es clock A) {e : MapEntry} (he : e ∈ es.toList) :
    ∃ p ∈ A, e.key = .int .i64 p.1 ∧ e.val = arrB p.2 := by
  have := (h.perm.mem_iff (a := (e.key, e.val))).1 (List.mem_map.2 ⟨e, he, rfl⟩)
  obtain ⟨p, hp, hq⟩ := List.mem_map.1 this
  simp only [entOf, Prod.mk.injEq] at hq
  exact ⟨p, hp, hq.1.symm, hq.2.symm⟩
theorem look_some {n : Nat} {s : Str} : ∀ {A : List (Nat × Str)}, Dk.look n A = some s → (n, s) ∈ A
  | p :: l, h => by
    unfold Dk.look at h
    split at h
    · rename_i e; cases h; subst e; exact List.mem_cons_self
    · exact List.mem_cons_of_mem _ (look_some h)
theorem look_none {n : Nat} : ∀ {A : List (Nat × Str)}, Dk.look n A = none → ∀ p ∈ A, p.1 ≠ n
  | p :: l, h, q, hq => by
    unfold Dk.look at h
    split at h
    · cases h
    · rename_i e
      rcases List.mem_cons.1 hq with rfl | hq
      · exact e
      · exact look_none h q hq
theorem rises_inj {A : List (Nat × Str)} (h : A.Pairwise (fun p q => p.1 < q.1)) {p q : Nat × Str} (hp : p ∈ A) (hq : q ∈ A) (e : p.1 = q.1) : p = q := by
  induction h with
  | nil => cases hp
  | cons h1 _ ih =>
    rcases List.mem_cons.1 hp with rfl | hp1 <;> rcases List.mem_cons.1 hq with rfl | hq1
    · rfl
    · have := h1 _ hq1; omega
    · have := h1 _ hp1; omega
    · exact ih hp1 hq1
theorem look_mem {A : List (Nat × Str)} (h : A.Pairwise (fun p q => p.1 < q.1)) {n : Nat} {s : Str} (hm : (n, s) ∈ A) : Dk.look n A = some s := by
  cases hl : Dk.look n A with
  | none => exact absurd rfl (look_none hl _ hm)
  | some t => have := rises_inj h (look_some hl) hm rfl; cases this; rfl
/-- What findNow comes to. -/
theorem MapRep.find {es : Array MapEntry} {clock : Nat} {A : List (Nat × Str)} (h : MapRep es clock A) (hr : A.Pairwise (fun p q => p.1 < q.1)) (n : Nat) :
    (Dk.look n A = none ∧ Instr.findNow (.int .i64) (.int .i64 n) es.toList 0 = some none) ∨
    ∃ s i e, Dk.look n A = some s ∧ Instr.findNow (.int .i64) (.int .i64 n) es.toList 0 = some (some (i, arrB s)) ∧ es.toList[i]? = some e ∧ e.key = .int .i64 n ∧ e.val = arrB s := by
  have hk : ∀ x ∈ es.toList, IsKey (.int .i64) x.key := fun x hx => by
    obtain ⟨p, _, e, _⟩ := h.key hx; rw [e]; simp [IsKey]
  rcases findNow_spec (d := .int .i64) (k := .int .i64 n) (by simp [IsKey]) es.toList 0 hk with ⟨h1, h2⟩ | ⟨j, e, h1, h2, h3⟩
  · left
    refine ⟨?_, h1⟩
    cases hl : Dk.look n A with
    | none => rfl
    | some s =>
      have hm := look_some hl
      have := (h.perm.mem_iff (a := entOf (n, s))).2 (List.mem_map.2 ⟨_, hm, rfl⟩)
      obtain ⟨x, hx, hq⟩ := List.mem_map.1 this
      simp only [entOf, Prod.mk.injEq] at hq
      exact absurd hq.1 (h2 x hx)
  · right
    have hm : e ∈ es.toList := List.mem_of_getElem? h2
    obtain ⟨p, hp, hpk, hpv⟩ := h.key hm
    have hn : p.1 = n := by rw [hpk] at h3; injection h3 with _ h4; omega
    refine ⟨p.2, j, e, ?_, ?_, h2, h3, hpv⟩
    · exact look_mem hr (by rw [← hn]; exact hp)
    · rw [h1, hpv]; simp

/-! ### A disk in memory: block p its struct, block q its sectors, block m the map. -/
structure DiskAt (w : World) (p q m : Nat) (D : Dk) : Prop where
  strct : ∃ cap, D.there.length ≤ cap ∧ w.heap[p]? = some (.cells #[.slice (some ⟨q, 0, none⟩) D.there.length cap, .map (some m), .int .i64 D.left] 88 (0, 0))
  row : ∃ rest, w.heap[q]? = some (.cells (D.there.flatMap encB ++ rest).toArray 96 (0, 0))
  kept : ∃ es clock, w.heap[m]? = some (.map es clock) ∧ MapRep es clock D.aside
  wf : D.Wf
namespace DiskAt
variable {w w' : World} {p q m : Nat} {D : Dk}
theorem lt_p (h : DiskAt w p q m D) : p < w.heap.size := by
  obtain ⟨_, _, e⟩ := h.strct; exact (Array.getElem?_eq_some_iff.1 e).1
theorem lt_q (h : DiskAt w p q m D) : q < w.heap.size := by
  obtain ⟨_, e⟩ := h.row; exact (Array.getElem?_eq_some_iff.1 e).1
theorem lt_m (h : DiskAt w p q m D) : m < w.heap.size := by
  obtain ⟨_, _, e, _⟩ := h.kept; exact (Array.getElem?_eq_some_iff.1 e).1
theorem ne_pq (h : DiskAt w p q m D) : p ≠ q := by
  obtain ⟨_, _, e⟩ := h.strct; obtain ⟨_, e'⟩ := h.row
  intro x; subst x; rw [e] at e'; injection e' with e'; injection e' with _ e' _; exact absurd e' (by decide)
theorem ne_pm (h : DiskAt w p q m D) : p ≠ m := by
  obtain ⟨_, _, e⟩ := h.strct; obtain ⟨_, _, e', _⟩ := h.kept
  intro x; subst x; rw [e] at e'; cases e'
theorem ne_qm (h : DiskAt w p q m D) : q ≠ m := by
  obtain ⟨_, e⟩ := h.row; obtain ⟨_, _, e', _⟩ := h.kept
  intro x; subst x; rw [e] at e'; cases e'
theorem same (h : DiskAt w p q m D) (hp : w'.heap[p]? = w.heap[p]?) (hq : w'.heap[q]? = w.heap[q]?) (hm : w'.heap[m]? = w.heap[m]?) : DiskAt w' p q m D :=
  ⟨by rw [hp]; exact h.strct, by rw [hq]; exact h.row, by rw [hm]; exact h.kept, h.wf⟩
theorem keep {S : Nat → Prop} (h : DiskAt w p q m D) (k : Keeps S w w') (hp : ¬ S p) (hq : ¬ S q) (hm : ¬ S m) : DiskAt w' p q m D :=
  h.same (k.block p h.lt_p hp) (k.block q h.lt_q hq) (k.block m h.lt_m hm)
/-- The struct's three cells. -/
theorem cells (h : DiskAt w p q m D) : ∃ cap, D.there.length ≤ cap ∧ w.cell? ⟨p, 0, none⟩ = some (.slice (some ⟨q, 0, none⟩) D.there.length cap) ∧
    w.cell? ⟨p, 1, none⟩ = some (.map (some m)) ∧ w.cell? ⟨p, 2, none⟩ = some (.int .i64 D.left) ∧ ∀ o, w.frozen? ⟨p, o, none⟩ = false := by
  obtain ⟨cap, hc, e⟩ := h.strct
  exact ⟨cap, hc, by simp [World.cell?, e], by simp [World.cell?, e], by simp [World.cell?, e], fun o => by simp [World.frozen?, e]⟩
end DiskAt
def dset (p q m : Nat) : Nat → Prop := fun k => k = p ∨ k = q ∨ k = m
end Go.Proofs.Ytckopikeegegkaa
/- ROWGEN: what a law's row asks, where the call answers true and turns no block that was there before. -/
namespace Go.Proofs.Ytckopikeegegkaa
open Go.ChangeShapes Go.WideShapes Go.ChangeAt Go.RowKit

theorem trodAll_carried {H : Type} {enc : TypeId × Value → H} {P : Program} (hl : laidOutB P = true) {W W' : World} (hb : Below W.heap.size W W') :
    ∀ {ts : List TypeId} {vs : List Value} {ds : List (DataW H)} {ps : List MemPlace}, (ts.all fun t => P.readableRec t && decide (t < P.types.size)) = true → (∀ x ∈ ps, x.block < W.heap.size) →
      DataW.TrodAll enc P W 0 (fun _ => true) true ts vs ds ps → DataW.TrodAll enc P W' 0 (fun b => decide (b < W.heap.size)) true ts vs ds ps
  | [], [], [], _, _, _, h => h
  | [], [], _ :: _, _, _, _, h => h.elim
  | [], _ :: _, _, _, _, _, h => h.elim
  | _ :: _, [], _, _, _, _, h => h.elim
  | _ :: _, _ :: _, [], _, _, _, h => h.elim
  | t :: ts, v :: vs, d :: ds, ps, ht, hlt, h => by
    obtain ⟨p, q, h1, h2, rfl⟩ := h
    simp only [List.all_cons, Bool.and_eq_true, decide_eq_true_eq] at ht
    exact ⟨p, q, Below.trod hl ht.1.1 ht.1.2 h1 hb (fun x hx => hlt x (List.mem_append_left _ hx)), trodAll_carried hl hb ht.2 (fun x hx => hlt x (List.mem_append_right _ hx)) h2, rfl⟩

theorem law_post {H : Type} {enc : TypeId × Value → H} {P : Program} {f : Func} {s : ChangeSpec} {W W' : World} {args : Array Value} {ds gs : List (DataW H)} {before : List MemPlace} {tb : TypeId}
    (hl : laidOutB P = true) (hb : Keeps noB W W') (hW : DataW.Whole enc P f.params.toList s.vars false W args.toList ds gs before) (hv : s.vars = []) (hr : f.resultTypes = #[tb]) (htb : P.underlying tb = some .bool)
    (hfn : s.fn H (ds ++ gs) = { results := [.lit (.bool true)], args := ds }) (hps : (f.params.toList.all fun t => P.readableRec t && decide (t < P.types.size)) = true) :
    s.post enc P f false true false false W args (.bool true) W' := by
  have hW' := hW
  obtain ⟨p, q, hA, hV, rfl, hfz, hnd⟩ := hW
  rw [hv] at hV
  obtain ⟨rfl, rfl⟩ := trodVars_none hV
  refine ⟨ds, [], p ++ [], [], p, [], hW', ?_, ?_, ?_, hb.below.frame _, fun h => by cases h⟩
  · rw [hr, hfn]
    exact trodAll_mk1 (shut_bool htb true)
  · rw [hfn]
    exact trodAll_carried hl hb.below hps (fun x hx => by simpa using hW'.lt x (List.mem_append_left _ hx)) hA
  · rw [hfn, hv]
    rfl
end Go.Proofs.Ytckopikeegegkaa
/- OPENS: arguments of the laws, opened. -/
namespace Go.Proofs.Ytckopikeegegkaa
open Go.ChangeShapes Go.WideShapes Go.ChangeAt Go.RowKit Go.Joins
theorem Try.own : ownKnob Try.prog.godebug = none := by kernel_rfl
theorem Try.laidOut : laidOutB Try.prog = true := by kernel_rfl

set_option maxRecDepth 100000 in
theorem open_mark {H : Type} {enc : TypeId × Value → H} {w : World} {base b0 : Nat} {spare : Nat → Bool} {held : Bool} {r : Reach} {v : Value} {d : DataW H} {p : List MemPlace}
    (hv : Value.okWide Try.prog w r b0 23 v) (h : DataW.Trod enc Try.prog w base spare held 23 v d p) : ∃ m : Mk, v = .agg #[.bool m.on, .int .i64 m.epoch, .int .i64 m.page] := by
  obtain ⟨c0, c1, c2, y0, y1, y2, m, rfl, rfl, rfl, hy0, hy1, hy2⟩ := open_agg3 Try.underlying23 (by kernel_rfl) (by kernel_rfl) hv h
  obtain ⟨x, e0, rfl⟩ := DataW.trod_bool Try.underlying4 hy0
  obtain ⟨y, e1, rfl, wy⟩ := DataW.trod_int Try.underlying3 hy1
  obtain ⟨z, e2, rfl, wz⟩ := DataW.trod_int Try.underlying3 hy2
  simp at e0 e1 e2
  subst e0 e1 e2
  exact ⟨⟨x, y, z⟩, rfl⟩

theorem u8_bounds {k : Int} (h : (Lit.int IntKind.u8 k).wf = true) : 0 ≤ k ∧ k ≤ 255 := by
  have e1 : IntKind.u8.min = 0 := rfl
  have e2 : IntKind.u8.max = 255 := rfl
  simp only [Lit.wf, Bool.and_eq_true, decide_eq_true_eq] at h
  omega
theorem i64_bounds {k : Int} (h : (Lit.int IntKind.i64 k).wf = true) : -9223372036854775808 ≤ k ∧ k ≤ 9223372036854775807 := by
  have e1 : IntKind.i64.min = -9223372036854775808 := rfl
  have e2 : IntKind.i64.max = 9223372036854775807 := rfl
  simp only [Lit.wf, Bool.and_eq_true, decide_eq_true_eq] at h
  omega
end Go.Proofs.Ytckopikeegegkaa
/- LAWS: operations on arrays, maps and bytes, said of whole rows of cells. Over any program. -/
namespace Go.Proofs.Ytckopikeegegkaa
open Go.RowKit Go.MapKept

theorem heap_alloc_eq (w : World) (o : Obj) (k : Nat) (h : k = w.heap.size) : (w.alloc o).heap[k]? = some o := by subst h; exact Go.heap_alloc_new w o
theorem heap_alloc_ne (w : World) (o : Obj) (k : Nat) (h : k ≠ w.heap.size) : (w.alloc o).heap[k]? = w.heap[k]? := by
  show (w.heap.push o)[k]? = _
  rw [Array.getElem?_push, if_neg h]
theorem heap_setCell_ne (w : World) (b i : Nat) (v : Value) (k : Nat) (h : k ≠ b) : (w.setCell ⟨b, i, none⟩ v).heap[k]? = w.heap[k]? := heap_setCell_other w _ k v h
theorem heap_setRow_ne (w : World) (b : Nat) (cs : Array Value) (k : Nat) (h : k ≠ b) : (w.setRow b cs).heap[k]? = w.heap[k]? := setRow_other w b k cs h
theorem heap_drewN (w : World) (n : Nat) : (w.drewN n).heap = w.heap := rfl
theorem setRow_alloc_top (w : World) (o : Array Value) (t : TypeId) (b : Nat) (cs : Array Value) (h : b = w.heap.size) : (w.alloc (.cells o t)).setRow b cs = w.alloc (.cells cs t) := by
  subst h
  simp only [World.setRow, World.alloc]
  congr 1
  apply Array.ext
  · simp
  · intro i h1 h2
    simp only [Array.getElem_modify, Array.getElem_push]
    simp at h1 h2
    by_cases e : w.heap.size = i
    · subst e; simp
    · rw [if_neg e]
      have : i < w.heap.size := by omega
      simp [this]
theorem setRow_alloc_under (w : World) (o : Obj) (b : Nat) (cs : Array Value) (h : b < w.heap.size) : (w.alloc o).setRow b cs = (w.setRow b cs).alloc o := by
  simp only [World.setRow, World.alloc]
  congr 1
  apply Array.ext
  · simp
  · intro i h1 h2
    simp only [Array.getElem_modify, Array.getElem_push]
    simp at h1 h2
    by_cases e : i < w.heap.size
    · simp [e]
    · have : b ≠ i := by omega
      simp [e, this]

def Z64 : List Value := encB (List.replicate 64 0)
theorem Z64_length : Z64.length = 64 := by simp [Z64, encB]

section
variable {P : Program} {o : Oper} {ops : Array Oper} {rest : List Oper} {a : Act} {w : World} {K : Act → World → Prop} {Q : Exit → Act → World → Prop}

theorem wpo_run {s : Sem Value} {v : Value} {w' : World} (ho : execOp a.eval o = (do pure (.value (← s)))) (hr : s.run P w = .ok v w')
    (h : K (a.put o.dst v) w') : o.wp P a w K Q := by
  unfold Oper.wp
  rw [ho]
  simp only [Sem.run_bind, hr, Result.andThen_ok, Sem.run_pure]
  exact h
theorem wpl_run {s : Sem Value} {v : Value} {w' : World} (ho : execOp a.eval o = (do pure (.value (← s)))) (hr : s.run P w = .ok v w')
    (hgd : o.guard = none) (h : wpList P ops Q rest (a.put o.dst v) w') : wpList P ops Q (o :: rest) a w :=
  wpList_plain hgd fun _ hK => wpo_run ho hr (hK _ _ h)

theorem wpo_runU {s : Sem Unit} {w' : World} (ho : execOp a.eval o = (do s; pure .skip)) (hr : s.run P w = .ok () w')
    (h : K (a.put o.dst undef) w') : o.wp P a w K Q := by
  unfold Oper.wp
  rw [ho]
  simp only [Sem.run_bind, hr, Result.andThen_ok, Sem.run_pure]
  exact h

theorem wpl_runU {s : Sem Unit} {w' : World} (ho : execOp a.eval o = (do s; pure .skip)) (hr : s.run P w = .ok () w')
    (hgd : o.guard = none) (h : wpList P ops Q rest (a.put o.dst undef) w') : wpList P ops Q (o :: rest) a w :=
  wpList_plain hgd fun _ hK => wpo_runU ho hr (hK _ _ h)

theorem wpo_alloc (ty : TypeId) (Z : List Value) (ho : o.op = .alloc ty) (hz : ∀ w, (zeroValue ty).run P w = .ok (.agg Z.toArray) w)
    (h : K (a.put o.dst (.pointer (some ⟨w.heap.size, 0, none⟩))) (w.alloc (.cells Z.toArray ty))) : o.wp P a w K Q := by
  refine wpo_run (s := Instr.alloc ty true (.tuple #[])) (by simp only [execOp, ho]) ?_ h
  simp [Instr.alloc, hz, newVar, newRow, Value.cells, Result.andThen]

theorem wpl_alloc (ty : TypeId) (Z : List Value) (ho : o.op = .alloc ty) (hz : ∀ w, (zeroValue ty).run P w = .ok (.agg Z.toArray) w)
    (hgd : o.guard = none) (h : wpList P ops Q rest (a.put o.dst (.pointer (some ⟨w.heap.size, 0, none⟩))) (w.alloc (.cells Z.toArray ty))) : wpList P ops Q (o :: rest) a w :=
  wpList_plain hgd fun _ hK => wpo_alloc ty Z ho hz (hK _ _ h)

theorem addr_add (b off j : Nat) : (⟨b, off, none⟩ : Addr).add j = ⟨b, off + j, none⟩ := by unfold Addr.add; split <;> simp_all
theorem run_loadCells_row (b off n : Nat) (L : List Value) (t : TypeId) (fr : Nat × Nat) (hb : w.heap[b]? = some (.cells L.toArray t fr)) (hl : off + n ≤ L.length) :
    (loadCells ⟨b, off, none⟩ n).run P w = .ok ((L.drop off).take n).toArray w := by
  have e : n = ((L.drop off).take n).length := by simp; omega
  have := run_loadCells_list (P := P) (w := w) ⟨b, off, none⟩ ((L.drop off).take n) (fun j v hv => by
    rw [addr_add]
    have hj : j < n := by
      have := (List.getElem?_eq_some_iff.1 hv).1
      simp at this; omega
    simp only [List.getElem?_take, List.getElem?_drop, hj, if_true] at hv
    simp [World.cell?, hb, hv])
  rw [← e] at this
  exact this

theorem wpo_load (ty : TypeId) (x : Operand) (n : Nat) (ho : o.op = .load ty x) (b off : Nat) (hx : a.eval x = .pointer (some ⟨b, off, none⟩))
    (hg : ∀ w, (isAgg ty).run P w = .ok true w) (hs : ∀ w, (sizeOf ty).run P w = .ok n w) (L : List Value) (t : TypeId) (fr : Nat × Nat)
    (hb : w.heap[b]? = some (.cells L.toArray t fr)) (hl : off + n ≤ L.length)
    (h : K (a.put o.dst (.agg ((L.drop off).take n).toArray)) w) : o.wp P a w K Q := by
  refine wpo_run (s := Instr.loadAt ty (a.eval x)) (by simp only [execOp, ho]) ?_ h
  simp [Instr.loadAt, hx, Instr.sureAddr, loadVar, hg, hs, run_loadCells_row b off n L t fr hb hl, Result.andThen]

theorem wpl_load (ty : TypeId) (x : Operand) (n : Nat) (ho : o.op = .load ty x) (b off : Nat) (hx : a.eval x = .pointer (some ⟨b, off, none⟩))
    (hg : ∀ w, (isAgg ty).run P w = .ok true w) (hs : ∀ w, (sizeOf ty).run P w = .ok n w) (L : List Value) (t : TypeId) (fr : Nat × Nat)
    (hb : w.heap[b]? = some (.cells L.toArray t fr)) (hl : off + n ≤ L.length)
    (hgd : o.guard = none) (h : wpList P ops Q rest (a.put o.dst (.agg ((L.drop off).take n).toArray)) w) : wpList P ops Q (o :: rest) a w :=
  wpList_plain hgd fun _ hK => wpo_load ty x n ho b off hx hg hs L t fr hb hl (hK _ _ h)

theorem wpo_store (ty : TypeId) (x y : Operand) (n : Nat) (ho : o.op = .store ty x y) (b off : Nat) (vs : List Value) (hx : a.eval x = .pointer (some ⟨b, off, none⟩)) (hy : a.eval y = .agg vs.toArray)
    (hs : ∀ w, (sizeOf ty).run P w = .ok n w) (L : List Value) (t : TypeId)
    (hb : w.heap[b]? = some (.cells L.toArray t (0, 0))) (hv : vs.length = n) (h1 : ∀ v ∈ vs, v.oneCell' = true) (hl : off + n ≤ L.length)
    (h : K (a.put o.dst undef) (w.setRow b (L.take off ++ vs ++ L.drop (off + vs.length)).toArray)) : o.wp P a w K Q := by
  have hst := run_storeCells_at (P := P) b off t vs 0 L.toArray w hb (by simp; omega) h1
  refine wpo_runU (s := Instr.storeAt ty (a.eval x) (a.eval y)) (by simp only [execOp, ho]) ?_ h
  simp only [Nat.add_zero] at hst
  simp [Instr.storeAt, hx, hy, Instr.sureAddr, storeVar, hs, Value.cells, hv, Result.andThen] at hst ⊢
  exact hst

theorem wpl_store (ty : TypeId) (x y : Operand) (n : Nat) (ho : o.op = .store ty x y) (b off : Nat) (vs : List Value) (hx : a.eval x = .pointer (some ⟨b, off, none⟩)) (hy : a.eval y = .agg vs.toArray)
    (hs : ∀ w, (sizeOf ty).run P w = .ok n w) (L : List Value) (t : TypeId)
    (hb : w.heap[b]? = some (.cells L.toArray t (0, 0))) (hv : vs.length = n) (h1 : ∀ v ∈ vs, v.oneCell' = true) (hl : off + n ≤ L.length)
    (hgd : o.guard = none) (h : wpList P ops Q rest (a.put o.dst undef) (w.setRow b (L.take off ++ vs ++ L.drop (off + vs.length)).toArray)) : wpList P ops Q (o :: rest) a w :=
  wpList_plain hgd fun _ hK => wpo_store ty x y n ho b off vs hx hy hs L t hb hv h1 hl (hK _ _ h)

/-- A whole row is stored. -/
theorem wpo_store_all (ty : TypeId) (x y : Operand) (n : Nat) (ho : o.op = .store ty x y) (b : Nat) (vs : List Value) (hx : a.eval x = .pointer (some ⟨b, 0, none⟩)) (hy : a.eval y = .agg vs.toArray)
    (hs : ∀ w, (sizeOf ty).run P w = .ok n w) (L : List Value) (t : TypeId)
    (hb : w.heap[b]? = some (.cells L.toArray t (0, 0))) (hv : vs.length = n) (h1 : ∀ v ∈ vs, v.oneCell' = true) (hl : L.length = n)
    (h : K (a.put o.dst undef) (w.setRow b vs.toArray)) : o.wp P a w K Q := by
  refine wpo_store ty x y n ho b 0 vs hx hy hs L t hb hv h1 (by omega) ?_
  have e : L.take 0 ++ vs ++ L.drop (0 + vs.length) = vs := by
    rw [List.drop_of_length_le (by omega)]; simp
  rw [e]; exact h
theorem wpl_store_all (ty : TypeId) (x y : Operand) (n : Nat) (ho : o.op = .store ty x y) (b : Nat) (vs : List Value) (hx : a.eval x = .pointer (some ⟨b, 0, none⟩)) (hy : a.eval y = .agg vs.toArray)
    (hs : ∀ w, (sizeOf ty).run P w = .ok n w) (L : List Value) (t : TypeId)
    (hb : w.heap[b]? = some (.cells L.toArray t (0, 0))) (hv : vs.length = n) (h1 : ∀ v ∈ vs, v.oneCell' = true) (hl : L.length = n)
    (hgd : o.guard = none) (h : wpList P ops Q rest (a.put o.dst undef) (w.setRow b vs.toArray)) : wpList P ops Q (o :: rest) a w :=
  wpList_plain hgd fun _ hK => wpo_store_all ty x y n ho b vs hx hy hs L t hb hv h1 hl (hK _ _ h)

/-- A whole row is loaded. -/
theorem wpo_load_all (ty : TypeId) (x : Operand) (n : Nat) (ho : o.op = .load ty x) (b : Nat) (hx : a.eval x = .pointer (some ⟨b, 0, none⟩))
    (hg : ∀ w, (isAgg ty).run P w = .ok true w) (hs : ∀ w, (sizeOf ty).run P w = .ok n w) (L : List Value) (t : TypeId) (fr : Nat × Nat)
    (hb : w.heap[b]? = some (.cells L.toArray t fr)) (hl : L.length = n)
    (h : K (a.put o.dst (.agg L.toArray)) w) : o.wp P a w K Q := by
  refine wpo_load ty x n ho b 0 hx hg hs L t fr hb (by omega) ?_
  have e : (L.drop 0).take n = L := by rw [List.drop_zero, List.take_of_length_le (by omega)]
  rw [e]; exact h
theorem wpl_load_all (ty : TypeId) (x : Operand) (n : Nat) (ho : o.op = .load ty x) (b : Nat) (hx : a.eval x = .pointer (some ⟨b, 0, none⟩))
    (hg : ∀ w, (isAgg ty).run P w = .ok true w) (hs : ∀ w, (sizeOf ty).run P w = .ok n w) (L : List Value) (t : TypeId) (fr : Nat × Nat)
    (hb : w.heap[b]? = some (.cells L.toArray t fr)) (hl : L.length = n)
    (hgd : o.guard = none) (h : wpList P ops Q rest (a.put o.dst (.agg L.toArray)) w) : wpList P ops Q (o :: rest) a w :=
  wpList_plain hgd fun _ hK => wpo_load_all ty x n ho b hx hg hs L t fr hb hl (hK _ _ h)

/-- An array's element's address, behind a slice of arrays. -/
theorem wpo_index_rows (ty : TypeId) (x y : Operand) (ho : o.op = .indexAddr ty x y) (et : TypeId) (n b len cap : Nat) (i : Nat) (hx : a.eval x = .slice (some ⟨b, 0, none⟩) len cap) (hy : a.eval y = .int .i64 i)
    (hu : P.underlying ty = some (.slice et)) (hs : ∀ w, (sizeOf et).run P w = .ok n w) (hi : i < len)
    (h : K (a.put o.dst (.pointer (some ⟨b, i * n, none⟩))) w) : o.wp P a w K Q := by
  refine wpo_run (s := Instr.indexAt ty (a.eval x) (a.eval y)) (by simp only [execOp, ho]) ?_ h
  have e : (0 : Int) ≤ (i : Int) ∧ (i : Int) < (len : Int) := ⟨by omega, by omega⟩
  simp [Instr.indexAt, hx, hy, asIntOf, run_underlying hu, hs, Result.andThen, e, addr_add]
  intro h'; omega
theorem wpl_index_rows (ty : TypeId) (x y : Operand) (ho : o.op = .indexAddr ty x y) (et : TypeId) (n b len cap : Nat) (i : Nat) (hx : a.eval x = .slice (some ⟨b, 0, none⟩) len cap) (hy : a.eval y = .int .i64 i)
    (hu : P.underlying ty = some (.slice et)) (hs : ∀ w, (sizeOf et).run P w = .ok n w) (hi : i < len)
    (hgd : o.guard = none) (h : wpList P ops Q rest (a.put o.dst (.pointer (some ⟨b, i * n, none⟩))) w) : wpList P ops Q (o :: rest) a w :=
  wpList_plain hgd fun _ hK => wpo_index_rows ty x y ho et n b len cap i hx hy hu hs hi (hK _ _ h)


theorem foldl_bytes (s : Str) : ∀ (r : ByteArray), (s.map fun b => (b.toNat : Int)).foldl (fun r n => r.push (UInt8.ofNat n.toNat)) r = ⟨r.data ++ s.toArray⟩ := by
  induction s with
  | nil => intro r; simp
  | cons b s ih =>
    intro r
    simp only [List.map_cons, List.foldl_cons]
    rw [ih]
    have e : UInt8.ofNat ((b.toNat : Int)).toNat = b := by simp
    rw [e]
    simp [ByteArray.push]
theorem run_bytes (src dst e : TypeId) (b off n cap : Nat) (L : List Value) (t : TypeId) (fr : Nat × Nat) (s : Str)
    (hs : P.underlying src = some (.slice e)) (he : P.underlying e = some (.int .u8)) (hd : P.underlying dst = some .string)
    (hb : w.heap[b]? = some (.cells L.toArray t fr)) (hl : off + n ≤ L.length) (hv : (L.drop off).take n = encB s) :
    (convert src dst (.slice (some ⟨b, off, none⟩) n cap)).run P w = .ok (.string (bs s)) w := by
  rw [run_convert_bytes_string w src dst e _ _ _ hs he hd]
  have h := run_loadCells_row (P := P) (w := w) b off n L t fr hb hl
  rw [hv] at h
  have e2 : encB s = (s.map fun b => (b.toNat : Int)).map (Value.int .u8) := by simp [encB]
  rw [e2] at h
  rw [run_bytesToString w ⟨b, off, none⟩ n cap _ h, foldl_bytes]
  simp [bs]
theorem wpl_bytes (src dst e : TypeId) (x : Operand) (ho : o.op = .convert src dst x) (b off n cap : Nat) (hx : a.eval x = .slice (some ⟨b, off, none⟩) n cap) (L : List Value) (t : TypeId) (fr : Nat × Nat) (s : Str)
    (hs : P.underlying src = some (.slice e)) (he : P.underlying e = some (.int .u8)) (hd : P.underlying dst = some .string)
    (hb : w.heap[b]? = some (.cells L.toArray t fr)) (hl : off + n ≤ L.length) (hv : (L.drop off).take n = encB s)
    (hgd : o.guard = none) (h : wpList P ops Q rest (a.put o.dst (.string (bs s))) w) : wpList P ops Q (o :: rest) a w :=
  wpl_run (s := convert src dst (a.eval x)) (by simp only [execOp, ho]) (by rw [hx]; exact run_bytes src dst e b off n cap L t fr s hs he hd hb hl hv) hgd h
/-- The whole of a row as a string. -/
theorem wpl_bytes_all (src dst e : TypeId) (x : Operand) (ho : o.op = .convert src dst x) (b n cap : Nat) (hx : a.eval x = .slice (some ⟨b, 0, none⟩) n cap) (t : TypeId) (fr : Nat × Nat) (s : Str)
    (hs : P.underlying src = some (.slice e)) (he : P.underlying e = some (.int .u8)) (hd : P.underlying dst = some .string)
    (hb : w.heap[b]? = some (.cells (encB s).toArray t fr)) (hl : s.length = n)
    (hgd : o.guard = none) (h : wpList P ops Q rest (a.put o.dst (.string (bs s))) w) : wpList P ops Q (o :: rest) a w :=
  wpl_bytes src dst e x ho b 0 n cap hx (encB s) t fr s hs he hd hb (by rw [encB_length]; omega) (by rw [List.drop_zero, List.take_of_length_le (by rw [encB_length]; omega)]) hgd h
end
theorem results_all {P : Program} {fn : Func} {p : Tmp} {ty : TypeId} (h : fn.results = #[.cell p ty]) (tmps : Array Value) (w : World) (b : Nat) (L : List Value) (t : TypeId) (fr : Nat × Nat) (n : Nat)
    (hp : tmps.getD p undef = .pointer (some ⟨b, 0, none⟩)) (hg : ∀ w, (isAgg ty).run P w = .ok true w) (hs : ∀ w, (sizeOf ty).run P w = .ok n w)
    (hb : w.heap[b]? = some (.cells L.toArray t fr)) (hl : L.length = n) : (results fn tmps).run P w = .ok (.agg L.toArray) w := by
  have hp' : tmps[p]?.getD undef = .pointer (some ⟨b, 0, none⟩) := by simpa using hp
  have hr := run_loadCells_row (P := P) (w := w) b 0 n L t fr hb (by omega)
  rw [List.drop_zero, List.take_of_length_le (by omega)] at hr
  simp [results, h, hp', asAddr, loadVar, hg, hs, hr, Result.andThen]
end Go.Proofs.Ytckopikeegegkaa
/- DISK 1: the contracts of is, now, burn, Read. -/
namespace Go.Proofs.Ytckopikeegegkaa
open Go.RowKit Go.MapKept
set_option linter.unusedSimpArgs false
set_option linter.unusedVariables false
variable {p q m : Nat} {D : Dk}

theorem run_lookup_disk {w : World} {es : Array MapEntry} {clock : Nat} {A : List (Nat × Str)} (hm : w.heap[m]? = some (.map es clock)) (hR : MapRep es clock A)
    (hr : A.Pairwise (fun p q => p.1 < q.1)) (n : Nat) :
    (Instr.lookup 86 (.map (some m)) (.int .i64 n) true).run Try.prog w =
      .ok (.tuple #[arrB ((Dk.look n A).getD (List.replicate 64 0)), .bool (Dk.look n A).isSome]) w := by
  have hz : (zeroValue 96).run Try.prog w = .ok (arrB (List.replicate 64 0)) w := by rw [Try.zeroValue96]; rfl
  have hc := run_checkKey (P := Try.prog) (w := w) Try.underlying3 (k := .int .i64 n) (by simp [IsKey]) es.isEmpty 9999
  rcases hR.find hr n with ⟨h1, h2⟩ | ⟨s, i, e, h1, h2, _⟩
  · have hf := run_findKey (P := Try.prog) (w := w) Try.underlying3 h2
    simp [Instr.lookup, run_underlying Try.underlying86, Go.MapKept.run_getObj_map hm, hc, hf, hz, h1]
  · have hf := run_findKey (P := Try.prog) (w := w) Try.underlying3 h2
    simp [Instr.lookup, run_underlying Try.underlying86, Go.MapKept.run_getObj_map hm, hc, hf, h1]

set_option maxHeartbeats 400000 in
theorem is_calls (n : Int) (w : World) (h : DiskAt w p q m D) :
    Calls Try.prog 56 #[.pointer (some ⟨p, 0, none⟩), .int .i64 n] w fun e w' => e = .returned (.int .i64 (if D.has n then 0 else 5)) ∧ w = w' := by
  obtain ⟨cap, hc, c0, c1, c2, hf⟩ := h.cells
  by_cases h0 : n < 0
  · have e : D.has n = false := by unfold Dk.has; simp; omega
    rw [e]
    have k0 : decide (n < 0) = true := by simpa using h0
    go_enter Try.func56, Try.ntmps56
    go_wp2
    go_ret
    exact ⟨rfl, rfl⟩
  · have k0 : decide (n < 0) = false := by simpa using h0
    by_cases h1 : n < D.there.length
    · have e : D.has n = true := by unfold Dk.has; simp; omega
      rw [e]
      go_enter Try.func56, Try.ntmps56
      go_wp2
      go_ret
      exact ⟨rfl, rfl⟩
    · have e : D.has n = false := by unfold Dk.has; simp; omega
      rw [e]
      go_enter Try.func56, Try.ntmps56
      go_wp2
      go_ret
      exact ⟨rfl, rfl⟩

set_option maxHeartbeats 400000 in
theorem is_nil (n : Int) (w : World) :
    Calls Try.prog 56 #[.pointer none, .int .i64 n] w fun e w' => e = .returned (.int .i64 2) ∧ w = w' := by
  go_enter Try.func56, Try.ntmps56
  go_wp2
  go_ret
  exact ⟨rfl, rfl⟩


theorem zero_sector (w : World) : (zeroValue 96).run Try.prog w = .ok (.agg Z64.toArray) w := by rw [Try.zeroValue96]; rfl

theorem wpo_lookup_some {o : Oper} {a : Act} {w : World} {K : Act → World → Prop} {Q : Exit → Act → World → Prop} (x y : Operand) (ho : o.op = .lookup 86 x y true) {es : Array MapEntry} {clock : Nat} {A : List (Nat × Str)} {n : Nat}
    (hR : MapRep es clock A) (hr : A.Pairwise (fun p q => p.1 < q.1)) {s : Str} (hl : Dk.look n A = some s) (hx : a.eval x = .map (some m)) (hy : a.eval y = .int .i64 n) (hm : w.heap[m]? = some (.map es clock))
    (h : K (a.put o.dst (.tuple #[.agg (encB s).toArray, .bool true])) w) : o.wp Try.prog a w K Q :=
  wpo_run (s := Instr.lookup 86 (a.eval x) (a.eval y) true) (by simp only [execOp, ho]) (by rw [hx, hy, run_lookup_disk hm hR hr n, hl]; rfl) h
theorem wpl_lookup_some {o : Oper} {a : Act} {w : World} {ops : Array Oper} {rest : List Oper} {Q : Exit → Act → World → Prop} (x y : Operand) (ho : o.op = .lookup 86 x y true) {es : Array MapEntry} {clock : Nat} {A : List (Nat × Str)} {n : Nat}
    (hR : MapRep es clock A) (hr : A.Pairwise (fun p q => p.1 < q.1)) {s : Str} (hl : Dk.look n A = some s) (hx : a.eval x = .map (some m)) (hy : a.eval y = .int .i64 n) (hm : w.heap[m]? = some (.map es clock))
    (hgd : o.guard = none) (h : wpList Try.prog ops Q rest (a.put o.dst (.tuple #[.agg (encB s).toArray, .bool true])) w) : wpList Try.prog ops Q (o :: rest) a w :=
  wpList_plain hgd fun _ hK => wpo_lookup_some x y ho hR hr hl hx hy hm (hK _ _ h)

theorem wpo_lookup_none {o : Oper} {a : Act} {w : World} {K : Act → World → Prop} {Q : Exit → Act → World → Prop} (x y : Operand) (ho : o.op = .lookup 86 x y true) {es : Array MapEntry} {clock : Nat} {A : List (Nat × Str)} {n : Nat}
    (hR : MapRep es clock A) (hr : A.Pairwise (fun p q => p.1 < q.1)) (hl : Dk.look n A = none) (hx : a.eval x = .map (some m)) (hy : a.eval y = .int .i64 n) (hm : w.heap[m]? = some (.map es clock))
    (h : K (a.put o.dst (.tuple #[.agg Z64.toArray, .bool false])) w) : o.wp Try.prog a w K Q :=
  wpo_run (s := Instr.lookup 86 (a.eval x) (a.eval y) true) (by simp only [execOp, ho]) (by rw [hx, hy, run_lookup_disk hm hR hr n, hl]; rfl) h

theorem wpl_lookup_none {o : Oper} {a : Act} {w : World} {ops : Array Oper} {rest : List Oper} {Q : Exit → Act → World → Prop} (x y : Operand) (ho : o.op = .lookup 86 x y true) {es : Array MapEntry} {clock : Nat} {A : List (Nat × Str)} {n : Nat}
    (hR : MapRep es clock A) (hr : A.Pairwise (fun p q => p.1 < q.1)) (hl : Dk.look n A = none) (hx : a.eval x = .map (some m)) (hy : a.eval y = .int .i64 n) (hm : w.heap[m]? = some (.map es clock))
    (hgd : o.guard = none) (h : wpList Try.prog ops Q rest (a.put o.dst (.tuple #[.agg Z64.toArray, .bool false])) w) : wpList Try.prog ops Q (o :: rest) a w :=
  wpList_plain hgd fun _ hK => wpo_lookup_none x y ho hR hr hl hx hy hm (hK _ _ h)

theorem there_split {L : List Str} (h : ∀ s ∈ L, s.length = 64) (n : Nat) (hn : n < L.length) (rest : List Value) :
    ((L.flatMap encB ++ rest).drop (n * 64)).take 64 = encB (L.getD n []) ∧ n * 64 + 64 ≤ (L.flatMap encB ++ rest).length := by
  induction L generalizing n with
  | nil => simp at hn
  | cons s L ih =>
    have hs : (encB s).length = 64 := (encB_length s).trans (h s (by simp))
    cases n with
    | zero =>
      constructor
      · simp only [List.flatMap_cons, List.append_assoc, Nat.zero_mul, List.drop_zero, List.getD_cons_zero]
        rw [List.take_append_of_le_length (by omega), List.take_of_length_le (by omega)]
      · simp only [List.flatMap_cons, List.append_assoc, List.length_append]; omega
    | succ n =>
      obtain ⟨h1, h2⟩ := ih (fun t ht => h t (by simp [ht])) n (by simpa using hn)
      constructor
      · simp only [List.flatMap_cons, List.append_assoc, List.getD_cons_succ]
        rw [show (n + 1) * 64 = (encB s).length + n * 64 by omega, List.drop_append, List.drop_of_length_le (by omega), List.nil_append, Nat.add_sub_cancel_left]
        exact h1
      · simp only [List.flatMap_cons, List.append_assoc, List.length_append] at h2 ⊢; omega

set_option maxHeartbeats 400000 in
theorem now_calls (n : Nat) (w : World) (h : DiskAt w p q m D) (hn : n < D.there.length) :
    Calls Try.prog 57 #[.pointer (some ⟨p, 0, none⟩), .int .i64 n] w fun e w' => e = .returned (.agg (encB (D.now n)).toArray) ∧ Keeps noB w w' := by
  obtain ⟨cap, hc, c0, c1, c2, hf⟩ := h.cells
  obtain ⟨es, clock, hm, hR⟩ := h.kept
  have lm := h.lt_m
  have lp := h.lt_p
  have lq := h.lt_q
  cases hl : Dk.look n D.aside with
  | some s =>
    have hs : s.length = 64 := (h.wf.aside _ (look_some hl)).2
    have hfin : D.now n = s := by simp [Dk.now, hl]
    rw [hfin]
    have Hl := Lib.hid hl; clear hl hfin
    go_enter Try.func57, Try.ntmps57
    go_wp2_with (first | (with_reducible refine wpl_alloc 96 Z64 rfl zero_sector rfl ?_) | ((with_reducible apply wpl_lookup_some (m := m) (hR := hR) (hr := h.wf.rises) (hl := Hl.out)); rfl; rfl; rfl; (simp (disch := (first | (simp only [World.size_alloc, World.size_setCell, World.size_drew, size_setRow, heap_drew, heap_drewN]; done) | ((try simp only [World.size_alloc, World.size_setCell, World.size_drew, size_setRow, heap_drew, heap_drewN]); omega))) only [heap_drew, heap_drewN, heap_alloc_ne, heap_alloc_eq, heap_setCell_ne, heap_setRow_ne]; exact hm); rfl) | ((with_reducible apply wpl_store_all 96 (n := 64) (vs := encB s) (hs := Try.sizeOf96) (L := Z64) (t := 96)); rfl; go_must (rfl; rfl; simp (disch := (first | (simp only [World.size_alloc, World.size_setCell, World.size_drew, size_setRow, heap_drew, heap_drewN]; done) | ((try simp only [World.size_alloc, World.size_setCell, World.size_drew, size_setRow, heap_drew, heap_drewN]); omega))) only [heap_drew, heap_drewN, heap_alloc_ne, heap_alloc_eq, heap_setCell_ne, heap_setRow_ne]; exact (encB_length s).trans hs; exact encB_one _; exact Z64_length; rfl; simp (disch := (first | (simp only [World.size_alloc, World.size_setCell, World.size_drew, size_setRow, heap_drew, heap_drewN]; done) | ((try simp only [World.size_alloc, World.size_setCell, World.size_drew, size_setRow, heap_drew, heap_drewN]); omega))) only [setRow_alloc_top, setRow_alloc_under])) | ((with_reducible apply wpl_load_all 96 (n := 64) (hg := Try.isAgg96) (hs := Try.sizeOf96) (L := encB s) (t := 96) (fr := (0, 0))); rfl; rfl; (simp (disch := (first | (simp only [World.size_alloc, World.size_setCell, World.size_drew, size_setRow, heap_drew, heap_drewN]; done) | ((try simp only [World.size_alloc, World.size_setCell, World.size_drew, size_setRow, heap_drew, heap_drewN]); omega))) only [heap_drew, heap_drewN, heap_alloc_ne, heap_alloc_eq, heap_setCell_ne, heap_setRow_ne]); exact (encB_length s).trans hs; rfl))
    exact bodyPost_ret (results_all rfl _ _ w.heap.size (encB s) 96 (0, 0) 64 rfl Try.isAgg96 Try.sizeOf96 (by simp (disch := (first | (simp only [World.size_alloc, World.size_setCell, World.size_drew, size_setRow, heap_drew, heap_drewN]; done) | ((try simp only [World.size_alloc, World.size_setCell, World.size_drew, size_setRow, heap_drew, heap_drewN]); omega))) only [heap_drew, heap_drewN, heap_alloc_ne, heap_alloc_eq, heap_setCell_ne, heap_setRow_ne]) ((encB_length s).trans hs)) rfl ⟨rfl, ((Keeps.refl _ _).alloc _).alloc _⟩
  | none =>
    have hs : (D.there.getD n []).length = 64 := by
      have : D.there.getD n [] = D.there[n] := by simp [List.getD, hn]
      rw [this]; exact h.wf.there _ (List.getElem_mem hn)
    have hfin : D.now n = D.there.getD n [] := by simp [Dk.now, hl]
    rw [hfin]
    obtain ⟨rest, hrow⟩ := h.row
    obtain ⟨r1, r2⟩ := there_split h.wf.there n hn rest
    have Hl := Lib.hid hl; clear hl hfin
    have R1 := Lib.hid r1; clear r1
    generalize hL : D.there.flatMap encB ++ rest = L at *
    generalize hS : D.there.getD n [] = s at *
    have HL := Lib.hid hL; clear hL
    have HS := Lib.hid hS; clear hS
    go_enter Try.func57, Try.ntmps57
    go_wp2_with (first | (with_reducible refine wpl_alloc 96 Z64 rfl zero_sector rfl ?_) | ((with_reducible apply wpl_lookup_none (m := m) (hR := hR) (hr := h.wf.rises) (hl := Hl.out)); rfl; rfl; rfl; (simp (disch := (first | (simp only [World.size_alloc, World.size_setCell, World.size_drew, size_setRow, heap_drew, heap_drewN]; done) | ((try simp only [World.size_alloc, World.size_setCell, World.size_drew, size_setRow, heap_drew, heap_drewN]); omega))) only [heap_drew, heap_drewN, heap_alloc_ne, heap_alloc_eq, heap_setCell_ne, heap_setRow_ne]; exact hm); rfl) | ((with_reducible apply wpl_store_all 96 (n := 64) (vs := Z64) (hs := Try.sizeOf96) (L := Z64) (t := 96)); rfl; rfl; rfl; simp (disch := (first | (simp only [World.size_alloc, World.size_setCell, World.size_drew, size_setRow, heap_drew, heap_drewN]; done) | ((try simp only [World.size_alloc, World.size_setCell, World.size_drew, size_setRow, heap_drew, heap_drewN]); omega))) only [heap_drew, heap_drewN, heap_alloc_ne, heap_alloc_eq, heap_setCell_ne, heap_setRow_ne]; exact Z64_length; exact encB_one _; exact Z64_length; rfl; simp (disch := (first | (simp only [World.size_alloc, World.size_setCell, World.size_drew, size_setRow, heap_drew, heap_drewN]; done) | ((try simp only [World.size_alloc, World.size_setCell, World.size_drew, size_setRow, heap_drew, heap_drewN]); omega))) only [setRow_alloc_top, setRow_alloc_under]) | ((with_reducible apply wpl_index_rows 85 (et := 96) (n := 64) (hu := Try.underlying85) (hs := Try.sizeOf96)); rfl; rfl; rfl; exact hn; rfl) | ((with_reducible apply wpl_load 96 (n := 64) (hg := Try.isAgg96) (hs := Try.sizeOf96) (L := L) (t := 96) (fr := (0, 0))); rfl; go_must (rfl; simp (disch := (first | (simp only [World.size_alloc, World.size_setCell, World.size_drew, size_setRow, heap_drew, heap_drewN]; done) | ((try simp only [World.size_alloc, World.size_setCell, World.size_drew, size_setRow, heap_drew, heap_drewN]); omega))) only [heap_drew, heap_drewN, heap_alloc_ne, heap_alloc_eq, heap_setCell_ne, heap_setRow_ne]; exact hrow; exact r2; rfl; rw [R1.out])) | ((with_reducible apply wpl_store_all 96 (n := 64) (vs := encB s) (hs := Try.sizeOf96) (L := Z64) (t := 96)); rfl; go_must (rfl; rfl; simp (disch := (first | (simp only [World.size_alloc, World.size_setCell, World.size_drew, size_setRow, heap_drew, heap_drewN]; done) | ((try simp only [World.size_alloc, World.size_setCell, World.size_drew, size_setRow, heap_drew, heap_drewN]); omega))) only [heap_drew, heap_drewN, heap_alloc_ne, heap_alloc_eq, heap_setCell_ne, heap_setRow_ne]; exact (encB_length s).trans hs; exact encB_one _; exact Z64_length; rfl; simp (disch := (first | (simp only [World.size_alloc, World.size_setCell, World.size_drew, size_setRow, heap_drew, heap_drewN]; done) | ((try simp only [World.size_alloc, World.size_setCell, World.size_drew, size_setRow, heap_drew, heap_drewN]); omega))) only [setRow_alloc_top, setRow_alloc_under])))
    exact bodyPost_ret (results_all rfl _ _ w.heap.size (encB s) 96 (0, 0) 64 rfl Try.isAgg96 Try.sizeOf96 (by simp (disch := (first | (simp only [World.size_alloc, World.size_setCell, World.size_drew, size_setRow, heap_drew, heap_drewN]; done) | ((try simp only [World.size_alloc, World.size_setCell, World.size_drew, size_setRow, heap_drew, heap_drewN]); omega))) only [heap_drew, heap_drewN, heap_alloc_ne, heap_alloc_eq, heap_setCell_ne, heap_setRow_ne]) ((encB_length s).trans hs)) rfl ⟨rfl, ((Keeps.refl _ _).alloc _).alloc _⟩
theorem now_length (h : D.Wf) {n : Nat} (hn : n < D.there.length) : (D.now n).length = 64 := by
  unfold Dk.now
  cases hl : Dk.look n D.aside with
  | some s => exact (h.aside _ (look_some hl)).2
  | none =>
    have : D.there.getD n [] = D.there[n] := by simp [List.getD, hn]
    simp only [Option.getD_none]
    rw [this]; exact h.there _ (List.getElem_mem hn)

set_option maxHeartbeats 400000 in
theorem read_calls (n : Int) (w : World) (h : DiskAt w p q m D) :
    Calls Try.prog 24 #[.pointer (some ⟨p, 0, none⟩), .int .i64 n] w fun e w' => e = .returned (.tuple #[.string (bs (D.read n).1), .int .i64 (D.read n).2]) ∧ Keeps noB w w' := by
  cases hh : D.has n with
  | false =>
    have hfin : D.read n = ([], 5) := by simp [Dk.read, hh]
    rw [hfin]
    have hi := is_calls n w h
    rw [hh] at hi
    clear hfin hh
    go_enter Try.func24, Try.ntmps24
    go_wp2_with (go_at_call 56; refine hi.mono ?_; rintro e w' ⟨rfl, rfl⟩)
    go_ret2
    exact ⟨rfl, Keeps.refl _ _⟩
  | true =>
    obtain ⟨k, rfl⟩ : ∃ k : Nat, n = k := ⟨n.toNat, by unfold Dk.has at hh; simp at hh; omega⟩
    have hk : k < D.there.length := by unfold Dk.has at hh; simp at hh; exact hh
    have hfin : D.read k = (D.now k, 0) := by simp [Dk.read, hh]
    rw [hfin]
    have hi := is_calls k w h
    rw [hh] at hi
    have hw := now_calls k w h hk
    have hs : (D.now k).length = 64 := now_length h.wf hk
    generalize D.now k = s at *
    clear hfin hh
    go_enter Try.func24, Try.ntmps24
    go_wp2_with (first | (go_at_call 56; refine hi.mono ?_; rintro e w' ⟨rfl, rfl⟩) | (go_at_call 57; refine hw.mono ?_; rintro e w' ⟨rfl, hK⟩) | (with_reducible refine wpl_alloc 96 Z64 rfl zero_sector rfl ?_) | ((with_reducible apply wpl_store_all 96 (n := 64) (vs := encB s) (hs := Try.sizeOf96) (L := Z64) (t := 96)); rfl; go_must (rfl; rfl; simp (disch := (first | (simp only [World.size_alloc, World.size_setCell, World.size_drew, size_setRow, heap_drew, heap_drewN]; done) | ((try simp only [World.size_alloc, World.size_setCell, World.size_drew, size_setRow, heap_drew, heap_drewN]); omega))) only [heap_drew, heap_drewN, heap_alloc_ne, heap_alloc_eq, heap_setCell_ne, heap_setRow_ne]; exact (encB_length s).trans hs; exact encB_one _; exact Z64_length; rfl; simp (disch := (first | (simp only [World.size_alloc, World.size_setCell, World.size_drew, size_setRow, heap_drew, heap_drewN]; done) | ((try simp only [World.size_alloc, World.size_setCell, World.size_drew, size_setRow, heap_drew, heap_drewN]); omega))) only [setRow_alloc_top, setRow_alloc_under])) | ((with_reducible apply wpl_bytes_all 35 9 5 (t := 96) (fr := (0, 0)) (s := s) (hs := Try.underlying35) (he := Try.underlying5) (hd := Try.underlying9)); rfl; go_must (rfl; (simp (disch := (first | (simp only [World.size_alloc, World.size_setCell, World.size_drew, size_setRow, heap_drew, heap_drewN]; done) | ((try simp only [World.size_alloc, World.size_setCell, World.size_drew, size_setRow, heap_drew, heap_drewN]); omega))) only [heap_drew, heap_drewN, heap_alloc_ne, heap_alloc_eq, heap_setCell_ne, heap_setRow_ne]); exact hs; rfl)))
    go_ret2
    exact ⟨rfl, hK.alloc _⟩
end Go.Proofs.Ytckopikeegegkaa
/- DISK 2: the contracts of burn, Write, Fuse, Dead, Sectors. -/
namespace Go.Proofs.Ytckopikeegegkaa
open Go.RowKit Go.MapKept
set_option linter.unusedSimpArgs false
set_option linter.unusedVariables false
variable {p q m : Nat} {D : Dk}

theorem DiskAt.setLeft {w : World} (h : DiskAt w p q m D) (x : Int) (h0 : -1 ≤ x) (h1 : x ≤ 9223372036854775807) :
    DiskAt (w.setCell ⟨p, 2, none⟩ (.int .i64 x)) p q m { D with left := x } := by
  obtain ⟨cap, hc, hs⟩ := h.strct
  have np := h.ne_pq; have nm := h.ne_pm
  refine ⟨⟨cap, hc, ?_⟩, ?_, ?_, ⟨h.wf.there, h.wf.aside, h.wf.rises, ⟨h0, h1⟩, h.wf.pos, h.wf.small⟩⟩
  · rw [heap_setCell_same w p 2 _ _ _ hs]; rfl
  · rw [heap_setCell_ne _ _ _ _ _ (Ne.symm np)]; exact h.row
  · rw [heap_setCell_ne _ _ _ _ _ (Ne.symm nm)]; exact h.kept

set_option maxHeartbeats 400000 in
theorem burn_dead (w : World) (h : DiskAt w p q m D) (h0 : D.left = 0) :
    Calls Try.prog 62 #[.pointer (some ⟨p, 0, none⟩)] w fun e w' => e = .returned (.int .i64 42) ∧ w = w' := by
  obtain ⟨cap, hc, c0, c1, c2, hf⟩ := h.cells
  rw [h0] at c2
  go_enter Try.func62, Try.ntmps62
  go_wp2
  go_ret
  exact ⟨rfl, rfl⟩
set_option maxHeartbeats 400000 in
theorem burn_live (w : World) (h : DiskAt w p q m D) (h0 : (D.left == 0) = false) :
    Calls Try.prog 62 #[.pointer (some ⟨p, 0, none⟩)] w fun e w' => e = .returned (.int .i64 0) ∧ w.setCell ⟨p, 2, none⟩ (.int .i64 (Dk.burnt D.left)) = w' := by
  obtain ⟨cap, hc, c0, c1, c2, hf⟩ := h.cells
  obtain ⟨l0, l1⟩ := h.wf.left
  have hf2 := hf 2
  have hne : D.left ≠ 0 := by simpa using h0
  generalize D.left = x at *
  clear h
  go_enter Try.func62, Try.ntmps62
  go_wp2
  all_goals go_ret
  all_goals refine ⟨rfl, ?_⟩
  · have : Dk.burnt x = -1 := by unfold Dk.burnt; split <;> omega
    rw [this]
  · have : Dk.burnt x = x - 1 := by unfold Dk.burnt; split <;> omega
    rw [this]
theorem burnt_bounds {x : Int} (h0 : -1 ≤ x) (h1 : x ≤ 9223372036854775807) : -1 ≤ Dk.burnt x ∧ Dk.burnt x ≤ 9223372036854775807 := by
  unfold Dk.burnt; split <;> omega

set_option maxHeartbeats 400000 in
theorem fuse_calls (n : Int) (w : World) (h : DiskAt w p q m D) (hn : n ≤ 9223372036854775807) :
    Calls Try.prog 35 #[.pointer (some ⟨p, 0, none⟩), .int .i64 n] w fun e w' => e = .returned (.int .i64 (D.fuse n).1) ∧ DiskAt w' p q m (D.fuse n).2 ∧ Keeps (dset p q m) w w' := by
  obtain ⟨cap, hc, c0, c1, c2, hf⟩ := h.cells
  have hf2 := hf 2
  by_cases h0 : n < 0
  · have e : D.fuse n = (1, D) := by simp [Dk.fuse, h0]
    rw [e]
    have k0 : decide (n < 0) = true := by simpa using h0
    go_enter Try.func35, Try.ntmps35
    go_wp2
    go_ret
    exact ⟨rfl, h, Keeps.refl _ _⟩
  · have k0 : decide (n < 0) = false := by simpa using h0
    by_cases h1 : D.left = 0
    · have e : D.fuse n = (42, D) := by simp [Dk.fuse, h0, h1]
      rw [e]
      rw [h1] at c2
      go_enter Try.func35, Try.ntmps35
      go_wp2
      go_ret
      exact ⟨rfl, h, Keeps.refl _ _⟩
    · have e : D.fuse n = (0, { D with left := n }) := by simp [Dk.fuse, h0, h1]
      rw [e]
      have k1 : (D.left == 0) = false := by simpa using h1
      go_enter Try.func35, Try.ntmps35
      go_wp2
      go_ret
      exact ⟨rfl, h.setLeft n (by omega) hn, (Keeps.refl _ _).setCell (fun _ => .inl rfl) _⟩

set_option maxHeartbeats 400000 in
theorem dead_calls (w : World) (h : DiskAt w p q m D) :
    Calls Try.prog 30 #[.pointer (some ⟨p, 0, none⟩)] w fun e w' => e = .returned (.bool D.dead) ∧ w = w' := by
  obtain ⟨cap, hc, c0, c1, c2, hf⟩ := h.cells
  have e : D.dead = (D.left == 0) := by unfold Dk.dead; rfl
  rw [e]
  go_enter Try.func30, Try.ntmps30
  go_wp2
  go_ret
  exact ⟨rfl, rfl⟩
set_option maxHeartbeats 400000 in
theorem sectors_calls (w : World) (h : DiskAt w p q m D) :
    Calls Try.prog 39 #[.pointer (some ⟨p, 0, none⟩)] w fun e w' => e = .returned (.int .i64 D.there.length) ∧ w = w' := by
  obtain ⟨cap, hc, c0, c1, c2, hf⟩ := h.cells
  go_enter Try.func39, Try.ntmps39
  go_wp2
  go_ret
  exact ⟨rfl, rfl⟩
set_option maxHeartbeats 400000 in
theorem sectors_nil (w : World) :
    Calls Try.prog 39 #[.pointer none] w fun e w' => e = .returned (.int .i64 0) ∧ w = w' := by
  go_enter Try.func39, Try.ntmps39
  go_wp2
  go_ret
  exact ⟨rfl, rfl⟩
end Go.Proofs.Ytckopikeegegkaa
/- A sector put into the map that is kept aside. -/
namespace Go.Proofs.Ytckopikeegegkaa
open Go.RowKit Go.MapKept

theorem put_new {n : Nat} {s : Str} : ∀ {A : List (Nat × Str)}, Dk.look n A = none → (Dk.put n s A).Perm ((n, s) :: A)
  | [], _ => List.Perm.refl _
  | p :: l, h => by
    unfold Dk.look at h
    split at h
    · cases h
    · rename_i e
      unfold Dk.put
      split
      · exact List.Perm.refl _
      · exact ((put_new h).cons p).trans (List.Perm.swap _ _ _)
theorem put_old {n : Nat} {s t : Str} : ∀ {A : List (Nat × Str)}, A.Pairwise (fun p q => p.1 < q.1) → Dk.look n A = some t →
    ∃ R, A.Perm ((n, t) :: R) ∧ (Dk.put n s A).Perm ((n, s) :: R)
  | p :: l, hr, h => by
    unfold Dk.look at h
    unfold Dk.put
    by_cases e : p.1 = n
    · rw [if_pos e] at h
      cases h
      subst e
      refine ⟨l, List.Perm.refl _, ?_⟩
      rw [if_neg (by omega), if_pos rfl]
    · rw [if_neg e] at h
      have hlt : p.1 < n := (List.pairwise_cons.1 hr).1 _ (look_some h)
      rw [if_neg (by omega), if_neg e]
      obtain ⟨R, h1, h2⟩ := put_old (s := s) (List.pairwise_cons.1 hr).2 h
      exact ⟨p :: R, (h1.cons p).trans (List.Perm.swap _ _ _), (h2.cons p).trans (List.Perm.swap _ _ _)⟩
theorem put_mem {n : Nat} {s : Str} {q : Nat × Str} : ∀ {A : List (Nat × Str)}, q ∈ Dk.put n s A → q = (n, s) ∨ q ∈ A
  | [], h => by simp [Dk.put] at h; exact .inl h
  | p :: l, h => by
    unfold Dk.put at h
    split at h
    · rcases List.mem_cons.1 h with h | h
      · exact .inl h
      · exact .inr h
    · split at h
      · rcases List.mem_cons.1 h with h | h
        · exact .inl h
        · exact .inr (List.mem_cons_of_mem _ h)
      · rcases List.mem_cons.1 h with h | h
        · exact .inr (by rw [h]; exact List.mem_cons_self)
        · rcases put_mem h with h | h
          · exact .inl h
          · exact .inr (List.mem_cons_of_mem _ h)
theorem put_rises {n : Nat} {s : Str} : ∀ {A : List (Nat × Str)}, A.Pairwise (fun p q => p.1 < q.1) → (Dk.put n s A).Pairwise (fun p q => p.1 < q.1)
  | [], _ => by simp [Dk.put]
  | p :: l, h => by
    obtain ⟨h1, h2⟩ := List.pairwise_cons.1 h
    unfold Dk.put
    split
    · rename_i e
      refine List.pairwise_cons.2 ⟨fun q hq => ?_, h⟩
      rcases List.mem_cons.1 hq with rfl | hq
      · exact e
      · have := h1 q hq; simp only; omega
    · split
      · rename_i e
        refine List.pairwise_cons.2 ⟨fun q hq => ?_, h2⟩
        have := h1 q hq; simp only; omega
      · refine List.pairwise_cons.2 ⟨fun q hq => ?_, put_rises h2⟩
        rcases put_mem hq with rfl | hq
        · simp only; omega
        · exact h1 q hq

theorem list_set_perm {α : Type} (v : α) : ∀ (L : List α) (i : Nat) (x : α), L[i]? = some x → ∃ R, L.Perm (x :: R) ∧ (L.set i v).Perm (v :: R)
  | a :: l, 0, x, h => by simp at h; subst h; exact ⟨l, List.Perm.refl _, List.Perm.refl _⟩
  | a :: l, i + 1, x, h => by
    obtain ⟨R, h1, h2⟩ := list_set_perm v l i x (by simpa using h)
    exact ⟨a :: R, (h1.cons a).trans (List.Perm.swap _ _ _), (h2.cons a).trans (List.Perm.swap _ _ _)⟩

theorem MapRep.put_found {es : Array MapEntry} {clock : Nat} {A : List (Nat × Str)} (h : MapRep es clock A) (hr : A.Pairwise (fun p q => p.1 < q.1)) {n i : Nat} {s t : Str} {e : MapEntry}
    (hl : Dk.look n A = some t) (he : es.toList[i]? = some e) (hk : e.key = .int .i64 n) (hv : e.val = arrB t) :
    MapRep (es.modify i fun e => { e with key := .int .i64 n, val := arrB s }) clock (Dk.put n s A) := by
  have hm : (es.modify i fun e => { e with key := Value.int .i64 n, val := arrB s }).toList = es.toList.set i { e with key := .int .i64 n, val := arrB s } := by
    apply List.ext_getElem?
    intro j
    simp only [Array.getElem?_toList, Array.getElem?_modify, List.getElem?_set]
    by_cases e1 : i = j
    · subst e1
      have : es[i]? = some e := by simpa using he
      have hlt : i < es.size := (Array.getElem?_eq_some_iff.1 this).1
      have h9 : es[i] = e := by
        have := this; rw [Array.getElem?_eq_getElem hlt] at this; exact Option.some.inj this
      simp [hlt, h9]
    · simp [e1]
  refine ⟨?_, ?_, ?_⟩
  · rw [hm, List.map_set]
    obtain ⟨R, h1, h2⟩ := list_set_perm (Value.int .i64 (n : Int), arrB s) (es.toList.map fun e => (e.key, e.val)) i (e.key, e.val) (by simp [he])
    obtain ⟨R', h3, h4⟩ := put_old (s := s) hr hl
    have h5 : ((e.key, e.val) :: R).Perm ((A.map entOf)) := h1.symm.trans h.perm
    have h6 : (A.map entOf).Perm (entOf (n, t) :: R'.map entOf) := h3.map entOf
    have h7 : (e.key, e.val) = entOf (n, t) := by simp [entOf, hk, hv]
    rw [h7] at h5
    have h8 := (h5.trans h6).cons_inv
    exact h2.trans ((h8.cons _).trans (h4.map entOf).symm)
  · rw [hm, List.map_set]
    have : (es.toList.map (·.born)).set i e.born = es.toList.map (·.born) := by
      apply List.ext_getElem?
      intro j
      simp only [List.getElem?_set, List.getElem?_map]
      by_cases e1 : i = j
      · subst e1
        simp only [he, if_true, Option.map_some]
        have := (List.getElem?_eq_some_iff.1 he).1
        simp at this
        simp [this]
      · simp [e1]
    simp only [this]
    exact h.born
  · rw [hm]
    intro x hx
    rcases List.mem_or_eq_of_mem_set hx with hx | rfl
    · exact h.old x hx
    · exact h.old e (List.mem_of_getElem? he)
theorem MapRep.put_fresh {es : Array MapEntry} {clock : Nat} {A : List (Nat × Str)} (h : MapRep es clock A) {n : Nat} {s : Str} (hl : Dk.look n A = none) :
    MapRep (es.push { key := .int .i64 n, val := arrB s, born := clock }) (clock + 1) (Dk.put n s A) := by
  refine ⟨?_, ?_, ?_⟩
  · simp only [Array.toList_push, List.map_append, List.map_cons, List.map_nil]
    exact (List.perm_append_comm.trans ((h.perm.cons _))).trans ((put_new hl).map entOf).symm
  · simp only [Array.toList_push, List.map_append, List.map_cons, List.map_nil]
    refine List.nodup_append.2 ⟨h.born, by simp, ?_⟩
    intro a ha b hb
    obtain ⟨x, hx, rfl⟩ := List.mem_map.1 ha
    have := h.old x hx
    simp at hb
    omega
  · intro x hx
    simp only [Array.toList_push, List.mem_append, List.mem_singleton] at hx
    rcases hx with hx | rfl
    · have := h.old x hx; omega
    · simp

theorem putObj_eq (w : World) (r : Nat) (o : Obj) (h : r < w.heap.size) : (w.putObj r o).heap[r]? = some o := by simp [World.putObj, h]
theorem putObj_ne (w : World) (r k : Nat) (o : Obj) (h : k ≠ r) : (w.putObj r o).heap[k]? = w.heap[k]? := by
  simp [World.putObj, Ne.symm h]
theorem size_putObj (w : World) (r : Nat) (o : Obj) : (w.putObj r o).heap.size = w.heap.size := by simp [World.putObj]
theorem Keeps.putObj {S : Nat → Prop} {w w' : World} (h : Keeps S w w') {r : Nat} (hr : r < w.heap.size → S r) (o : Obj) : Keeps S w (w'.putObj r o) :=
  ⟨h.os, h.tape, h.output, by rw [size_putObj]; exact h.size, fun k hk hs => by
    have hne : k ≠ r := fun e => hs (by rw [e]; exact hr (by rw [← e]; exact hk))
    rw [putObj_ne _ _ _ _ hne]; exact h.block k hk hs⟩

theorem run_mapUpdate_disk {P : Program} {w : World} {m mt et : Nat} {es : Array MapEntry} {clock : Nat} {A : List (Nat × Str)} (hu : P.underlying mt = some (.map 3 et)) (hi : P.underlying 3 = some (.int .i64))
    (hm : w.heap[m]? = some (.map es clock)) (hR : MapRep es clock A) (hr : A.Pairwise (fun p q => p.1 < q.1)) (n : Nat) (s : Str) :
    ∃ es' clock', MapRep es' clock' (Dk.put n s A) ∧ (Instr.mapUpdate mt (.map (some m)) (.int .i64 n) (arrB s)).run P w = .ok () (w.putObj m (.map es' clock')) := by
  have hc := run_checkKey (P := P) (w := w) hi (k := .int .i64 n) (by simp [IsKey]) false 9999
  rcases hR.find hr n with ⟨h1, h2⟩ | ⟨t, i, e, h1, h2, h3, h4, h5⟩
  · refine ⟨_, _, hR.put_fresh (s := s) h1, ?_⟩
    have hf := run_findKey (P := P) (w := w) hi h2
    simp [Instr.mapUpdate, run_underlying hu, Go.MapKept.run_getObj_map hm, hc, hf, Go.MapKept.run_setObj_map _ hm, World.putObj]
  · refine ⟨_, _, hR.put_found (s := s) hr h1 h3 h4 h5, ?_⟩
    have hf := run_findKey (P := P) (w := w) hi h2
    have hk : ((es[i]?).map (·.key)).getD (.int .i64 n) = .int .i64 n := by
      have : es[i]? = some e := by simpa using h3
      simp [this, h4]
    have hs : ∀ W, (Instr.keyThatStays (.int .i64 n) (.int .i64 n)).run P W = .ok (.int .i64 n) W := by
      intro W; simp [Instr.keyThatStays, Instr.sameBits]
    simp [Instr.mapUpdate, run_underlying hu, Go.MapKept.run_getObj_map hm, hc, hf, hk, hs, Go.MapKept.run_setObj_map _ hm, World.putObj]
end Go.Proofs.Ytckopikeegegkaa
/- LAWS 2: a string as bytes; a slice as an array; the store into the map of a disk. -/
namespace Go.Proofs.Ytckopikeegegkaa
open Go.RowKit Go.MapKept
section
variable {P : Program} {o : Oper} {ops : Array Oper} {rest : List Oper} {a : Act} {w : World} {Q : Exit → Act → World → Prop}

theorem freeze_heap_ne (w : World) (a : Addr) (n k : Nat) (h : k ≠ a.block) : (w.freeze a n).heap[k]? = w.heap[k]? := by
  unfold World.freeze
  split
  · rfl
  · simp only [Array.getElem?_modify]; rw [if_neg (fun e => h e.symm)]
theorem keeps_bytesWorld (w : World) (e : TypeId) (s : ByteArray) : Keeps noB w (Lib.bytesWorld w e s) :=
  ⟨by unfold Lib.bytesWorld World.freeze; split <;> rfl, by unfold Lib.bytesWorld World.freeze; split <;> rfl, by unfold Lib.bytesWorld World.freeze; split <;> rfl,
   by rw [Lib.bytesWorld_size]; omega, fun k hk _ => Lib.bytesWorld_at_old w e s k hk⟩
theorem bytesCells_eq (w : World) (e : TypeId) (s : Str) : ∃ L, Lib.bytesCells w e (bs s) = (encB s ++ L).toArray := by
  refine ⟨List.replicate (grownCap w s.length 0 e - s.length) (.int .u8 0), ?_⟩
  simp [Lib.bytesCells, bs, encB, ByteArray.size]
theorem wpl_toBytes (src dst e : TypeId) (x : Operand) (ho : o.op = .convert src dst x) (s : Str) (hx : a.eval x = .string (bs s)) {u : TypeDesc}
    (hs : P.underlying src = some u) (hd : P.underlying dst = some (.slice e)) (he : P.underlying e = some (.int .u8)) (hgd : o.guard = none)
    (h : ∀ w1 cap L fr, w1.heap[w.heap.size]? = some (.cells (encB s ++ L).toArray e fr) → Keeps noB w w1 → w1.heap.size = w.heap.size + 1 →
      wpList P ops Q rest (a.put o.dst (.slice (some ⟨w.heap.size, 0, none⟩) s.length cap)) w1) : wpList P ops Q (o :: rest) a w := by
  obtain ⟨L, hL⟩ := bytesCells_eq w e s
  have hr := Lib.run_convert_string_bytes (P := P) w src dst e (bs s) hs hd he
  have hz : (bs s).size = s.length := by simp [bs, ByteArray.size]
  rw [hz] at hr
  have hc := Lib.bytesWorld_at_new w e (bs s)
  rw [hL] at hc
  exact wpl_run (s := convert src dst (a.eval x)) (by simp only [execOp, ho]) (by rw [hx]; exact hr) hgd (h _ _ L _ hc (keeps_bytesWorld _ _ _) (Lib.bytesWorld_size _ _ _))
theorem wpl_arrayOf (arr : TypeId) (x : Operand) (ho : o.op = .sliceToArrayPointer arr x) (ad : Option Addr) (len cap n : Nat) (et : TypeId) (hx : a.eval x = .slice ad len cap)
    (hu : P.underlying arr = some (.array n et)) (hl : n ≤ len) (hgd : o.guard = none) (h : wpList P ops Q rest (a.put o.dst (.pointer ad)) w) : wpList P ops Q (o :: rest) a w := by
  refine wpl_run (s := Instr.arrayAt arr (a.eval x)) (by simp only [execOp, ho]) ?_ hgd h
  have : ¬ len < n := by omega
  simp [Instr.arrayAt, hx, run_underlying hu, this, Result.andThen]
theorem wpl_mapPut (mt et m : TypeId) (x y z : Operand) (ho : o.op = .mapUpdate mt x y z) (n : Nat) (s : Str) {es : Array MapEntry} {clock : Nat} {A : List (Nat × Str)}
    (hu : P.underlying mt = some (.map 3 et)) (hi : P.underlying 3 = some (.int .i64)) (hR : MapRep es clock A) (hr : A.Pairwise (fun p q => p.1 < q.1))
    (hx : a.eval x = .map (some m)) (hy : a.eval y = .int .i64 n) (hz : a.eval z = .agg (encB s).toArray) (hm : w.heap[m]? = some (.map es clock)) (hgd : o.guard = none)
    (h : ∀ es' clock', MapRep es' clock' (Dk.put n s A) → wpList P ops Q rest (a.put o.dst undef) (w.putObj m (.map es' clock'))) : wpList P ops Q (o :: rest) a w := by
  obtain ⟨es', clock', h1, h2⟩ := run_mapUpdate_disk (P := P) hu hi hm hR hr n s
  exact wpl_runU (s := Instr.mapUpdate mt (a.eval x) (a.eval y) (a.eval z)) (by simp only [execOp, ho]) (by rw [hx, hy, hz]; exact h2) hgd (h _ _ h1)
end
end Go.Proofs.Ytckopikeegegkaa
/- A region that draws its order, walked in ONE order: what only reads (the same in every world that meets S) may be taken when it is ready; what does more must be the one that is ready. -/
namespace Go.Proofs.Ytckopikeegegkaa
open Go.RowKit
section
variable {P : Program} {ops : Array Oper} {Q : Exit → Act → World → Prop} {S : World → Prop}

/-- The walk in the order ord: (i, true): operation i only reads; (i, false): it is the only one that is ready. -/
def wpText (P : Program) (ops : Array Oper) (Q : Exit → Act → World → Prop) (S : World → Prop) : List (Nat × Bool) → Act → World → Prop
  | [], a, w => Q .normal a w
  | (i, true) :: r, a, w => ∃ o v, ops[i]? = some o ∧ YieldsIf P ops S o v a ∧ wpText P ops Q S r (a.put o.dst v) w
  | (i, false) :: r, a, w => wpOp P ops Q i (fun a' w' => S w' ∧ wpText P ops Q S r a' w') a w
def textB (ops : Array Oper) : List (Nat × Bool) → Array Bool → Bool
  | [], listed => (Region.ready .any ops listed).isEmpty
  | (i, true) :: r, listed => (Region.ready .any ops listed).contains i && Region.free .any ops listed i && textB ops r (listed.setIfInBounds i true)
  | (i, false) :: r, listed => decide (Region.ready .any ops listed = [i]) && textB ops r (listed.setIfInBounds i true)

theorem wpText_any (hs : Region.noSelect ops = true) (hQ : ∀ d v c a w, Q (.panic c) (Act.put a d v) w → Q (.panic c) a w) :
    ∀ (l : List (Nat × Bool)) (listed : Array Bool) (a : Act) (w : World), textB ops l listed = true → S w → wpText P ops Q S l a w → wpAnyH P .any ops Q S l.length listed a w
  | [], _, _, _, hB, _, h => ⟨by simpa [textB] using hB, h⟩
  | (i, true) :: r, listed, a, w, hB, hS, h => by
    obtain ⟨o, v, hi, hy, h⟩ := h
    simp only [textB, Bool.and_eq_true] at hB
    obtain ⟨⟨hr, hf⟩, hB⟩ := hB
    exact wpAnyH_take hi hs hf hr (fun c a w => hQ o.dst v c a w) hy hS (wpText_any hs hQ r _ _ _ hB hS h)
  | (i, false) :: r, listed, a, w, hB, hS, h => by
    simp only [textB, Bool.and_eq_true, decide_eq_true_eq] at hB
    obtain ⟨hr, hB⟩ := hB
    refine wpAnyH_all hr (by simp) (fun j hj => ?_)
    have : j = i := by simpa using hj
    subst this
    exact wpOp_mono (fun a' w' h' => ⟨h'.1, wpText_any hs hQ r _ _ _ hB h'.1 h'.2⟩) h

theorem wp_region_text {id : Nat} {a : Act} {w : World} (ord : List (Nat × Bool)) (S : World → Prop) (hm : P.follows .mixedOrders = true)
    (hB : (Region.noSelect ops && decide (ord.length = ops.size) && textB ops ord (Array.replicate ops.size false)) = true)
    (hQ : ∀ d v c a w, Q (.panic c) (Act.put a d v) w → Q (.panic c) a w) (hS : S w.drew)
    (h : wpText P ops Q S ord a w.drew) : (Code.region id ops true).wp P Q a w := by
  simp only [Bool.and_eq_true, decide_eq_true_eq] at hB
  obtain ⟨⟨h1, h2⟩, h3⟩ := hB
  refine wp_region_held (S := S) hm ?_
  rw [← h2]
  exact wpText_any h1 hQ ord _ a _ (by rw [h2]; exact h3) hS h

theorem wpText_done {a : Act} {w : World} (h : Q .normal a w) : wpText P ops Q S [] a w := h
theorem wpText_take {i : Nat} {r : List (Nat × Bool)} {o : Oper} {v : Value} {a : Act} {w : World} (hi : ops.toList[i]? = some o) (hg : o.guard = none)
    (hv : ∀ w, S w → (execOp a.eval o).run P w = .ok (.value v) w) (h : wpText P ops Q S r (a.put o.dst v) w) : wpText P ops Q S ((i, true) :: r) a w :=
  ⟨o, v, by simpa using hi, .inl ⟨by simp [Region.wanted, hg], hv⟩, h⟩
theorem wpText_skip {i : Nat} {r : List (Nat × Bool)} {o : Oper} {a : Act} {w : World} (hi : ops.toList[i]? = some o) (hg : Region.wanted o (yielded ops a.tmps) = false)
    (h : wpText P ops Q S r (a.put o.dst undef) w) : wpText P ops Q S ((i, true) :: r) a w :=
  ⟨o, undef, by simpa using hi, .inr ⟨hg, rfl⟩, h⟩
theorem wpText_takeG {i : Nat} {r : List (Nat × Bool)} {o : Oper} {v : Value} {a : Act} {w : World} (hi : ops.toList[i]? = some o) (hg : Region.wanted o (yielded ops a.tmps) = true)
    (hv : ∀ w, S w → (execOp a.eval o).run P w = .ok (.value v) w) (h : wpText P ops Q S r (a.put o.dst v) w) : wpText P ops Q S ((i, true) :: r) a w :=
  ⟨o, v, by simpa using hi, .inl ⟨hg, hv⟩, h⟩
theorem wpText_go {i : Nat} {r : List (Nat × Bool)} {o : Oper} {a : Act} {w : World} (hi : ops.toList[i]? = some o) (hg : o.guard = none)
    (h : ∀ K : Act → World → Prop, (∀ a w, S w → wpText P ops Q S r a w → K a w) → o.wp P a w K Q) : wpText P ops Q S ((i, false) :: r) a w := by
  have hi' : ops[i]? = some o := by simpa using hi
  unfold wpText wpOp
  simp only [hi', Region.wanted, hg, if_true]
  exact .inl (h _ (fun a w h1 h2 => ⟨h1, h2⟩))
theorem wpText_goG {i : Nat} {r : List (Nat × Bool)} {o : Oper} {a : Act} {w : World} (hi : ops.toList[i]? = some o) (hg : Region.wanted o (yielded ops a.tmps) = true)
    (h : ∀ K : Act → World → Prop, (∀ a w, S w → wpText P ops Q S r a w → K a w) → o.wp P a w K Q) : wpText P ops Q S ((i, false) :: r) a w := by
  have hi' : ops[i]? = some o := by simpa using hi
  unfold wpText wpOp
  simp only [hi', hg, if_true]
  exact .inl (h _ (fun a w h1 h2 => ⟨h1, h2⟩))
theorem wpText_skipF {i : Nat} {r : List (Nat × Bool)} {o : Oper} {a : Act} {w : World} (hi : ops.toList[i]? = some o) (hg : Region.wanted o (yielded ops a.tmps) = false)
    (hS : S w) (h : wpText P ops Q S r (a.put o.dst undef) w) : wpText P ops Q S ((i, false) :: r) a w := by
  have hi' : ops[i]? = some o := by simpa using hi
  unfold wpText wpOp
  simp only [hi', hg]
  exact ⟨hS, h⟩

theorem upon_then {o : Oper} {a : Act} {K K' : Act → World → Prop} {r : Result Next} (h : o.upon P a K' (Exit.then K Q) r) (hk : ∀ a w, K' a w → K a w) : o.upon P a K Q r := by
  cases r with
  | ok n w' =>
    cases n <;> simp only [Oper.upon] at h ⊢ <;> try exact h
    case value u => exact hk _ _ h
    case skip => exact hk _ _ h
    case defer d => exact hk _ _ h
    case enter f args =>
      refine Calls.mono h fun e w'' he => ?_
      cases e with
      | returned u => exact hk _ _ he
      | panicked c => exact he
      | outgrown => obtain ⟨a, w, q⟩ := he; exact ⟨a, w, q⟩
    case row row args => exact Rows.mono h fun u w'' he => hk _ _ he
  | halt x w' =>
    cases x <;> simp only [Oper.upon] at h ⊢ <;> exact h
theorem wpText_goL {i : Nat} {r : List (Nat × Bool)} {o : Oper} {a : Act} {w : World} (hi : ops.toList[i]? = some o)
    (h : ∀ K : Act → World → Prop, (∀ a w, S w → wpText P ops Q S r a w → K a w) → wpList P ops (Exit.then K Q) [o] a w) : wpText P ops Q S ((i, false) :: r) a w := by
  have hi' : ops[i]? = some o := by simpa using hi
  have h' := h _ (fun a w h1 h2 => (⟨h1, h2⟩ : S w ∧ wpText P ops Q S r a w))
  unfold wpText wpOp
  simp only [hi']
  unfold wpList at h'
  split
  · rename_i hw
    rw [if_pos hw] at h'
    rcases h' with h' | ⟨h1, a2, w2, h2⟩
    · exact .inl (upon_then h' (fun a w q => q))
    · exact .inr ⟨h1, a2, w2, h2⟩
  · rename_i hw
    rw [if_neg hw] at h'
    exact h'
theorem wpl_end {K : Act → World → Prop} {a : Act} {w : World} (h : K a w) : wpList P ops (Exit.then K Q) [] a w := h
end
end Go.Proofs.Ytckopikeegegkaa
/- DISK 3: the contract of Write. -/
namespace Go.Proofs.Ytckopikeegegkaa
open Go.RowKit Go.MapKept
set_option linter.unusedSimpArgs false
set_option linter.unusedVariables false
variable {p q m : Nat} {D : Dk}

theorem write_wf (h : D.Wf) {n : Nat} {s : Str} (hn : n < D.there.length) (hs : s.length = 64) : ({ D with left := Dk.burnt D.left, aside := Dk.put n s D.aside } : Dk).Wf :=
  ⟨h.there, fun x hx => by
    rcases put_mem hx with rfl | hx
    · exact ⟨hn, hs⟩
    · exact h.aside x hx, put_rises h.rises, burnt_bounds h.left.1 h.left.2, h.pos, h.small⟩

set_option maxHeartbeats 400000 in
set_option maxRecDepth 10000 in
theorem write_calls (n : Int) (s : Str) (w : World) (h : DiskAt w p q m D) :
    Calls Try.prog 32 #[.pointer (some ⟨p, 0, none⟩), .int .i64 n, .string (bs s)] w fun e w' =>
      e = .returned (.int .i64 (D.write n s).1) ∧ DiskAt w' p q m (D.write n s).2 ∧ Keeps (dset p q m) w w' := by
  have hi := is_calls n w h
  cases hh : D.has n with
  | false =>
    have e : D.write n s = (5, D) := by simp [Dk.write, hh]
    rw [e]
    rw [hh] at hi
    clear e hh
    go_enter Try.func32, Try.ntmps32
    go_wp2_with (go_at_call 56; refine hi.mono ?_; rintro e w' ⟨rfl, rfl⟩)
    go_ret
    exact ⟨rfl, h, Keeps.refl _ _⟩
  | true =>
    obtain ⟨k, rfl⟩ : ∃ k : Nat, n = k := ⟨n.toNat, by unfold Dk.has at hh; simp at hh; omega⟩
    have hk : k < D.there.length := by unfold Dk.has at hh; simp at hh; exact hh
    rw [hh] at hi
    by_cases hs : s.length = 64
    · have b0 : ((s.length : Int) != 64) = false := by rw [hs]; rfl
      by_cases h0 : D.left = 0
      · have e : D.write k s = (42, D) := by simp [Dk.write, hh, hs, h0]
        rw [e]
        have hb := burn_dead w h h0
        clear e hh hs h0
        go_enter Try.func32, Try.ntmps32
        go_wp2_with (first | (go_at_call 56; refine hi.mono ?_; rintro e w' ⟨rfl, rfl⟩) | (go_at_call 62; refine hb.mono ?_; rintro e w' ⟨rfl, rfl⟩))
        go_ret
        exact ⟨rfl, h, Keeps.refl _ _⟩
      · have e : D.write k s = (0, { D with left := Dk.burnt D.left, aside := Dk.put k s D.aside }) := by simp [Dk.write, hh, hs, h0]
        rw [e]
        have hb := burn_live w h (by simpa using h0)
        have h2 := h.setLeft _ (burnt_bounds h.wf.left.1 h.wf.left.2).1 (burnt_bounds h.wf.left.1 h.wf.left.2).2
        have hwf := write_wf h.wf hk hs
        have k2 := (Keeps.refl (dset p q m) w).setCell (a := ⟨p, 2, none⟩) (fun _ => .inl rfl) (.int .i64 (Dk.burnt D.left))
        have np := h.ne_pm; have nq := h.ne_qm
        generalize Dk.burnt D.left = x at *
        generalize hw1 : w.setCell ⟨p, 2, none⟩ (.int .i64 x) = w1 at *
        obtain ⟨cap, hc, c0, c1, c2, hf⟩ := h2.cells
        obtain ⟨es, clock, hm, hR⟩ := h2.kept
        have lm := h2.lt_m; have lp := h2.lt_p; have lq := h2.lt_q
        have hfin : ∀ w2 w3 es' clock', Keeps noB w1 w2 → MapRep es' clock' (Dk.put k s D.aside) → w3 = w2.putObj m (.map es' clock') →
            DiskAt w3 p q m { D with left := x, aside := Dk.put k s D.aside } ∧ Keeps (dset p q m) w w3 := by
          intro w2 w3 es' clock' hk2 hR' e3
          subst e3
          have h4 := h2.keep hk2 (fun q => q) (fun q => q) (fun q => q)
          refine ⟨⟨?_, ?_, ⟨es', clock', putObj_eq _ _ _ h4.lt_m, hR'⟩, hwf⟩, (k2.trans (hk2.mono (fun _ _ q => q.elim))).putObj (fun _ => .inr (.inr rfl)) _⟩
          · obtain ⟨cap, hc, hs⟩ := h4.strct
            exact ⟨cap, hc, by rw [putObj_ne _ _ _ _ np]; exact hs⟩
          · obtain ⟨r, hr⟩ := h4.row
            exact ⟨r, by rw [putObj_ne _ _ _ _ nq]; exact hr⟩
        have Hfin := Lib.hid hfin
        have hrises := Lib.hid h.wf.rises
        have Hs := Lib.hid hs
        clear hfin e hh hs h0 hwf k2
        clear hw1
        go_enter Try.func32, Try.ntmps32
        go_wp2_with (first | (go_at_call 56; refine hi.mono ?_; rintro e w' ⟨rfl, rfl⟩) | (go_at_call 62; refine hb.mono ?_; rintro e w' ⟨rfl, rfl⟩))
        refine wp_region_text [(0, true), (1, true), (2, true), (3, true), (4, true), (5, true), (6, false), (7, false), (8, false), (9, false)] (fun W => W.cell? ⟨p, 1, none⟩ = some (.map (some m))) (by kernel_rfl) (by kernel_rfl) (fun d _ _ _ _ h => by cases d <;> exact h) (by simpa using c1) ?_
        iterate 6 (apply wpText_take; rfl; rfl; (intro W hS; (try dsimp only at hS); go_simp; exact rfl))
        try simp only [Act.put, List.setIfInBounds_toArray, List.set_cons_succ, List.set_cons_zero]
        apply wpText_goL; rfl; intro K hK
        apply wpl_toBytes 9 35 5 (s := s) (hs := Try.underlying9) (hd := Try.underlying35) (he := Try.underlying5); rfl; rfl; rfl
        intro w2 cap2 L2 fr2 b2 hk2 z2
        have e1 : w2.cell? ⟨p, 1, none⟩ = some (.map (some m)) := (hk2.cell 1 (by simpa using lp) (fun q => q)).trans (by simpa using c1)
        refine wpl_end (hK _ _ e1 ?_)
        clear hK K
        try simp only [Act.put, List.setIfInBounds_toArray, List.set_cons_succ, List.set_cons_zero]
        apply wpText_goL; rfl; intro K hK
        apply wpl_arrayOf 96 (hu := Try.underlying96); rfl; rfl; exact (Nat.le_of_eq Hs.out.symm); rfl
        refine wpl_end (hK _ _ e1 ?_)
        clear hK K
        try simp only [Act.put, List.setIfInBounds_toArray, List.set_cons_succ, List.set_cons_zero]
        apply wpText_goL; rfl; intro K hK
        apply wpl_load 96 (n := 64) (L := encB s ++ L2) (hg := Try.isAgg96) (hs := Try.sizeOf96); rfl; rfl; exact b2; (simp [encB_length, Hs.out]); rfl
        refine wpl_end (hK _ _ e1 ?_)
        clear hK K
        try simp only [Act.put, List.setIfInBounds_toArray, List.set_cons_succ, List.set_cons_zero]
        apply wpText_goL; rfl; intro K hK
        have et : List.take 64 (List.drop 0 (encB s ++ L2)) = encB s := by
          rw [List.drop_zero, List.take_append_of_le_length (by rw [encB_length, Hs.out]; exact Nat.le_refl _), List.take_of_length_le (by rw [encB_length, Hs.out]; exact Nat.le_refl _)]
        rw [et]
        apply wpl_mapPut 86 96 m (n := k) (s := s) (hu := Try.underlying86) (hi := Try.underlying3) (hR := hR) (hr := hrises.out); rfl; rfl; rfl; rfl; exact (hk2.block m (by simpa using lm) (fun q => q)).trans (by simpa [heap_drew] using hm); rfl
        intro es' clock' hR'
        refine wpl_end (hK _ _ ?_ ?_)
        · exact (World.cell?_of_block (w := w2) (putObj_ne w2 m p _ np)).trans e1
        · apply wpText_done
          clear hK K
          try simp only [Act.put, List.setIfInBounds_toArray, List.set_cons_succ, List.set_cons_zero]
          obtain ⟨f1, f2⟩ := Hfin.out w2 _ es' clock' ((Keeps.refl noB w1).drew.trans hk2) hR' rfl
          generalize w2.putObj m (.map es' clock') = w3 at *
          clear Hfin
          go_wp2
          go_ret
          exact ⟨rfl, f1, f2⟩
    · have b0 : ((s.length : Int) != 64) = true := by simp; omega
      have e : D.write k s = (1, D) := by simp [Dk.write, hh, hs]
      rw [e]
      clear e hh hs
      go_enter Try.func32, Try.ntmps32
      go_wp2_with (go_at_call 56; refine hi.mono ?_; rintro e w' ⟨rfl, rfl⟩)
      go_ret
      exact ⟨rfl, h, Keeps.refl _ _⟩
end Go.Proofs.Ytckopikeegegkaa
/- DISK 4: the contract of New. -/
namespace Go.Proofs.Ytckopikeegegkaa
open Go.RowKit Go.MapKept
set_option linter.unusedSimpArgs false
set_option linter.unusedVariables false

theorem range_rows (Z : List Value) (k : Nat) (hk : Z.length = k) (h0 : 0 < k) : ∀ n, (List.range (n * k)).map (fun i => Z.toArray[i % k]!) = (List.replicate n Z).flatten
  | 0 => by simp
  | n + 1 => by
    rw [Nat.succ_mul, List.range_add, List.map_append, range_rows Z k hk h0 n, List.replicate_succ', List.flatten_append]
    congr 1
    simp only [List.map_map, List.flatten_cons, List.flatten_nil, List.append_nil]
    apply List.ext_getElem
    · simp [hk]
    · intro i h1 h2
      have hi : i < k := by simpa using h1
      simp only [List.getElem_map, List.getElem_range, Function.comp]
      rw [show (n * k + i) % k = i by rw [Nat.mul_comm, Nat.mul_add_mod]; exact Nat.mod_eq_of_lt hi]
      simp [h2]

theorem wpl_make {P : Program} {o : Oper} {ops : Array Oper} {rest : List Oper} {a : Act} {w : World} {Q : Exit → Act → World → Prop} (t e : TypeId) (l c : Operand) (ho : o.op = .makeSlice t l c) (n k by_ : Nat) (Z : List Value) (z : Value)
    (hl : a.eval l = .int .i64 n) (hc : a.eval c = .int .i64 n) (hu : P.underlying t = some (.slice e)) (hi : (P.info? e).map (fun i => (i.zero, i.size, i.bytes)) = some (some z, k, by_)) (hz : z.cells = Z.toArray) (hk : Z.length = k) (h0 : 0 < k)
    (hb : (by_ : Int) * n ≤ 281474976710656) (hn : (n : Int) ≤ 9223372036854775807) (hgd : o.guard = none)
    (h : wpList P ops Q rest (a.put o.dst (.slice (some ⟨w.heap.size, 0, none⟩) n n)) (w.alloc (.cells (List.replicate n Z).flatten.toArray e))) : wpList P ops Q (o :: rest) a w := by
  refine wpl_run (s := Instr.makeSlice t (a.eval l) (a.eval c)) (by simp only [execOp, ho]) ?_ hgd h
  obtain ⟨i, hi', hz0, hz1, hz2⟩ := info_parts hi
  have hr := run_make (P := P) w t e i z hu hi' hz0 .i64 .i64 n n (by omega) (Int.le_refl _) (by rw [hz2]; exact hb) hn
  have hcell : madeCells z.cells ((n : Int).toNat * i.size) = (List.replicate n Z).flatten.toArray := by
    apply Array.ext'
    rw [← range_rows Z k hk h0 n]
    simp [madeCells, hz, hk, hz1]
  rw [hl, hc, hr, hcell, Int.toNat_natCast]

/-- A value in a new variable. -/
theorem wpl_box {P : Program} {o : Oper} {ops : Array Oper} {rest : List Oper} {a : Act} {w : World} {Q : Exit → Act → World → Prop} (ty : TypeId) (x : Operand) (ho : o.op = .box ty x) (L : List Value)
    (hx : (a.eval x).cells = L.toArray) (hgd : o.guard = none) (h : wpList P ops Q rest (a.put o.dst (.pointer (some ⟨w.heap.size, 0, none⟩))) (w.alloc (.cells L.toArray ty))) : wpList P ops Q (o :: rest) a w := by
  refine wpl_run (s := Instr.box ty (a.eval x)) (by simp only [execOp, ho]) ?_ hgd h
  simp [Instr.box, newVar, newRow, hx, Result.andThen]
theorem made_rows (n : Nat) : (List.replicate n Z64).flatten = (List.replicate n (List.replicate 64 (0 : UInt8))).flatMap encB := by
  induction n with
  | zero => rfl
  | succ n ih => simp only [List.replicate_succ, List.flatten_cons, List.flatMap_cons, ih]; rfl

theorem zero_wf {n : Nat} (h0 : 1 ≤ n) (h1 : n ≤ 4096) : (Dk.zero n).Wf :=
  ⟨fun s hs => by simp [Dk.zero] at hs; rw [hs.2]; rfl, by simp [Dk.zero], by simp [Dk.zero], by simp [Dk.zero], by simpa [Dk.zero] using h0, by simpa [Dk.zero] using h1⟩
theorem info_sector : (Try.prog.info? 96).map (fun i => (i.zero, i.size, i.bytes)) = some (some (.agg Z64.toArray), 64, 64) := by kernel_rfl

set_option maxHeartbeats 400000 in
theorem new_bad (n : Int) (w : World) (hn : Dk.make n = none) :
    Calls Try.prog 16 #[.int .i64 n] w fun e w' => e = .returned (.tuple #[.pointer none, .int .i64 1]) ∧ w = w' := by
  by_cases h0 : n < 1
  · have k0 : decide (n < 1) = true := by simpa using h0
    go_enter Try.func16, Try.ntmps16
    go_wp2
    go_ret2
    exact ⟨rfl, rfl⟩
  · have k0 : decide (n < 1) = false := by simpa using h0
    have h1 : 4096 < n := by
      unfold Dk.make at hn
      split at hn
      · omega
      · cases hn
    have k1 : decide (4096 < n) = true := by simpa using h1
    go_enter Try.func16, Try.ntmps16
    go_wp2
    go_ret2
    exact ⟨rfl, rfl⟩
set_option maxHeartbeats 400000 in
theorem new_good (n : Int) (D : Dk) (w : World) (hn : Dk.make n = some D) :
    Calls Try.prog 16 #[.int .i64 n] w fun e w' => ∃ p q m, e = .returned (.tuple #[.pointer (some ⟨p, 0, none⟩), .int .i64 0]) ∧ DiskAt w' p q m D ∧ Keeps noB w w' ∧ w.heap.size ≤ p ∧ w.heap.size ≤ q ∧ w.heap.size ≤ m := by
  have hb : ¬ (n < 1 ∨ 4096 < n) := by intro h; simp [Dk.make, h] at hn
  have hD : D = Dk.zero n.toNat := by simp [Dk.make, hb] at hn; exact hn.symm
  subst hD
  obtain ⟨k, rfl⟩ : ∃ k : Nat, n = k := ⟨n.toNat, by omega⟩
  have b1 : 1 ≤ k := by omega
  have b2 : k ≤ 4096 := by omega
  have k0 : decide ((k : Int) < 1) = false := by simp; omega
  have k1 : decide (4096 < (k : Int)) = false := by simp; omega
  rw [Int.toNat_natCast]
  clear hn hb
  have hmm := @run_makeMap Try.prog
  have hfin : ∀ (w1 : World), w1.heap[w.heap.size]? = some (.cells (List.replicate k Z64).flatten.toArray 96) → w1.heap[w.heap.size + 1]? = some (.map #[] 0) →
      w1.heap[w.heap.size + 1 + 1]? = some (.cells #[.slice (some ⟨w.heap.size, 0, none⟩) k k, .map (some (w.heap.size + 1)), .int .i64 (-1)] 88) →
      DiskAt w1 (w.heap.size + 1 + 1) w.heap.size (w.heap.size + 1) (Dk.zero k) := by
    intro w1 h1 h2 h3
    refine ⟨⟨k, by simp [Dk.zero], by rw [h3]; simp [Dk.zero]⟩, ⟨[], by rw [h1, made_rows]; simp [Dk.zero]⟩, ⟨_, _, h2, ⟨by simp [Dk.zero], by simp, by simp⟩⟩, zero_wf b1 b2⟩
  have Hfin := Lib.hid hfin
  clear hfin
  go_enter Try.func16, Try.ntmps16
  go_wp2_with ((with_reducible apply wpl_make 85 96 (n := k) (k := 64) (by_ := 64) (Z := Z64) (z := .agg Z64.toArray) (hu := Try.underlying85) (hi := info_sector)); rfl; go_must (rfl; rfl; rfl; exact Z64_length; omega; omega; omega; rfl))
  go_ret2
  refine ⟨w.heap.size + 1 + 1, w.heap.size, w.heap.size + 1, rfl, Hfin.out _ (by simp (disch := (first | (simp only [World.size_alloc, World.size_setCell, World.size_drew, size_setRow, heap_drew, heap_drewN]; done) | ((try simp only [World.size_alloc, World.size_setCell, World.size_drew, size_setRow, heap_drew, heap_drewN]); omega))) only [heap_drew, heap_drewN, heap_alloc_ne, heap_alloc_eq, heap_setCell_ne, heap_setRow_ne]) (by simp (disch := (first | (simp only [World.size_alloc, World.size_setCell, World.size_drew, size_setRow, heap_drew, heap_drewN]; done) | ((try simp only [World.size_alloc, World.size_setCell, World.size_drew, size_setRow, heap_drew, heap_drewN]); omega))) only [heap_drew, heap_drewN, heap_alloc_ne, heap_alloc_eq, heap_setCell_ne, heap_setRow_ne]) (by simp (disch := (first | (simp only [World.size_alloc, World.size_setCell, World.size_drew, size_setRow, heap_drew, heap_drewN]; done) | ((try simp only [World.size_alloc, World.size_setCell, World.size_drew, size_setRow, heap_drew, heap_drewN]); omega))) only [heap_drew, heap_drewN, heap_alloc_ne, heap_alloc_eq, heap_setCell_ne, heap_setRow_ne]), (((Keeps.refl _ _).alloc _).alloc _).alloc _, by omega, by omega, by omega⟩
end Go.Proofs.Ytckopikeegegkaa
/- PAGE 1: Pages, there, root, sectors. -/
namespace Go.Proofs.Ytckopikeegegkaa
open Go.RowKit Go.MapKept
set_option linter.unusedSimpArgs false
set_option linter.unusedVariables false
variable {p q m : Nat} {D : Dk}

set_option maxHeartbeats 400000 in
theorem pages_calls (w : World) (h : DiskAt w p q m D) :
    Calls Try.prog 20 #[.pointer (some ⟨p, 0, none⟩)] w fun e w' => e = .returned (.int .i64 (pages D)) ∧ w = w' := by
  have hs := sectors_calls w h
  have hb := h.wf.small
  have hp : pages D = (D.there.length : Int) / 4 := by unfold pages; omega
  rw [hp]
  generalize D.there.length = n at *
  go_enter Try.func20, Try.ntmps20
  go_wp2_with (go_at_call 39; refine hs.mono ?_; rintro e w' ⟨rfl, rfl⟩)
  go_ret
  exact ⟨rfl, rfl⟩
set_option maxHeartbeats 400000 in
theorem pages_nil (w : World) :
    Calls Try.prog 20 #[.pointer none] w fun e w' => e = .returned (.int .i64 0) ∧ w = w' := by
  have hs := sectors_nil w
  go_enter Try.func20, Try.ntmps20
  go_wp2_with (go_at_call 39; refine hs.mono ?_; rintro e w' ⟨rfl, rfl⟩)
  go_ret
  exact ⟨rfl, rfl⟩
set_option maxHeartbeats 400000 in
theorem there_nil (n : Int) (w : World) :
    Calls Try.prog 54 #[.pointer none, .int .i64 n] w fun e w' => e = .returned (.int .i64 2) ∧ w = w' := by
  go_enter Try.func54, Try.ntmps54
  go_wp2
  go_ret
  exact ⟨rfl, rfl⟩
set_option maxHeartbeats 400000 in
theorem there_calls (n : Int) (w : World) (h : DiskAt w p q m D) :
    Calls Try.prog 54 #[.pointer (some ⟨p, 0, none⟩), .int .i64 n] w fun e w' => e = .returned (.int .i64 (if hasPage D n then 0 else 5)) ∧ w = w' := by
  have hs := pages_calls w h
  have e : hasPage D n = (decide (0 ≤ n) && decide (n < pages D)) := rfl
  generalize pages D = x at *
  by_cases h0 : n < 0
  · have : hasPage D n = false := by rw [e]; simp; omega
    rw [this]
    have k0 : decide (n < 0) = true := by simpa using h0
    clear e this
    go_enter Try.func54, Try.ntmps54
    go_wp2_with (go_at_call 20; refine hs.mono ?_; rintro e w' ⟨rfl, rfl⟩)
    go_ret
    exact ⟨rfl, rfl⟩
  · have k0 : decide (n < 0) = false := by simpa using h0
    by_cases h1 : n < x
    · have : hasPage D n = true := by rw [e]; simp; omega
      rw [this]
      have k1 : decide (x ≤ n) = false := by simpa using h1
      clear e this
      go_enter Try.func54, Try.ntmps54
      go_wp2_with (go_at_call 20; refine hs.mono ?_; rintro e w' ⟨rfl, rfl⟩)
      go_ret
      exact ⟨rfl, rfl⟩
    · have : hasPage D n = false := by rw [e]; simp; omega
      rw [this]
      have k1 : decide (x ≤ n) = true := by simpa using h1
      clear e this
      go_enter Try.func54, Try.ntmps54
      go_wp2_with (go_at_call 20; refine hs.mono ?_; rintro e w' ⟨rfl, rfl⟩)
      go_ret
      exact ⟨rfl, rfl⟩
set_option maxHeartbeats 400000 in
theorem root_nil (n : Int) (w : World) :
    Calls Try.prog 53 #[.pointer none, .int .i64 n] w fun e w' => e = .returned (.int .i64 2) ∧ w = w' := by
  have hs := there_nil n w
  go_enter Try.func53, Try.ntmps53
  go_wp2_with (go_at_call 54; refine hs.mono ?_; rintro e w' ⟨rfl, rfl⟩)
  go_ret
  exact ⟨rfl, rfl⟩
set_option maxHeartbeats 400000 in
theorem root_calls (n : Int) (w : World) (h : DiskAt w p q m D) :
    Calls Try.prog 53 #[.pointer (some ⟨p, 0, none⟩), .int .i64 n] w fun e w' => e = .returned (.int .i64 (if hasRoot D n then 0 else 5)) ∧ w = w' := by
  have hs := there_calls n w h
  by_cases h1 : n ≤ 1
  · have : hasRoot D n = hasPage D n := by simp [hasRoot, h1]
    rw [this]
    have k1 : decide (1 < n) = false := by simpa using h1
    go_enter Try.func53, Try.ntmps53
    go_wp2_with (go_at_call 54; refine hs.mono ?_; rintro e w' ⟨rfl, rfl⟩)
    all_goals go_ret
    all_goals exact ⟨rfl, rfl⟩
  · have : hasRoot D n = false := by simp [hasRoot, h1]
    rw [this]
    have k1 : decide (1 < n) = true := by simp; omega
    go_enter Try.func53, Try.ntmps53
    go_wp2_with (go_at_call 54; refine hs.mono ?_; rintro e w' ⟨rfl, rfl⟩)
    go_ret
    exact ⟨rfl, rfl⟩
end Go.Proofs.Ytckopikeegegkaa
/- PAGE 2: the iterator over a page's sectors. -/
namespace Go.Proofs.Ytckopikeegegkaa
open Go.RowKit Go.MapKept Go.Shelf
set_option linter.unusedSimpArgs false
set_option linter.unusedVariables false
attribute [local go_sem] Oper.semAt_some

def secs (n : Int) (k : Fin 4) : Array Value := #[.int .i64 ((k.val : Int) * 64), .int .i64 (n * 4 + (k.val : Int))]
theorem rng_succ (k : Nat) (h : k < 4) : rng (k + 1) = rng k ++ [⟨k, h⟩] := by
  have : ∀ j : Fin 4, rng (j.val + 1) = rng j.val ++ [j] := by decide
  exact this ⟨k, h⟩
theorem rng_length (k : Nat) (h : k ≤ 4) : (rng k).length = k := by
  have : ∀ j : Fin 5, (rng j.val).length = j.val := by decide
  exact this ⟨k, by omega⟩
def keepsBox (nb : Nat) (W W' : World) : Prop := W'.cell? ⟨nb, 0, none⟩ = W.cell? ⟨nb, 0, none⟩

set_option maxRecDepth 100000 in
set_option maxHeartbeats 1000000 in
theorem sectors1_in (F : Fence) (r : Nat) (h7 : F.fn 70) (hro : F.round = none) (hn : 1 ≤ r) (l nb : Nat) (n : Int) (b0 : 0 ≤ n) (b1 : n ≤ 1000000) (J Jx : List (Fin 4) → World → Prop)
    (hY : ∀ pre x W, J pre W → pre.length < 4 → YieldAt F (r - 1) Try.prog l (secs n x) W fun e W' =>
      (e = .returned (.bool true) ∧ J (pre ++ [x]) W' ∧ keepsBox nb W W') ∨ (e = .returned (.bool false) ∧ Jx (pre ++ [x]) W'))
    (W : World) (hB : W.cell? ⟨nb, 0, none⟩ = some (.int .i64 n)) (h0 : J [] W) :
    CallsIn F r Try.prog 70 #[.func (.yield l) #[] #[], .pointer (some ⟨nb, 0, none⟩)] W fun e W' => (∃ v, e = .returned v) ∧
      ((∃ ys, ys = rng 4 ∧ J ys W') ∨ (∃ pre, (∃ k, k ≤ 4 ∧ pre = rng k) ∧ Jx pre W')) := by
  refine callsIn_of_wp Try.func70 rfl h7 ?_ hro
  simp only [Try.ntmps70, List.size_toArray, List.length_cons, List.length_nil, Nat.reduceAdd, Nat.reduceSub, Array.replicate_succ, Array.replicate_zero, List.push_toArray, List.append_toArray, List.nil_append, List.cons_append]
  gi_wp2
  gi_loopw [4] (fun i wr => ∃ k : Nat, k ≤ 4 ∧ i = .int .i64 k ∧ J (rng k) wr ∧ keepsBox nb W wr)
    (fun i _ => 4 - (intOf i).toNat)
  case atStart => exact ⟨0, Nat.zero_le _, rfl, h0, rfl⟩
  case round =>
    obtain ⟨k, hk, rfl, hJs, hnx⟩ := hrel
    have hcx : wr.cell? ⟨nb, 0, none⟩ = some (.int .i64 n) := hnx.trans hB
    by_cases hlt : k < 4
    · obtain ⟨fn, tmps, assign, body, hy, hR⟩ := hY _ ⟨k, hlt⟩ wr hJs (by rw [rng_length k hk]; exact hlt)
      unfold secs at hy
      dsimp only at hy
      have hnb := hcx
      gi_wp2
      refine hR.mono ?_
      rintro e W3 (⟨rfl, hJ3, hk3⟩ | ⟨rfl, hJx3⟩)
      · gi_wp2
        go_roundw
        case rel => exact ⟨k + 1, by omega, by simp, by rw [rng_succ k hlt]; exact hJ3, Eq.trans hk3 hnx⟩
        case measure => simp [intOf]; omega
      · gi_wp2
        refine bodyPost_ret (results_none rfl _ _ _) rfl ?_
        exact ⟨⟨_, rfl⟩, .inr ⟨_, ⟨k + 1, by omega, (rng_succ k hlt).symm⟩, hJx3⟩⟩
    · obtain rfl : k = 4 := by omega
      gi_wp2
      go_end0
      exact ⟨⟨_, rfl⟩, .inl ⟨_, rfl, hJs⟩⟩

set_option maxHeartbeats 400000 in
theorem sectors_in (F : Fence) (r : Nat) (h5 : F.fn 55) (hro : F.round = none) (n : Int) (w : World) :
    CallsIn F r Try.prog 55 #[.int .i64 n] w fun e w' => e = .returned (.func (.func 70) #[] #[.pointer (some ⟨w.heap.size, 0, none⟩)]) ∧ w.alloc (.cells #[.int .i64 n] 3) = w' := by
  refine callsIn_of_wp Try.func55 rfl h5 ?_ hro
  simp only [Try.ntmps55, List.size_toArray, List.length_cons, List.length_nil, Nat.reduceAdd, Nat.reduceSub, Array.replicate_succ, Array.replicate_zero, List.push_toArray, List.append_toArray, List.nil_append, List.cons_append]
  gi_wp2
  go_ret
  exact ⟨rfl, rfl⟩
theorem sectors_stops (F : Fence) (r : Nat) (h7 : F.fn 70) (hro : F.round = none) (hn : 1 ≤ r) (nb : Nat) (n : Int) (b0 : 0 ≤ n) (b1 : n ≤ 1000000) (w : World) (hb : nb < w.heap.size)
    (hc : w.cell? ⟨nb, 0, none⟩ = some (.int .i64 n)) :
    SeqStopsK F r Try.prog 70 #[.pointer (some ⟨nb, 0, none⟩)] (secs n) (keepsBox nb) (fun ys => ys = rng 4) (fun pre => ∃ k, k ≤ 4 ∧ pre = rng k) 4 w := fun l J Jx W hW _ _ hY h0 =>
  sectors1_in F r h7 hro hn l nb n b0 b1 J Jx hY W ((hW.cell (p := ⟨nb, 0, none⟩) hb).trans hc) h0

theorem own_of_below {β : Type} (B : Nat) (I : β → World → Prop) (hB : ∀ s W, I s W → B ≤ W.heap.size) (hI : ∀ s W W', I s W → Below B W W' → I s W') : OwnFrom B I :=
  fun s W W' row hs hg hr => hI s W W' hs ⟨hg.os, hg.tape, hg.output, hg.size, fun k hk => hg.block k (Nat.lt_of_lt_of_le hk (hB s W hs)) (fun e => by have := (hr k e.symm).1; omega)⟩
theorem keepsFrom_of_keeps {S : Nat → Prop} {B : Nat} {W W' : World} (h : Keeps S W W') (hS : ∀ k, S k → k < B) : KeepsFrom B W W' :=
  ⟨h.size, fun k o hk ho _ => (h.block k (Array.getElem?_eq_some_iff.1 ho).1 (fun q => by have := hS k q; omega)).trans ho⟩
theorem Keeps.of_below_lt {S : Nat → Prop} {B : Nat} {w W W' : World} (h : Keeps S w W) (k : Below B W W') (hB : w.heap.size ≤ B) : Keeps S w W' :=
  ⟨k.os.trans h.os, k.tape.trans h.tape, k.output.trans h.output, Nat.le_trans h.size k.size, fun i hi hs => (k.block i (by omega)).trans (h.block i hi hs)⟩
theorem keepsBox_t {nb : Nat} {A B C : World} (h : keepsBox nb A B) (k : keepsBox nb B C) : keepsBox nb A C := Eq.trans k h
theorem keepsBox_b {nb : Nat} {w : World} (hn : nb < w.heap.size) (W : World) (l : Nat) (o o' : Obj) (hl : w.heap.size ≤ l) (h : W.heap[l]? = some o) (_ : o.isCells = false) (_ : o.isWalk = false) : keepsBox nb W (W.putObj l o') :=
  World.cell?_of_block (w := W) (putObj_ne W l nb o' (by omega))
end Go.Proofs.Ytckopikeegegkaa
/- LAWS 3: an array built from two elements; a string copied into bytes; the entry of a function that ranges over a function; a result in a cell. -/
namespace Go.Proofs.Ytckopikeegegkaa
open Go.RowKit Go.MapKept
section
variable {P : Program} {o : Oper} {ops : Array Oper} {rest : List Oper} {a : Act} {w : World} {Q : Exit → Act → World → Prop}

theorem wpl_build2 (t et : TypeId) (n : Nat) (x y : Operand) (ho : o.op = .build t #[(0, x), (1, y)]) (u v z0 z1 : Value) (Z : List Value)
    (hx : a.eval x = u) (hy : a.eval y = v) (hu : P.underlying t = some (.array n et)) (hz : ∀ w, (zeroValue t).run P w = .ok (.agg (z0 :: z1 :: Z).toArray) w) (hs : ∀ w, (sizeOf et).run P w = .ok 1 w)
    (cu : u.cells = #[u]) (cv : v.cells = #[v]) (hgd : o.guard = none)
    (h : wpList P ops Q rest (a.put o.dst (.agg (u :: v :: Z).toArray)) w) : wpList P ops Q (o :: rest) a w := by
  refine wpl_run (s := Instr.build t #[(0, a.eval x), (1, a.eval y)]) (by simp [execOp, ho]) ?_ hgd h
  have cz : (Value.agg (z0 :: z1 :: Z).toArray).cells = (z0 :: z1 :: Z).toArray := rfl
  simp [Instr.build, hz, run_underlying hu, hs, hx, hy, cz, Instr.fill, cu, cv, Result.andThen]

theorem run_copyStr (dT sT et rT : TypeId) (b off dLen cap : Nat) (s : Str) (L : List Value) (t : TypeId) (hu : P.underlying dT = some (.slice et)) (hs : ∀ w, (sizeOf et).run P w = .ok 1 w)
    (hb : w.heap[b]? = some (.cells L.toArray t (0, 0))) (hn : s.length ≤ dLen) (hl : off + dLen ≤ L.length) :
    (Builtin.copy_ #[dT, sT] rT #[.slice (some ⟨b, off, none⟩) dLen cap, .string (bs s)]).run P w = .ok (.int .i64 s.length) (w.setRow b (L.take off ++ encB s ++ L.drop (off + s.length)).toArray) := by
  have hst := run_storeCells_at (P := P) b off t (encB s) 0 L.toArray w hb (by simp [encB_length]; omega) (encB_one s)
  have hm : Nat.min s.length dLen = s.length := Nat.min_eq_left hn
  have he : ((bs s).extract 0 s.length).data.map (fun b => Value.int .u8 b.toNat) = (encB s).toArray := by
    apply Array.ext'
    simp [bs, encB, ByteArray.extract, ByteArray.copySlice]
  simp only [Nat.add_zero, encB_length] at hst
  simp [Builtin.copy_, run_underlying hu, Builtin.lenOf, Builtin.firstCells, hs, hm, he, goInt, Result.andThen] at hst ⊢
  have h2 : List.take s.length (List.map (fun b : UInt8 => Value.int IntKind.u8 b.toNat) s) = encB s := List.take_of_length_le (by simp)
  rw [h2, hst]
theorem wpl_copyStr (dT sT et : TypeId) (x y : Operand) (ho : o.op = .call { callee := .builtin .copy, args := #[x, y], argTypes := #[dT, sT] }) (b off dLen cap : Nat) (s : Str) (L : List Value) (t : TypeId)
    (hx : a.eval x = .slice (some ⟨b, off, none⟩) dLen cap) (hy : a.eval y = .string (bs s)) (hu : P.underlying dT = some (.slice et)) (hs : ∀ w, (sizeOf et).run P w = .ok 1 w)
    (hb : w.heap[b]? = some (.cells L.toArray t (0, 0))) (hn : s.length ≤ dLen) (hl : off + dLen ≤ L.length) (hgd : o.guard = none)
    (h : wpList P ops Q rest (a.put o.dst (.int .i64 s.length)) (w.setRow b (L.take off ++ encB s ++ L.drop (off + s.length)).toArray)) : wpList P ops Q (o :: rest) a w := by
  refine wpl_run (s := Builtin.copy_ #[dT, sT] o.type #[a.eval x, a.eval y]) ?_ ?_ hgd h
  · simp [execOp, ho, resolve, invoke, builtin]
  · rw [hx, hy]; exact run_copyStr dT sT et o.type b off dLen cap s L t hu hs hb hn hl
theorem wpl_store1 (ty : TypeId) (x y : Operand) (ho : o.op = .store ty x y) (b off : Nat) (v : Value) (L : List Value) (t : TypeId) (hx : a.eval x = .pointer (some ⟨b, off, none⟩)) (hy : a.eval y = v)
    (hs : ∀ w, (sizeOf ty).run P w = .ok 1 w) (hb : w.heap[b]? = some (.cells L.toArray t (0, 0))) (h1 : v.oneCell' = true) (hc : v.cells = #[v]) (hl : off < L.length) (hgd : o.guard = none)
    (h : wpList P ops Q rest (a.put o.dst undef) (w.setRow b (L.set off v).toArray)) : wpList P ops Q (o :: rest) a w := by
  have hst := run_storeCells_at (P := P) b off t [v] 0 L.toArray w hb (by simp; omega) (by intro u hu; simp at hu; subst hu; exact h1)
  have e : List.take off L ++ v :: List.drop (off + 1) L = L.set off v := by rw [List.set_eq_take_append_cons_drop]; simp [hl]
  refine wpl_runU (s := Instr.storeAt ty (a.eval x) (a.eval y)) (by simp only [execOp, ho]) ?_ hgd h
  simp [e] at hst
  simp [Instr.storeAt, hx, hy, Instr.sureAddr, storeVar, hs, hc, Result.andThen, hst]
theorem setRow_eq (w : World) (b : Nat) (cs cs' : Array Value) (t : TypeId) (fr : Nat × Nat) (h : w.heap[b]? = some (.cells cs t fr)) : (w.setRow b cs').heap[b]? = some (.cells cs' t fr) := setRow_heap w b cs cs' t fr h
theorem results_cell1 {fn : Func} {p : Tmp} {ty : TypeId} (h : fn.results = #[.cell p ty]) (tmps : Array Value) (w : World) (b : Nat) (v : Value)
    (hp : tmps.getD p undef = .pointer (some ⟨b, 0, none⟩)) (hg : (isAgg ty).run P w = .ok false w) (hb : w.cell? ⟨b, 0, none⟩ = some v) : (results fn tmps).run P w = .ok v w := by
  have hp' : tmps[p]?.getD undef = .pointer (some ⟨b, 0, none⟩) := by simpa using hp
  simp [results, h, hp', asAddr, loadVar, hg, load, Sem.run, hb, Result.andThen]
theorem results_cell2 {fn : Func} {p q : Tmp} {ty ty2 : TypeId} (h : fn.results = #[.cell p ty, .cell q ty2]) (tmps : Array Value) (w : World) (b c : Nat) (v v2 : Value)
    (hp : tmps.getD p undef = .pointer (some ⟨b, 0, none⟩)) (hg : (isAgg ty).run P w = .ok false w) (hb : w.cell? ⟨b, 0, none⟩ = some v)
    (hq : tmps.getD q undef = .pointer (some ⟨c, 0, none⟩)) (hg2 : (isAgg ty2).run P w = .ok false w) (hb2 : w.cell? ⟨c, 0, none⟩ = some v2) : (results fn tmps).run P w = .ok (.tuple #[v, v2]) w := by
  have hp' : tmps[p]?.getD undef = .pointer (some ⟨b, 0, none⟩) := by simpa using hp
  have hq' : tmps[q]?.getD undef = .pointer (some ⟨c, 0, none⟩) := by simpa using hq
  simp [results, h, hp', hq', asAddr, loadVar, hg, hg2, load, Sem.run, hb, hb2, Result.andThen]
end
/-- What only new blocks are touched by leaves the old ones be. -/
theorem Keeps.trans_new {S T : Nat → Prop} {w w' w'' : World} (h : Keeps S w w') (k : Keeps T w' w'') (hT : ∀ k, k < w.heap.size → ¬ T k) : Keeps S w w'' :=
  ⟨k.os.trans h.os, k.tape.trans h.tape, k.output.trans h.output, Nat.le_trans h.size k.size,
   fun i hi hs => (k.block i (Nat.lt_of_lt_of_le hi h.size) (hT i hi)).trans (h.block i hi hs)⟩
/-- A function that ranges over a function: its body, walked plainly. -/
theorem calls_marks {P : Program} {f : FuncId} {fn : Func} {c : Code} {args : Array Value} {w : World} {R : Ending → World → Prop} (hf : P.funcs[f]? = some fn) (hb : fn.body = some c)
    (h : c.wp P (bodyPostM Fence.wide 9 P fn R) { tmps := args ++ Array.replicate (fn.ntmps - args.size) undef, defers := [] } w) : Calls P f args w R :=
  (callsIn_wide (n := 9)).1 (callsIn_of_wp_marks hf hb trivial (wpIn_wide.2 h))
theorem leaves_plain {P : Program} {fn : Func} {tmps : Array Value} {w : World} {v : Value} {R : Ending → World → Prop} (hr : (results fn tmps).run P w = .ok v w) (hR : R (.returned v) w) :
    bodyPostM Fence.wide 9 P fn R .ret { tmps := tmps, defers := [] } w := ⟨v, hr, hR⟩
theorem leaves_mark {P : Program} {fn : Func} {tmps : Array Value} {w : World} {D : Nat} {v : Value} {R : Ending → World → Prop} (hK : w.heap[D]? = some (.deferred (some [])))
    (hr : (results fn tmps).run P (w.putObj D (.deferred none)) = .ok v (w.putObj D (.deferred none))) (hR : R (.returned v) (w.putObj D (.deferred none))) :
    bodyPostM Fence.wide 9 P fn R .ret { tmps := tmps, defers := [{ target := .collected D, args := #[] }] } w :=
  ⟨by simp, .inl ⟨_, _, rfl, run_takeDeferred hK, v, hr, hR⟩⟩
end Go.Proofs.Ytckopikeegegkaa
/- A region that draws its order, in a round of a loop over a function: walked as it is outside. -/
namespace Go.Proofs.Ytckopikeegegkaa
open Go.RowKit
set_option linter.unusedVariables false
set_option linter.unusedSimpArgs false
section
variable {P : Program} {ops : Array Oper} {Q : Exit → Act → World → Prop}

theorem exec_run {o : Oper} {a : Act} {w w' : World} {s : Sem Value} {v : Value} (ho : execOp a.eval o = (do pure (.value (← s)))) (hr : s.run P w = .ok v w') : (execOp a.eval o).run P w = .ok (.value v) w' := by
  rw [ho]
  simp only [Sem.run_bind, hr, Result.andThen_ok, Sem.run_pure]
theorem run_sliceArr (t et : TypeId) (n sz b off : Nat) (x y : Int) (lo hi : Nat) (w : World) (hu : P.underlying t = some (.array n et)) (hs : ∀ w, (sizeOf et).run P w = .ok sz w) (ex : x = lo) (ey : y = hi) (h0 : lo < n) (h1 : lo ≤ hi) (h2 : hi ≤ n) :
    (Instr.sliceAt t (.pointer (some ⟨b, off, none⟩)) (some (.int .i64 x)) (some (.int .i64 y)) none).run P w = .ok (.slice (some ⟨b, off + lo * sz, none⟩) (hi - lo) (n - lo)) w := by
  subst ex; subst ey
  have e1 : (0 : Int) ≤ (hi : Int) ∧ (hi : Int) ≤ (n : Int) := ⟨by omega, by omega⟩
  have e2 : (0 : Int) ≤ (lo : Int) ∧ (lo : Int) ≤ (hi : Int) := ⟨by omega, by omega⟩
  have e3 : ¬ n = lo := by omega
  have e4 : ¬ n < hi := by omega
  have e5 : ¬ hi < lo := by omega
  simp [Instr.sliceAt, run_underlying hu, Instr.sureAddr, Instr.sliceBounds, Instr.sliceBound, asIntOf, Result.andThen, e1, e2, e3, e4, e5, hs, addr_add, h1, h2]
theorem run_sliceArrLo (t et : TypeId) (n sz b off : Nat) (x : Int) (lo : Nat) (w : World) (hu : P.underlying t = some (.array n et)) (hs : ∀ w, (sizeOf et).run P w = .ok sz w) (ex : x = lo) (h0 : lo < n) :
    (Instr.sliceAt t (.pointer (some ⟨b, off, none⟩)) (some (.int .i64 x)) none none).run P w = .ok (.slice (some ⟨b, off + lo * sz, none⟩) (n - lo) (n - lo)) w := by
  subst ex
  have e2 : (0 : Int) ≤ (lo : Int) ∧ (lo : Int) ≤ (n : Int) := ⟨by omega, by omega⟩
  have e3 : ¬ n = lo := by omega
  have e5 : ¬ n < lo := by omega
  simp [Instr.sliceAt, run_underlying hu, Instr.sureAddr, Instr.sliceBounds, Instr.sliceBound, asIntOf, Result.andThen, e2, e3, e5, hs, addr_add, Nat.le_of_lt h0]
theorem wplIn_run {F : Fence} {l n : Nat} {o : Oper} {rest : List Oper} {a : Act} {w w' : World} {s : Sem Value} {v : Value} (hnd : ∀ c, o.op ≠ .defer c) (hab : (∀ f, o.about P w a.eval = some f → (F.inRound l).fn f)) (ho : execOp a.eval o = (do pure (.value (← s)))) (hr : s.run P w = .ok v w')
    (hgd : o.guard = none) (h : wpListIn (F.inRound l) n P ops Q rest (a.put o.dst v) w') : wpListIn (F.inRound l) n P ops Q (o :: rest) a w := by
  refine wpListIn_plain hgd fun K hK => ⟨hab, ?_⟩
  have e : o.semAt (F.inRound l).round a.eval = execOp a.eval o := Oper.semAt_some l a.eval o hnd
  rw [e, exec_run ho hr]
  exact hK _ _ h
theorem about_wide (l : Nat) (o : Oper) (w : World) (ρ : Operand → Value) : ∀ f, o.about P w ρ = some f → (Fence.wide.inRound l).fn f := fun _ _ => trivial
theorem upon_in {l n : Nat} {o : Oper} {a : Act} {K : Act → World → Prop} (hno : ¬ LetsOut Q) {r : Result Next} (h : o.upon P a K Q r) : o.uponIn (Fence.wide.inRound l) n P a K Q r := by
  cases r with
  | ok x w' =>
    cases x <;> simp only [Oper.upon] at h <;> simp only [Oper.uponIn] <;> try exact h
    case enter f args => exact ⟨fun q => by simp [Fence.wide] at q, CallsIn.inRound l (callsIn_wide.2 h)⟩
    case row row args =>
      refine ⟨fun q => by simp [Fence.wide] at q, fun c cs _ => ?_⟩
      obtain ⟨v, w2, r, s⟩ := h c cs
      exact ⟨v, w2, r, stepsIn_wide.2 s⟩
    all_goals exact h.elim
  | halt x w' => cases x <;> simp only [Oper.upon] at h <;> simp only [Oper.uponIn] <;> exact h
theorem wpOp_in {l n : Nat} {i : Nat} {a : Act} {w : World} {K K' : Act → World → Prop} (hno : ¬ LetsOut Q) (hnd : ∀ (i : Nat) (o : Oper), ops[i]? = some o → ∀ c, o.op ≠ .defer c) (hk : ∀ a w, K a w → K' a w)
    (h : wpOp P ops Q i K a w) : wpOpIn (Fence.wide.inRound l) n P ops Q i K' a w := by
  unfold wpOp at h
  unfold wpOpIn
  cases ho : ops[i]? with
  | none => simp only [ho] at h ⊢; exact hk _ _ h
  | some o =>
    simp only [ho] at h ⊢
    split
    · rename_i hw
      rw [if_pos hw] at h
      rcases h with h | ⟨_, q⟩
      · refine ⟨about_wide l o w _, ?_⟩
        have e : o.semAt (Fence.wide.inRound l).round a.eval = execOp a.eval o := Oper.semAt_some l a.eval o (hnd i o ho)
        rw [e]
        refine upon_in hno ?_
        unfold Oper.wp at h
        generalize (execOp a.eval o).run P w = r at h
        cases r with
        | ok x w' =>
          cases x <;> simp only [Oper.upon] at h ⊢ <;> try exact h
          case value v => exact hk _ _ h
          case skip => exact hk _ _ h
          case defer d => exact hk _ _ h
          case enter f args =>
            refine Calls.mono h fun e w'' he => ?_
            cases e with
            | returned u => exact hk _ _ he
            | panicked c => exact he
            | outgrown => exact he
          case row row args => exact Rows.mono h fun u w'' he => hk _ _ he
        | halt x w' => cases x <;> simp only [Oper.upon] at h ⊢ <;> exact h
      · exact absurd q hno
    · rename_i hw
      rw [if_neg hw] at h
      exact ⟨about_wide l o w _, hk _ _ h⟩
theorem wpAny_in {l n : Nat} {md : Region.Mode} (hno : ¬ LetsOut Q) (hnd : ∀ (i : Nat) (o : Oper), ops[i]? = some o → ∀ c, o.op ≠ .defer c) :
    ∀ (fuel : Nat) (listed : Array Bool) (a : Act) (w : World), wpAny P md ops Q fuel listed a w → wpAnyIn (Fence.wide.inRound l) n P md ops Q fuel listed a w
  | 0, _, _, _, h => h
  | fuel + 1, listed, a, w, h => ⟨h.1, fun i hi => wpOp_in hno hnd (fun a w q => wpAny_in hno hnd fuel _ a w q) (h.2 i hi)⟩
def noDefer (ops : Array Oper) : Bool := ops.toList.all fun o => match o.op with | .defer _ => false | _ => true
theorem noDefer_spec (h : noDefer ops = true) (i : Nat) (o : Oper) (ho : ops[i]? = some o) (c : Call) : o.op ≠ .defer c := by
  intro q
  have := List.all_eq_true.1 h o (by simpa using Array.mem_of_getElem? ho)
  simp [q] at this
theorem wp_region_textIn {l n : Nat} {id : Nat} {a : Act} {w : World} (ord : List (Nat × Bool)) (S : World → Prop) (hm : P.follows .mixedOrders = true)
    (hB : (noDefer ops && (Region.noSelect ops && decide (ord.length = ops.size) && textB ops ord (Array.replicate ops.size false))) = true) (hno : ¬ LetsOut Q)
    (hQ : ∀ d v c a w, Q (.panic c) (Act.put a d v) w → Q (.panic c) a w) (hS : S w.drew)
    (h : wpText P ops Q S ord a w.drew) : (Code.region id ops true).wpIn (Fence.wide.inRound l) n P Q a w := by
  simp only [Bool.and_eq_true, decide_eq_true_eq] at hB
  obtain ⟨h0, ⟨h1, h2⟩, h3⟩ := hB
  refine wpIn_region_any hm ?_
  refine wpAny_in hno (noDefer_spec h0) _ _ _ _ (wpAny_of_held (S := S) _ _ _ _ ?_)
  rw [← h2]
  exact wpText_any h1 hQ ord _ a _ (by rw [h2]; exact h3) hS h
end
end Go.Proofs.Ytckopikeegegkaa
/- PAGE 3: the contract of Write. -/
namespace Go.Proofs.Ytckopikeegegkaa
open Go.RowKit Go.MapKept Go.Shelf
set_option linter.unusedSimpArgs false
set_option linter.unusedVariables false
attribute [local go_sem] Oper.semAt_some
variable {p q m : Nat} {D : Dk}

theorem wrun_snoc (b : Str) (n : Int) (x : Fin 4) : ∀ (l : List (Fin 4)) (d : Dk), (wrun b n l d).1 = 0 →
    wrun b n (l ++ [x]) d = (wrun b n l d).2.write (n * 4 + (x.val : Int)) (sub b (x.val * 64) (x.val * 64 + 64))
  | [], d, _ => by
    simp only [List.nil_append, wrun]
    split
    · rename_i h; rw [← h]
    · rfl
  | y :: l, d, h => by
    simp only [List.cons_append, wrun] at h ⊢
    split
    · rename_i h0
      rw [if_pos h0] at h
      exact wrun_snoc b n x l _ h
    · rename_i h0
      rw [if_neg h0] at h
      exact absurd h h0
theorem wrun_fail (b : Str) (n : Int) (r : List (Fin 4)) : ∀ (l : List (Fin 4)) (d : Dk), (wrun b n l d).1 ≠ 0 → wrun b n (l ++ r) d = wrun b n l d
  | [], d, h => by simp [wrun] at h
  | y :: l, d, h => by
    simp only [List.cons_append, wrun] at h ⊢
    split
    · rename_i h0
      rw [if_pos h0] at h
      exact wrun_fail b n r l _ h
    · rfl
theorem rng_prefix (k : Nat) (h : k ≤ 4) : ∃ r, rng 4 = rng k ++ r := ⟨(List.finRange 4).drop k, by
  have : ∀ j : Fin 5, rng 4 = rng j.val ++ (List.finRange 4).drop j.val := by decide
  exact this ⟨k, by omega⟩⟩
theorem pgBody_length {b : Str} (h : b.length ≤ 254) : (pgBody b).length = 256 := by simp [pgBody]; omega

def Z254 : List Value := encB (List.replicate 254 0)
abbrev Z256 : List Value := .int .u8 0 :: .int .u8 0 :: Z254
theorem Z254_length : Z254.length = 254 := by unfold Z254; rw [encB_length]; exact List.length_replicate
theorem zero_page (w : World) : (zeroValue 92).run Try.prog w = .ok (.agg Z256.toArray) w := by kernel_rfl

set_option maxHeartbeats 1000000 in
theorem pwrite_bad (n : Int) (b : Str) (w : World) (h : DiskAt w p q m D) (hh : hasPage D n = false) :
    Calls Try.prog 21 #[.pointer (some ⟨p, 0, none⟩), .int .i64 n, .string (bs b)] w fun e w' =>
      e = .returned (.int .i64 5) ∧ DiskAt w' p q m D ∧ Keeps (dset p q m) w w' := by
  have lp := h.lt_p; have lq := h.lt_q; have lm := h.lt_m
  have hi : ∀ W, Keeps noB w W → Calls Try.prog 54 #[.pointer (some ⟨p, 0, none⟩), .int .i64 n] W fun e w' => e = .returned (.int .i64 5) ∧ W = w' := fun W k => by
    have := there_calls n W (h.keep k (fun q => q) (fun q => q) (fun q => q))
    rw [hh] at this; exact this
  clear hh
  refine calls_marks Try.func21 rfl ?_
  simp only [Try.ntmps21, List.size_toArray, List.length_cons, List.length_nil, Nat.reduceAdd, Nat.reduceSub, Array.replicate_succ, Array.replicate_zero, List.push_toArray, List.append_toArray, List.nil_append, List.cons_append]
  go_wp2_with (go_at_call 54; refine (hi _ (((Keeps.refl _ _).alloc _).alloc _)).mono ?_; rintro e w' ⟨rfl, rfl⟩)
  have k1 : Keeps noB w ((w.alloc (.cells #[.pointer (some ⟨p, 0, none⟩)] 25)).alloc (.cells #[.int .i64 5] 26)) := ((Keeps.refl _ _).alloc _).alloc _
  exact leaves_plain (results_cell1 rfl _ _ (w.heap.size + 1) (.int .i64 5) rfl (Try.isAgg26 _) (by simp)) ⟨rfl, h.keep k1 (fun q => q) (fun q => q) (fun q => q), k1.mono (fun _ _ q => q.elim)⟩
set_option maxHeartbeats 1000000 in
theorem pwrite_long (n : Int) (b : Str) (w : World) (h : DiskAt w p q m D) (hh : hasPage D n = true) (hb : decide (254 < (b.length : Int)) = true) :
    Calls Try.prog 21 #[.pointer (some ⟨p, 0, none⟩), .int .i64 n, .string (bs b)] w fun e w' =>
      e = .returned (.int .i64 40) ∧ DiskAt w' p q m D ∧ Keeps (dset p q m) w w' := by
  have lp := h.lt_p; have lq := h.lt_q; have lm := h.lt_m
  have hi : ∀ W, Keeps noB w W → Calls Try.prog 54 #[.pointer (some ⟨p, 0, none⟩), .int .i64 n] W fun e w' => e = .returned (.int .i64 0) ∧ W = w' := fun W k => by
    have := there_calls n W (h.keep k (fun q => q) (fun q => q) (fun q => q))
    rw [hh] at this; exact this
  clear hh
  refine calls_marks Try.func21 rfl ?_
  simp only [Try.ntmps21, List.size_toArray, List.length_cons, List.length_nil, Nat.reduceAdd, Nat.reduceSub, Array.replicate_succ, Array.replicate_zero, List.push_toArray, List.append_toArray, List.nil_append, List.cons_append]
  go_wp2_with (go_at_call 54; refine (hi _ (((Keeps.refl _ _).alloc _).alloc _)).mono ?_; rintro e w' ⟨rfl, rfl⟩)
  have k1 : Keeps noB w ((w.alloc (.cells #[.pointer (some ⟨p, 0, none⟩)] 25)).alloc (.cells #[.int .i64 40] 26)) := ((Keeps.refl _ _).alloc _).alloc _
  exact leaves_plain (results_cell1 rfl _ _ (w.heap.size + 1) (.int .i64 40) rfl (Try.isAgg26 _) (by simp)) ⟨rfl, h.keep k1 (fun q => q) (fun q => q) (fun q => q), k1.mono (fun _ _ q => q.elim)⟩

theorem body_cells {b : Str} (hl : b.length ≤ 254) :
    (Value.int .u8 ((b.length : Int) / 256) :: Value.int .u8 (b.length : Int) :: Z254).take 2 ++ encB b ++ (Value.int .u8 ((b.length : Int) / 256) :: Value.int .u8 (b.length : Int) :: Z254).drop (2 + b.length) = encB (pgBody b) := by
  have e1 : ((UInt8.ofNat (b.length / 256)).toNat : Int) = (b.length : Int) / 256 := by simp; omega
  have e2 : ((UInt8.ofNat (b.length % 256)).toNat : Int) = (b.length : Int) := by simp; omega
  have e3 : Z254.drop b.length = encB (List.replicate (254 - b.length) 0) := by
    unfold Z254 encB
    rw [← List.map_drop, List.drop_replicate]
  rw [show 2 + b.length = b.length + 1 + 1 by omega, List.drop_succ_cons, List.drop_succ_cons, e3]
  simp only [pgBody, encB, List.map_cons, List.map_append, e1, e2]
  rfl
set_option maxRecDepth 10000 in
set_option maxHeartbeats 1000000 in
theorem pwrite_good (n : Nat) (b : Str) (w : World) (h : DiskAt w p q m D) (hh : hasPage D n = true) (hb : decide (254 < (b.length : Int)) = false) :
    Calls Try.prog 21 #[.pointer (some ⟨p, 0, none⟩), .int .i64 n, .string (bs b)] w fun e w' =>
      e = .returned (.int .i64 (wrun (pgBody b) n (rng 4) D).1) ∧ DiskAt w' p q m (wrun (pgBody b) n (rng 4) D).2 ∧ Keeps (dset p q m) w w' := by
  have lp := h.lt_p; have lq := h.lt_q; have lm := h.lt_m
  have hi : ∀ W, Keeps noB w W → Calls Try.prog 54 #[.pointer (some ⟨p, 0, none⟩), .int .i64 n] W fun e w' => e = .returned (.int .i64 0) ∧ W = w' := fun W k => by
    have := there_calls n W (h.keep k (fun q => q) (fun q => q) (fun q => q))
    rw [hh] at this; exact this
  have hl : b.length ≤ 254 := by simp at hb; omega
  have hse := fun W => (callsIn_wide (n := 9)).1 (sectors_in Fence.wide 9 trivial rfl n W)
  have hbody := Lib.hid (body_cells hl)
  refine calls_marks Try.func21 rfl ?_
  simp only [Try.ntmps21, List.size_toArray, List.length_cons, List.length_nil, Nat.reduceAdd, Nat.reduceSub, Array.replicate_succ, Array.replicate_zero, List.push_toArray, List.append_toArray, List.nil_append, List.cons_append]
  go_wp2_with (first | (go_at_call 54; refine (hi _ (((Keeps.refl _ _).alloc _).alloc _)).mono ?_; rintro e w' ⟨rfl, rfl⟩) | (go_at_call 55; refine (hse _).mono ?_; rintro e w' ⟨rfl, rfl⟩) | (with_reducible refine wpl_alloc 92 Z256 rfl zero_page rfl ?_) | ((with_reducible apply wpl_build2 92 5 256 (z0 := .int .u8 0) (z1 := .int .u8 0) (Z := Z254) (hu := Try.underlying92) (hz := zero_page) (hs := Try.sizeOf5)); rfl; go_must (rfl; rfl; rfl; rfl; rfl)) | ((with_reducible apply wpl_store_all 92 (n := 256) (vs := .int .u8 ((b.length : Int) / 256) :: .int .u8 (b.length : Int) :: Z254) (hs := Try.sizeOf92) (L := Z256) (t := 92)); rfl; go_must (rfl; rfl; simp (disch := (first | (simp only [World.size_alloc, World.size_setCell, World.size_drew, size_setRow, heap_drew, heap_drewN]; done) | ((try simp only [World.size_alloc, World.size_setCell, World.size_drew, size_setRow, heap_drew, heap_drewN]); omega))) only [heap_drew, heap_drewN, heap_alloc_ne, heap_alloc_eq, heap_setCell_ne, heap_setRow_ne]; (simp [Z254_length]); (intro v hv; rcases List.mem_cons.1 hv with rfl | hv; rfl; rcases List.mem_cons.1 hv with rfl | hv; rfl; exact encB_one _ v hv); (simp [Z256, Z254_length]); rfl; simp (disch := (first | (simp only [World.size_alloc, World.size_setCell, World.size_drew, size_setRow, heap_drew, heap_drewN]; done) | ((try simp only [World.size_alloc, World.size_setCell, World.size_drew, size_setRow, heap_drew, heap_drewN]); omega))) only [setRow_alloc_top, setRow_alloc_under])) | ((with_reducible apply wpl_copyStr 35 9 5 (s := b) (hu := Try.underlying35) (hs := Try.sizeOf5) (L := .int .u8 ((b.length : Int) / 256) :: .int .u8 (b.length : Int) :: Z254) (t := 92)); rfl; go_must (rfl; rfl; simp (disch := (first | (simp only [World.size_alloc, World.size_setCell, World.size_drew, size_setRow, heap_drew, heap_drewN]; done) | ((try simp only [World.size_alloc, World.size_setCell, World.size_drew, size_setRow, heap_drew, heap_drewN]); omega))) only [heap_drew, heap_drewN, heap_alloc_ne, heap_alloc_eq, heap_setCell_ne, heap_setRow_ne]; exact hl; (simp [Z254_length]); rfl; rw [hbody.out]; simp (disch := (first | (simp only [World.size_alloc, World.size_setCell, World.size_drew, size_setRow, heap_drew, heap_drewN]; done) | ((try simp only [World.size_alloc, World.size_setCell, World.size_drew, size_setRow, heap_drew, heap_drewN]); omega))) only [setRow_alloc_top, setRow_alloc_under])))
  have k0 : Keeps noB w ((((w.alloc (.cells #[.pointer (some ⟨p, 0, none⟩)] 25)).alloc (.cells #[.int .i64 0] 26)).alloc (.cells (encB (pgBody b)).toArray 92)).alloc (.cells #[.int .i64 n] 3)) := ((((Keeps.refl _ _).alloc _).alloc _).alloc _).alloc _
  have f3 : ((((w.alloc (.cells #[.pointer (some ⟨p, 0, none⟩)] 25)).alloc (.cells #[.int .i64 0] 26)).alloc (.cells (encB (pgBody b)).toArray 92)).alloc (.cells #[.int .i64 n] 3)).heap[w.heap.size]? = some (.cells #[.pointer (some ⟨p, 0, none⟩)] 25) := by simp (disch := (first | (simp only [World.size_alloc, World.size_setCell, World.size_drew, size_setRow, heap_drew, heap_drewN]; done) | ((try simp only [World.size_alloc, World.size_setCell, World.size_drew, size_setRow, heap_drew, heap_drewN]); omega))) only [heap_drew, heap_drewN, heap_alloc_ne, heap_alloc_eq, heap_setCell_ne, heap_setRow_ne]
  have f6 : ((((w.alloc (.cells #[.pointer (some ⟨p, 0, none⟩)] 25)).alloc (.cells #[.int .i64 0] 26)).alloc (.cells (encB (pgBody b)).toArray 92)).alloc (.cells #[.int .i64 n] 3)).heap[w.heap.size + 1]? = some (.cells #[.int .i64 0] 26) := by simp (disch := (first | (simp only [World.size_alloc, World.size_setCell, World.size_drew, size_setRow, heap_drew, heap_drewN]; done) | ((try simp only [World.size_alloc, World.size_setCell, World.size_drew, size_setRow, heap_drew, heap_drewN]); omega))) only [heap_drew, heap_drewN, heap_alloc_ne, heap_alloc_eq, heap_setCell_ne, heap_setRow_ne]
  have f8 : ((((w.alloc (.cells #[.pointer (some ⟨p, 0, none⟩)] 25)).alloc (.cells #[.int .i64 0] 26)).alloc (.cells (encB (pgBody b)).toArray 92)).alloc (.cells #[.int .i64 n] 3)).heap[w.heap.size + 1 + 1]? = some (.cells (encB (pgBody b)).toArray 92) := by simp (disch := (first | (simp only [World.size_alloc, World.size_setCell, World.size_drew, size_setRow, heap_drew, heap_drewN]; done) | ((try simp only [World.size_alloc, World.size_setCell, World.size_drew, size_setRow, heap_drew, heap_drewN]); omega))) only [heap_drew, heap_drewN, heap_alloc_ne, heap_alloc_eq, heap_setCell_ne, heap_setRow_ne]
  have fn : ((((w.alloc (.cells #[.pointer (some ⟨p, 0, none⟩)] 25)).alloc (.cells #[.int .i64 0] 26)).alloc (.cells (encB (pgBody b)).toArray 92)).alloc (.cells #[.int .i64 n] 3)).heap[w.heap.size + 1 + 1 + 1]? = some (.cells #[.int .i64 n] 3) := by simp (disch := (first | (simp only [World.size_alloc, World.size_setCell, World.size_drew, size_setRow, heap_drew, heap_drewN]; done) | ((try simp only [World.size_alloc, World.size_setCell, World.size_drew, size_setRow, heap_drew, heap_drewN]); omega))) only [heap_drew, heap_drewN, heap_alloc_ne, heap_alloc_eq, heap_setCell_ne, heap_setRow_ne]
  have zW : ((((w.alloc (.cells #[.pointer (some ⟨p, 0, none⟩)] 25)).alloc (.cells #[.int .i64 0] 26)).alloc (.cells (encB (pgBody b)).toArray 92)).alloc (.cells #[.int .i64 n] 3)).heap.size = w.heap.size + 1 + 1 + 1 + 1 := by simp
  generalize ((((w.alloc (.cells #[.pointer (some ⟨p, 0, none⟩)] 25)).alloc (.cells #[.int .i64 0] 26)).alloc (.cells (encB (pgBody b)).toArray 92)).alloc (.cells #[.int .i64 n] 3)) = W1 at *
  have hD1 := h.keep k0 (fun q => q) (fun q => q) (fun q => q)
  have hn4 : (n : Int) ≤ 1000000 := by
    have := h.wf.small
    have h1 := hh
    simp only [hasPage, Bool.and_eq_true, decide_eq_true_eq] at h1
    have h2 := h1.2
    unfold pages at h2
    omega
  refine (wpIn_wide (n := 9)).1 ?_
  refine wpIn_rangeFunc_ownG (F := Fence.wide) rfl (by omega) (gf := 70) (lb := #[.pointer (some ⟨w.heap.size + 1 + 1 + 1, 0, none⟩)]) rfl trivial (enters_of Try.func70 (by kernel_rfl) rfl)
    (sectors_stops Fence.wide 8 trivial rfl (by omega) (w.heap.size + 1 + 1 + 1) n (by omega) hn4 W1 (by omega) (by simp [World.cell?, fn])) keepsBox_t (keepsBox_b (w := W1) (by omega)) (Below.refl _ _) (fun _ => rfl)
    (fun pre W => ∃ D', wrun (pgBody b) n pre D = (0, D') ∧ DiskAt W p q m D' ∧ Keeps (fun k => dset p q m k ∨ k = w.heap.size + 1) W1 W ∧ Boxed W (w.heap.size + 1) 26 (.int .i64 0))
    (fun c pre W => c = .ret ∧ ∃ e D', wrun (pgBody b) n pre D = (e, D') ∧ e ≠ 0 ∧ DiskAt W p q m D' ∧ Keeps (fun k => dset p q m k ∨ k = w.heap.size + 1) W1 W ∧ Boxed W (w.heap.size + 1) 26 (.int .i64 e))
    (own_of_below _ _ (fun s W ⟨_, _, _, k, _⟩ => k.size) (fun s W W' ⟨D', r1, r2, r3, r4⟩ k => ⟨D', r1, r2.same (k.block p (by omega)) (k.block q (by omega)) (k.block m (by omega)), r3.of_below_lt k (Nat.le_refl _), (k.block _ (by omega)).trans r4⟩))
    (fun c => own_of_below _ _ (fun s W ⟨_, _, _, _, _, _, k, _⟩ => k.size) (fun s W W' ⟨c1, e, D', r1, r0, r2, r3, r4⟩ k => ⟨c1, e, D', r1, r0, r2.same (k.block p (by omega)) (k.block q (by omega)) (k.block m (by omega)), r3.of_below_lt k (Nat.le_refl _), (k.block _ (by omega)).trans r4⟩))
    ⟨D, rfl, hD1, Keeps.refl _ _, f6⟩
    (fun x => { tmps := #[.pointer (some ⟨p, 0, none⟩), .int .i64 n, .string (bs b), .pointer (some ⟨w.heap.size, 0, none⟩), undef, undef, .pointer (some ⟨w.heap.size + 1, 0, none⟩), .int .i64 0,
      .pointer (some ⟨w.heap.size + 1 + 1, 0, none⟩), .int .i64 ((x.val : Int) * 64), .int .i64 ((n : Int) * 4 + (x.val : Int)), undef, .pointer (some ⟨p, 0, none⟩), .int .i64 n, .int .i64 0, .int .i64 0, .bool false, undef, .string (bs b), .int .i64 b.length,
      .bool false, .string (bs b), .int .i64 b.length, .int .i64 ((b.length : Int) / 256), .int .u8 ((b.length : Int) / 256), .string (bs b), .int .i64 b.length, .int .u8 b.length,
      .agg (Value.int .u8 ((b.length : Int) / 256) :: Value.int .u8 (b.length : Int) :: Z254).toArray, .slice (some ⟨w.heap.size + 1 + 1, 2, none⟩) 254 254, .string (bs b), .int .i64 b.length, .int .i64 n,
      .func (.func 70) #[] #[.pointer (some ⟨w.heap.size + 1 + 1 + 1, 0, none⟩)], .int .i64 ((x.val : Int) * 64), .int .i64 ((n : Int) * 4 + (x.val : Int)), undef, undef, undef, undef, undef, undef, undef, undef, undef, undef, undef], defers := [] }) ?assign ?body ?done ?stop
  case assign =>
    intro l x W K hK
    unfold secs
    gi_wp2
    exact hK
  case body =>
    rintro l pre x W ⟨D', r1, r2, r3, r4⟩ hlen
    have g3 : W.heap[w.heap.size]? = some (.cells #[.pointer (some ⟨p, 0, none⟩)] 25) := (r3.block _ (by omega) (by simp [dset]; omega)).trans f3
    have g8 : W.heap[w.heap.size + 1 + 1]? = some (.cells (encB (pgBody b)).toArray 92) := (r3.block _ (by omega) (by simp [dset]; omega)).trans f8
    have c3 : W.cell? ⟨w.heap.size, 0, none⟩ = some (.pointer (some ⟨p, 0, none⟩)) := by simp [World.cell?, g3]
    have c6 : W.cell? ⟨w.heap.size + 1, 0, none⟩ = some (.int .i64 0) := r4.cell
    have q6 : W.frozen? ⟨w.heap.size + 1, 0, none⟩ = false := r4.frozen
    have x0 : (0 : Int) ≤ (x.val : Int) * 64 := by omega
    have x1 : (x.val : Int) * 64 + 64 ≤ 256 := by have := x.isLt; omega
    have x2 : (0 : Int) ≤ (n : Int) * 4 + (x.val : Int) := by omega
    have x3 : (n : Int) * 4 + (x.val : Int) ≤ 9000000 := by have := x.isLt; omega
    gi_wp2
    refine wp_region_textIn [(0, true), (1, true), (2, true), (3, true), (4, true), (5, true), (6, true), (7, false), (8, true)] (fun W' => W'.cell? ⟨w.heap.size, 0, none⟩ = some (.pointer (some ⟨p, 0, none⟩)) ∧ W'.heap[w.heap.size + 1 + 1]? = some (.cells (encB (pgBody b)).toArray 92)) (by kernel_rfl) (by kernel_rfl) (fun ⟨_, _, q⟩ => q) (fun d _ _ _ _ h => by cases d <;> exact h) ⟨by simpa using c3, g8⟩ ?_
    have xw : IntKind.i64.wrap ((x.val : Int) * 64 + 64) = (x.val : Int) * 64 + 64 := IntWalk.i64_in _ (by omega)
    have xl := x.isLt
    iterate 5 (apply wpText_take; rfl; rfl; (intro W hS; (try dsimp only at hS); go_simp; exact rfl))
    try simp only [Act.put, List.setIfInBounds_toArray, List.set_cons_succ, List.set_cons_zero]
    apply wpText_take (v := .slice (some ⟨w.heap.size + 1 + 1, x.val * 64, none⟩) 64 (256 - x.val * 64)); rfl; rfl; intro W' hS; refine exec_run (s := Instr.sliceAt 92 (.pointer (some ⟨w.heap.size + 1 + 1, 0, none⟩)) (some (.int .i64 ((x.val : Int) * 64))) (some (.int .i64 ((x.val : Int) * 64 + 64))) none) rfl ((run_sliceArr 92 5 256 1 _ 0 _ _ (x.val * 64) (x.val * 64 + 64) W' Try.underlying92 Try.sizeOf5 (by omega) (by omega) (by omega) (by omega) (by omega)).trans (by simp only [Nat.zero_add, Nat.mul_one, Nat.add_sub_cancel_left]))
    try simp only [Act.put, List.setIfInBounds_toArray, List.set_cons_succ, List.set_cons_zero]
    have bl := pgBody_length hl
    have hseg : ((encB (pgBody b)).drop (x.val * 64)).take 64 = encB (sub (pgBody b) (x.val * 64) (x.val * 64 + 64)) := by
      unfold sub encB
      rw [← List.map_drop, ← List.map_take, Nat.add_sub_cancel_left]
    apply wpText_take (v := .string (bs (sub (pgBody b) (x.val * 64) (x.val * 64 + 64)))); rfl; rfl; intro W' hS; refine exec_run (s := convert 35 9 (.slice (some ⟨w.heap.size + 1 + 1, x.val * 64, none⟩) 64 (256 - x.val * 64))) rfl (run_bytes 35 9 5 _ _ _ _ _ _ _ _ Try.underlying35 Try.underlying5 Try.underlying9 hS.2 (by rw [encB_length]; omega) hseg)
    try simp only [Act.put, List.setIfInBounds_toArray, List.set_cons_succ, List.set_cons_zero]
    generalize hsg : sub (pgBody b) (x.val * 64) (x.val * 64 + 64) = seg at *
    have hwr := write_calls ((n : Int) * 4 + (x.val : Int)) seg W.drew (r2.same rfl rfl rfl)
    have hsn := wrun_snoc (pgBody b) n x pre D (by rw [r1])
    rw [r1] at hsn
    simp only [hsg] at hsn
    have hfin : ∀ w2 w3, DiskAt w2 p q m (D'.write ((n : Int) * 4 + (x.val : Int)) seg).2 → Keeps (dset p q m) W.drew w2 → ∀ e, Boxed w3 (w.heap.size + 1) 26 (.int .i64 e) → Keeps (fun k => k = w.heap.size + 1) w2 w3 →
        KeepsFrom W1.heap.size W w3 ∧ keepsBox (w.heap.size + 1 + 1 + 1) W w3 ∧ DiskAt w3 p q m (D'.write ((n : Int) * 4 + (x.val : Int)) seg).2 ∧ Keeps (fun k => dset p q m k ∨ k = w.heap.size + 1) W1 w3 := by
      intro w2 w3 hd hk e hb hk2
      have hk3 : Keeps (fun k => dset p q m k ∨ k = w.heap.size + 1) W w3 := ((Keeps.refl _ W).drew.trans (hk.mono (fun _ _ q => .inl q))).trans (hk2.mono (fun _ _ q => .inr q))
      refine ⟨keepsFrom_of_keeps hk3 (fun k hk => ?_), ?_, hd.keep hk2 (by omega) (by omega) (by omega), r3.trans hk3⟩
      · simp only [dset] at hk; omega
      · exact hk3.cell 0 (by have := r3.size; omega) (by simp only [dset]; omega)
    have Hfin := Lib.hid hfin
    have Hsn := Lib.hid hsn
    have R3 := Lib.hid r3
    clear hfin hsn hsg hseg r1 r2 r3
    generalize hwv : D'.write ((n : Int) * 4 + (x.val : Int)) seg = dv at *
    obtain ⟨e1, D2⟩ := dv
    have Hwv := Lib.hid hwv
    clear hwv
    dsimp only at *
    by_cases hz : e1 = 0
    · subst hz
      apply wpText_go; rfl; rfl; intro K hK
      go_simp
      refine hwr.mono ?_
      rintro e w2 ⟨rfl, d2, k2⟩
      have s1 : w2.heap[w.heap.size]? = some (.cells #[.pointer (some ⟨p, 0, none⟩)] 25) := (k2.block _ (by have := R3.out.size; simp; omega) (by simp only [dset]; omega)).trans g3
      have s2 : w2.heap[w.heap.size + 1 + 1]? = some (.cells (encB (pgBody b)).toArray 92) := (k2.block _ (by have := R3.out.size; simp; omega) (by simp only [dset]; omega)).trans g8
      have s6 : Boxed w2 (w.heap.size + 1) 26 (.int .i64 0) := (k2.block _ (by have := R3.out.size; simp; omega) (by simp only [dset]; omega)).trans r4
      refine hK _ _ ⟨by simp [World.cell?, s1], s2⟩ ?_
      clear hK K
      (apply wpText_take; rfl; rfl; (intro W hS; (try dsimp only at hS); go_simp; exact rfl))
      try simp only [Act.put, List.setIfInBounds_toArray, List.set_cons_succ, List.set_cons_zero]
      apply wpText_done
      gi_wp2
      obtain ⟨h1, h2, h3, h4⟩ := Hfin.out w2 w2 d2 k2 0 s6 (Keeps.refl _ _)
      exact ⟨h1, h2, D2, by rw [Hsn.out], h3, h4, s6⟩
    · have hzb : (e1 != 0) = true := by simpa using hz
      apply wpText_go; rfl; rfl; intro K hK
      go_simp
      refine hwr.mono ?_
      rintro e w2 ⟨rfl, d2, k2⟩
      have s1 : w2.heap[w.heap.size]? = some (.cells #[.pointer (some ⟨p, 0, none⟩)] 25) := (k2.block _ (by have := R3.out.size; simp; omega) (by simp only [dset]; omega)).trans g3
      have s2 : w2.heap[w.heap.size + 1 + 1]? = some (.cells (encB (pgBody b)).toArray 92) := (k2.block _ (by have := R3.out.size; simp; omega) (by simp only [dset]; omega)).trans g8
      have s6 : Boxed w2 (w.heap.size + 1) 26 (.int .i64 0) := (k2.block _ (by have := R3.out.size; simp; omega) (by simp only [dset]; omega)).trans r4
      refine hK _ _ ⟨by simp [World.cell?, s1], s2⟩ ?_
      clear hK K
      (apply wpText_take; rfl; rfl; (intro W hS; (try dsimp only at hS); go_simp; exact rfl))
      try simp only [Act.put, List.setIfInBounds_toArray, List.set_cons_succ, List.set_cons_zero]
      apply wpText_done
      have t6 := s6.cell
      have u6 := s6.frozen
      gi_wp2
      have s7 : Boxed (w2.setCell ⟨w.heap.size + 1, 0, none⟩ (.int .i64 e1)) (w.heap.size + 1) 26 (.int .i64 e1) := by
        have := heap_setCell_same w2 (w.heap.size + 1) 0 _ _ (.int .i64 e1) s6
        exact this
      obtain ⟨h1, h2, h3, h4⟩ := Hfin.out w2 _ d2 k2 e1 s7 ((Keeps.refl (fun k => k = w.heap.size + 1) w2).setCell (a := ⟨w.heap.size + 1, 0, none⟩) (fun _ => rfl) _)
      exact ⟨h1, rfl, e1, D2, Hsn.out, hz, h3, h4, s7⟩
  case done =>
    rintro D0 ys W hD rfl ⟨D', r1, r2, r3, r4⟩ hK
    have c6 := r4.cell
    have q6 := r4.frozen
    have hne : D0 ≠ w.heap.size + 1 := by omega
    go_wp2
    have s7 : Boxed (W.setCell ⟨w.heap.size + 1, 0, none⟩ (.int .i64 0)) (w.heap.size + 1) 26 (.int .i64 0) := heap_setCell_same W (w.heap.size + 1) 0 _ _ (.int .i64 0) r4
    have kk : Keeps (dset p q m) w ((W.setCell ⟨w.heap.size + 1, 0, none⟩ (.int .i64 0)).putObj D0 (.deferred none)) :=
      ((((k0.mono (fun _ _ q => q.elim)).trans r3).setCell (a := ⟨w.heap.size + 1, 0, none⟩) (fun _ => .inr rfl) _).putObj (fun q => by omega) _).mono (fun k hk hs => by rcases hs with hs | hs; exact hs; omega)
    refine leaves_mark (D := D0) ((heap_setCell_ne _ _ _ _ _ hne).trans hK) (results_cell1 rfl _ _ (w.heap.size + 1) (.int .i64 0) rfl (Try.isAgg26 _) ?_) ⟨by rw [r1], ?_, kk⟩
    · have : ((W.setCell ⟨w.heap.size + 1, 0, none⟩ (.int .i64 0)).putObj D0 (.deferred none)).heap[w.heap.size + 1]? = some (.cells #[.int .i64 0] 26) := (putObj_ne _ _ _ _ (Ne.symm hne)).trans s7
      simp [World.cell?, this]
    · rw [r1]
      refine r2.same ?_ ?_ ?_ <;> (rw [putObj_ne _ _ _ _ (by omega), heap_setCell_ne _ _ _ _ _ (by omega)])
  case stop =>
    rintro D0 c pre W hD ⟨k, hk, rfl⟩ ⟨rfl, e, D', r1, r0, r2, r3, r4⟩ hK
    have c6 := r4.cell
    have hne : D0 ≠ w.heap.size + 1 := by omega
    obtain ⟨r, hr⟩ := rng_prefix k hk
    have hrun : wrun (pgBody b) n (rng 4) D = (e, D') := by rw [hr, wrun_fail _ _ _ _ _ (by rw [r1]; exact r0), r1]
    refine wpIn_wide.2 ?_
    go_wp2
    have kk : Keeps (dset p q m) w (W.putObj D0 (.deferred none)) :=
      (((k0.mono (fun _ _ q => q.elim)).trans r3).putObj (fun q => by omega) _).mono (fun k hk hs => by rcases hs with hs | hs; exact hs; omega)
    refine leaves_mark (D := D0) hK (results_cell1 rfl _ _ (w.heap.size + 1) (.int .i64 e) rfl (Try.isAgg26 _) ?_) ⟨by rw [hrun], ?_, kk⟩
    · have : (W.putObj D0 (.deferred none)).heap[w.heap.size + 1]? = some (.cells #[.int .i64 e] 26) := (putObj_ne _ _ _ _ (Ne.symm hne)).trans r4
      simp [World.cell?, this]
    · rw [hrun]
      refine r2.same ?_ ?_ ?_ <;> exact putObj_ne _ _ _ _ (by omega)
theorem pwrite_calls (n : Int) (b : Str) (w : World) (h : DiskAt w p q m D) :
    Calls Try.prog 21 #[.pointer (some ⟨p, 0, none⟩), .int .i64 n, .string (bs b)] w fun e w' =>
      e = .returned (.int .i64 (pgWrite D n b).1) ∧ DiskAt w' p q m (pgWrite D n b).2 ∧ Keeps (dset p q m) w w' := by
  cases hh : hasPage D n with
  | false =>
    have e : pgWrite D n b = (5, D) := by simp [pgWrite, hh]
    rw [e]; exact pwrite_bad n b w h hh
  | true =>
    by_cases hb : 254 < b.length
    · have e : pgWrite D n b = (40, D) := by simp [pgWrite, hh, hb]
      rw [e]; exact pwrite_long n b w h hh (by simp; omega)
    · have e : pgWrite D n b = wrun (pgBody b) n (rng 4) D := by simp [pgWrite, hh, hb]
      rw [e]
      obtain ⟨k, rfl⟩ : ∃ k : Nat, n = k := ⟨n.toNat, by unfold hasPage at hh; simp at hh; omega⟩
      exact pwrite_good k b w h hh (by simp; omega)
end Go.Proofs.Ytckopikeegegkaa
