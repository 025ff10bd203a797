/- PURE 1: the disk and the pages as plain data: what the calls of packages disk and page answer, said over lists. -/
namespace Go.Proofs.Ytckopikeegegkaa
abbrev Str := List UInt8
def bs (l : Str) : ByteArray := ⟨l.toArray⟩

/-- A disk: what is there, what is kept aside (rising), its fuse (-1: none). -/
structure Dk where
  there : List Str
  aside : List (Nat × Str)
  left : Int
  deriving Inhabited

namespace Dk
def look (n : Nat) : List (Nat × Str) → Option Str
  | [] => none
  | p :: l => if p.1 = n then some p.2 else look n l
def size (d : Dk) : Nat := d.there.length
def now (d : Dk) (n : Nat) : Str := (look n d.aside).getD (d.there.getD n [])
def has (d : Dk) (n : Int) : Bool := decide (0 ≤ n) && decide (n < d.there.length)
def read (d : Dk) (n : Int) : Str × Int := if d.has n then (d.now n.toNat, 0) else ([], 5)
def put (n : Nat) (s : Str) : List (Nat × Str) → List (Nat × Str)
  | [] => [(n, s)]
  | p :: l => if n < p.1 then (n, s) :: p :: l else if p.1 = n then (n, s) :: l else p :: put n s l
def burnt (x : Int) : Int := if 0 < x then x - 1 else x
def write (d : Dk) (n : Int) (s : Str) : Int × Dk :=
  if !d.has n then (5, d) else if s.length ≠ 64 then (1, d) else if d.left = 0 then (42, d)
  else (0, { d with left := burnt d.left, aside := put n.toNat s d.aside })
def settle : List (Nat × Str) → List Str → List Str
  | [], t => t
  | p :: l, t => settle l (t.set p.1 p.2)
def flush (d : Dk) : Int × Dk := if d.left = 0 then (42, d) else (0, ⟨settle d.aside d.there, [], burnt d.left⟩)
def fuse (d : Dk) (n : Int) : Int × Dk := if n < 0 then (1, d) else if d.left = 0 then (42, d) else (0, { d with left := n })
def dead (d : Dk) : Bool := decide (d.left = 0)
def fall (keep : List Bool) (torn : Int) (cut : Nat) : Nat → List (Nat × Str) → List Str → List Str
  | _, [], t => t
  | k, p :: l, t => fall keep torn cut (k + 1) l
      (if (k : Int) = torn then t.set p.1 (p.2.take cut ++ (t.getD p.1 []).drop cut) else if keep.getD k false then t.set p.1 p.2 else t)
def crash (d : Dk) (keep : List Bool) (torn cut : Int) : Int × Dk :=
  if cut < 0 ∨ 64 < cut then (1, d) else (0, ⟨fall keep torn cut.toNat 0 d.aside d.there, [], -1⟩)
def zero (n : Nat) : Dk := ⟨List.replicate n (List.replicate 64 0), [], -1⟩
def make (n : Int) : Option Dk := if n < 1 ∨ 4096 < n then none else some (zero n.toNat)

/-- What always holds of a disk. -/
structure Wf (d : Dk) : Prop where
  there : ∀ s ∈ d.there, s.length = 64
  aside : ∀ p ∈ d.aside, p.1 < d.there.length ∧ p.2.length = 64
  rises : d.aside.Pairwise (fun p q => p.1 < q.1)
  left : -1 ≤ d.left ∧ d.left ≤ 9223372036854775807
  pos : 1 ≤ d.there.length
  small : d.there.length ≤ 4096
end Dk

/-! Pages. -/
def pages (d : Dk) : Int := (d.there.length / 4 : Nat)
def hasPage (d : Dk) (n : Int) : Bool := decide (0 ≤ n) && decide (n < pages d)
def pageOf (d : Dk) (n : Nat) : Str := d.now (4 * n) ++ (d.now (4 * n + 1) ++ (d.now (4 * n + 2) ++ d.now (4 * n + 3)))
def pgRead (d : Dk) (n : Int) : Str × Int :=
  if !hasPage d n then ([], 5) else
  let all := pageOf d n.toNat
  let long := (all.getD 0 0).toNat * 256 + (all.getD 1 0).toNat
  if 254 < long then ([], 4) else ((all.drop 2).take long, 0)
def pgBody (b : Str) : Str := UInt8.ofNat (b.length / 256) :: UInt8.ofNat (b.length % 256) :: (b ++ List.replicate (254 - b.length) 0)
def sub (l : Str) (a b : Nat) : Str := (l.drop a).take (b - a)
def rng (k : Nat) : List (Fin 4) := (List.finRange 4).take k
/-- The sectors of a page, one behind the other, as long as none is refused. -/
def wrun (b : Str) (n : Int) : List (Fin 4) → Dk → Int × Dk
  | [], d => (0, d)
  | x :: l, d => if (d.write (n * 4 + (x.val : Int)) (sub b (x.val * 64) (x.val * 64 + 64))).1 = 0
      then wrun b n l (d.write (n * 4 + (x.val : Int)) (sub b (x.val * 64) (x.val * 64 + 64))).2
      else d.write (n * 4 + (x.val : Int)) (sub b (x.val * 64) (x.val * 64 + 64))
def pgWrite (d : Dk) (n : Int) (b : Str) : Int × Dk :=
  if !hasPage d n then (5, d) else if 254 < b.length then (40, d) else wrun (pgBody b) n (rng 4) d
structure Mk where
  on : Bool
  epoch : Int
  page : Int
  deriving DecidableEq, Inhabited
def big (l : Str) : Nat := l.foldl (fun n b => n * 256 + b.toNat) 0
def hasRoot (d : Dk) (k : Int) : Bool := decide (k ≤ 1) && hasPage d k
def rootOf (s : Str) : Mk :=
  ⟨s.getD 0 0 == 1, if 1099511627776 < big (sub s 1 9) then 0 else big (sub s 1 9), if 1024 ≤ big (sub s 9 11) then 0 else big (sub s 9 11)⟩
def pgRoot (d : Dk) (k : Int) : Mk × Int := if !hasRoot d k then (⟨false, 0, 0⟩, 5) else (rootOf (d.now (4 * k.toNat)), 0)
def rootText (m : Mk) : Str :=
  (if m.on then 1 else 0) :: ((List.range 8).map (fun i => UInt8.ofNat (m.epoch.toNat / 256 ^ (7 - i) % 256)) ++
    (UInt8.ofNat (m.page.toNat / 256) :: UInt8.ofNat (m.page.toNat % 256) :: List.replicate 53 0))
def mayRoot (m : Mk) : Bool := decide (0 ≤ m.epoch) && (decide (m.epoch ≤ 1099511627776) && (decide (0 ≤ m.page) && decide (m.page < 1024)))
def pgSetRoot (d : Dk) (k : Int) (m : Mk) : Int × Dk :=
  if !hasRoot d k then (5, d) else if !mayRoot m then (1, d) else d.write (4 * k) (rootText m)
end Go.Proofs.Ytckopikeegegkaa
