/- Bags, plain facts: what is right, what Put and Drop do. No program in sight. 'P' is the print of a text. -/
import Derived.Test.YthccdoejnklidaaBase
namespace Go.Proofs.Ythccdoejnklidaa.Bg

/-- An item, plain. -/
structure It where
  sum : Int
  n : Int
  text : ByteArray
  refs : Int

/-- An id, plain. -/
structure Id where
  is : Bool
  sum : Int
  n : Int

def cmp (a b : It) : Int := if a.sum = b.sum then a.n - b.n else a.sum - b.sum
/-- What one item is wrong by. -/
def oneE (P : ByteArray → Int) (x : It) : Nat :=
  if 64 < x.text.size then 2 else if x.sum ≠ P x.text then 6 else if x.n < 0 ∨ 64 ≤ x.n ∨ x.refs < 1 ∨ 1000000 < x.refs then 1 else 0
def same (s : ByteArray) (y : It) : Bool := y.text.toList == s.toList
/-- What the item at a place is wrong by. -/
def atE (P : ByteArray → Int) (l : List It) (i : Nat) : Nat :=
  match l[i]? with
  | none => 0
  | some x => if oneE P x ≠ 0 then oneE P x else if (decide (0 < i) && (match l[i - 1]? with | some y => decide (0 ≤ cmp y x) | none => false)) = true then 3 else if (l.take i).any (same x.text) = true then 5 else 0
/-- The first fault among the first k. -/
def scan (P : ByteArray → Int) (l : List It) : Nat → Nat
  | 0 => 0
  | k + 1 => if scan P l k ≠ 0 then scan P l k else atE P l k
def checkE (P : ByteArray → Int) (l : List It) : Nat := if 64 < l.length then 2 else scan P l l.length

/-- Where an id's item is. -/
def hit (id : Id) (x : It) : Bool := id.is && (x.sum == id.sum && x.n == id.n)

end Go.Proofs.Ythccdoejnklidaa.Bg
