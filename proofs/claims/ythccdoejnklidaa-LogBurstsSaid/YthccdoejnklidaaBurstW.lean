/- Some of sixteen bits of a text turned: plain facts. -/
import Derived.Test.YthccdoejnklidaaPlainW
import Derived.Deep.RegionLaw
import Derived.Laws.IdiomStrings
import Derived.Lib.ConvBytes
namespace Go.Proofs.Ythccdoejnklidaa
open Go.RowKit

/-- Bit i of what is turned. -/
def tb (t i : Nat) : Nat := t / 2 ^ (15 - i) % 2

/-- The text behind k rounds. -/
def brs (l : List UInt8) (a t : Nat) : Nat → List UInt8
  | 0 => l
  | k + 1 => if tb t k = 1 then (brs l a t k).set ((a + k) / 8) ((brs l a t k).getD ((a + k) / 8) 0 ^^^ UInt8.ofNat (128 / 2 ^ ((a + k) % 8))) else brs l a t k

theorem brs_length (l : List UInt8) (a t k : Nat) : (brs l a t k).length = l.length := by
  induction k with
  | zero => rfl
  | succ k ih => unfold brs; split <;> simp [ih]

theorem u16_bit (t k : Nat) (ht : t < 65536) : bits .and .u16 ((t : Int) / 2 ^ (15 - k)) 1 = (tb t k : Int) := by
  have h1 : (t : Int) / 2 ^ (15 - k) = ((t / 2 ^ (15 - k) : Nat) : Int) := by rw [Int.natCast_ediv, Int.natCast_pow]; rfl
  have h2 : t / 2 ^ (15 - k) ≤ t := Nat.div_le_self _ _
  unfold tb
  rw [h1]
  generalize t / 2 ^ (15 - k) = v at *
  show IntKind.u16.wrap ((BitVec.ofInt 16 (v : Int) &&& BitVec.ofInt 16 1).toNat : Int) = _
  rw [BitVec.toNat_and, show (BitVec.ofInt 16 1).toNat = 1 from rfl, Nat.and_one_is_mod]
  have h3 : (BitVec.ofInt 16 (v : Int)).toNat = v := by
    rw [BitVec.toNat_ofInt]; omega
  rw [h3]
  unfold IntKind.wrap
  simp [IntKind.bits, IntKind.signed]
  omega

end Go.Proofs.Ythccdoejnklidaa
