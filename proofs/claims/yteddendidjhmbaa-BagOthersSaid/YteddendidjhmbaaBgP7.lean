/- Bags: what is handed on to the laws. -/
import Derived.Test.YteddendidjhmbaaBgP6
import Derived.Test.YteddendidjhmbaaArgsIt
namespace Go.Proofs.Yteddendidjhmbaa
open Go.RowKit

theorem good_small {l : List Bg.It} (h : Bg.Good l) : ∀ t ∈ l, t.text.size ≤ maxLen := fun t ht => by
  have := (Bg.one_fit (h.one t ht)).2.1
  unfold maxLen
  omega

theorem put_small (l : List Bg.It) (t : ByteArray) : ∀ x ∈ (Bg.putR Bg.Pr l t).l, x.text.size ≤ maxLen := by
  by_cases h : (Bg.putR Bg.Pr l t).e = 0
  · exact good_small (Bg.put_ok h).good
  · rw [(Bg.put_err h).1]
    intro x hx
    simp at hx

theorem put_len (l : List Bg.It) (t : ByteArray) : (Bg.putR Bg.Pr l t).l.length ≤ 64 := by
  by_cases h : (Bg.putR Bg.Pr l t).e = 0
  · exact (Bg.put_ok h).good.len
  · rw [(Bg.put_err h).1]
    simp

theorem two_good : Bg.Good Bg.twoL := Bg.check_good two_check

theorem int_z {E : Nat} (h : E = 0) : ((E : Int) != 0) = false := by subst h; rfl

theorem int_ne {E : Nat} (h : E ≠ 0) : ((E : Int) != 0) = true := bne_iff_ne.2 (by omega)

end Go.Proofs.Yteddendidjhmbaa
