/- Targets, plain: no deed and no reading fails by another's right but where it is refused. No program in sight. -/
import Derived.Test.YtenkdpogdfcbgaaTgP
namespace Go.Proofs.Ytenkdpogdfcbgaa.Tg
open Go.Proofs.Ytenkdpogdfcbgaa

theorem put_le (l : List Bg.It) (t : ByteArray) : (Bg.putR Bg.Pr l t).e ≤ 8 := by
  by_cases h : Bg.checkE Bg.Pr l ≠ 0
  · unfold Bg.putR
    rw [if_pos h]
    have := Bg.checkE_le Bg.Pr l
    show Bg.checkE Bg.Pr l ≤ 8
    omega
  · by_cases he : (Bg.putR Bg.Pr l t).e = 0
    · omega
    · rcases (Bg.put_err he).2.2 (Decidable.not_not.1 h) with h | h <;> omega

theorem fresh_le (vs : List Vo.Vl) (name : ByteArray) : Vo.freshE vs name ≤ 8 := by
  unfold Vo.freshE
  split
  · decide
  · split
    · decide
    · split <;> decide

theorem place_le (s : Vo.St) (name : ByteArray) (k : Int) : Vo.placeE s name k ≤ 8 := by
  unfold Vo.placeE
  split
  · decide
  · split
    · decide
    · split <;> decide

theorem chk_le (o : Lg.Op) : Lg.chkE o ≤ 8 := by
  unfold Lg.chkE Lg.chk
  split
  · decide
  · split
    · decide
    · split
      · decide
      · split
        · decide
        · split <;> decide

theorem vdo_le (s : Vo.St) (o : Lg.Op) : (Vo.doR s o).e ≤ 8 := by
  unfold Vo.doR
  split
  · exact chk_le o
  · split
    · unfold Vo.makeR
      split
      · exact (by decide : (1 : Nat) ≤ 8)
      · split
        · exact fresh_le _ _
        · exact Nat.zero_le _
    · split
      · unfold Vo.dropR
        split
        · exact (by decide : (4 : Nat) ≤ 8)
        · split
          · exact (by decide : (4 : Nat) ≤ 8)
          · exact Nat.zero_le _
      · split
        · unfold Vo.writeR
          split
          · exact place_le _ _ _
          · split
            · exact put_le _ _
            · exact Nat.zero_le _
        · split
          · unfold Vo.trimR
            split
            · exact place_le _ _ _
            · exact Nat.zero_le _
          · unfold Vo.cloneR
            split
            · exact (by decide : (4 : Nat) ≤ 8)
            · split
              · exact (by decide : (4 : Nat) ≤ 8)
              · split
                · exact fresh_le _ _
                · exact Nat.zero_le _

theorem vread_le (s : Vo.St) (name : ByteArray) (k : Int) : (Vo.readR s name k).2 ≤ 8 := by
  unfold Vo.readR
  split
  · exact place_le _ _ _
  · split
    · unfold Bg.getR
      split
      · have := Bg.checkE_le Bg.Pr s.bag
        show Bg.checkE Bg.Pr s.bag ≤ 8
        omega
      · split
        · exact (by decide : (4 : Nat) ≤ 8)
        · split
          · exact Nat.zero_le _
          · exact (by decide : (4 : Nat) ≤ 8)
    · exact Nat.zero_le _

theorem do_held (t : S) (x : Int) (o : Lg.Op) : (((doR t x o).e : Int) == 9) = !Rg.mayB t.r x true := by
  cases h : Rg.mayB t.r x true with
  | false =>
    unfold doR
    rw [if_pos h]
    rfl
  | true =>
    have h1 : (doR t x o).e ≤ 8 := by
      unfold doR
      rw [if_neg (by rw [h]; decide)]
      split
      · exact vdo_le _ _
      · split
        · exact Nat.le_refl _
        · exact Nat.zero_le _
    exact beq_eq_false_iff_ne.2 (by omega)

theorem do_same (t : S) (x : Int) (o : Lg.Op) (h : (doR t x o).e ≠ 0) : (doR t x o).t = t := by
  unfold doR at h ⊢
  split
  · rfl
  · rename_i h1
    rw [if_neg h1] at h
    split
    · rfl
    · rename_i h2
      rw [if_neg h2] at h
      split
      · rfl
      · rename_i h3
        rw [if_neg h3] at h
        exact absurd rfl h

theorem read_held (t : S) (x : Int) (name : ByteArray) (k : Int) : (((readR t x name k).2 : Int) == 9) = !Rg.mayB t.r x false := by
  cases h : Rg.mayB t.r x false with
  | false =>
    unfold readR
    rw [if_pos h]
    rfl
  | true =>
    have h1 : (readR t x name k).2 ≤ 8 := by
      unfold readR
      rw [if_neg (by rw [h]; decide)]
      exact vread_le _ _ _
    exact beq_eq_false_iff_ne.2 (by omega)

/-- A target that hand 1 has alone. -/
abbrev tr : S := ⟨⟨[], [⟨⟨#[97]⟩, [Bg.noId]⟩]⟩, ⟨1, [(1, 1)], 0, 0⟩, [⟨1, ⟨#[97]⟩, ⟨#[]⟩, 1, ⟨#[]⟩⟩]⟩
abbrev t2 : S := ⟨⟨[], [⟨⟨#[97]⟩, [Bg.noId]⟩]⟩, ⟨1, [(1, 1)], 3, 1⟩, [⟨1, ⟨#[97]⟩, ⟨#[]⟩, 1, ⟨#[]⟩⟩]⟩

end Go.Proofs.Ytenkdpogdfcbgaa.Tg
