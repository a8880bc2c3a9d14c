/- LzFewest: no tokens with copies no farther than the window make the text and are fewer; for every input. -/
import Derived.Test.YtdmfgdhfkceihaaLzW5
import Derived.Test.YtdmfgdhfkceihaaShut
namespace Go.Proofs.Ytdmfgdhfkceihaa
open Go.RowKit

theorem four_len : (Lz.parse [97, 97, 97, 97] 1).length = 2 := by decide +kernel

theorem Parse_four (w : World) : Calls Try.prog 14 #[.string ⟨#[97, 97, 97, 97]⟩, .int .i64 1] w (ParseR w (Lz.parse [97, 97, 97, 97] 1) 2 0) :=
  Parse_K ⟨#[97, 97, 97, 97]⟩ [97, 97, 97, 97] 1 2 w rfl (by decide) (by decide) (by decide) four_len

set_option maxRecDepth 100000 in
set_option maxHeartbeats 4000000 in
theorem fewest_core (a : Option Addr) (n c : Nat) (ts : List Lz.Tk) (win : Int) (w : World) (hT : KArg w a n c ts) :
    Calls Try.prog 5 #[.slice a n c, .int .i64 win] w fun e w' => e = .returned (.bool true) ∧ Below w.heap.size w w' := by
  have hn : n ≤ 9223372036854775807 := by have := hT.cap; have := hT.max; unfold maxLen at this; omega
  have HT := Lib.hid hT
  have hS6 := Lz.expS_le ts [] (by simp)
  obtain ⟨S, hS⟩ : ∃ S, Lz.expS [] ts = S := ⟨_, rfl⟩
  obtain ⟨E, hE⟩ : ∃ E, Lz.expE [] ts = E := ⟨_, rfl⟩
  rw [hS] at hS6
  have hw0 := Lz.expS_wrong ts []
  rw [hS, hE] at hw0
  have X1 := fun (w1 : World) (h : KArg w1 a n c ts) => Expand_as a n c ts S E w1 h hE hS
  have HS := Lib.hid hS; have HE := Lib.hid hE
  clear hS hE hT
  obtain ⟨B, hB⟩ : ∃ B : ByteArray, B = ⟨S.toArray⟩ := ⟨_, rfl⟩
  have hBl : B.data.toList = S := by rw [hB]
  have hBs : B.size = S.length := by rw [hB]; exact str_size S
  simp only [← hB] at X1
  by_cases h0 : E = 0
  · subst h0
    clear hw0
    have P1 := fun (h : ParseE B win ≠ 0) w => Parse_bad B win w (by unfold maxLen; omega) h
    have P2 := fun (k m : Nat) (h1 : 1 ≤ k) (h2 : k ≤ 256) (hm : (Lz.parse S k).length = m) w => Parse_K B S k m w hBl (by omega) h1 h2 hm
    have HPE : Hid (ParseE B win = if win < 1 ∨ 256 < win then 1 else 0) := Lib.hid (by unfold ParseE; rw [if_neg (by omega)])
    have HB := Lib.hid hB
    clear hB hBl hBs
    by_cases hw : win < 1 ∨ 256 < win
    · have hpe : ParseE B win = 1 := by rw [HPE.out, if_pos hw]
      have P3 := P1 (by rw [hpe]; decide)
      rw [hpe] at P3
      clear P1 P2 hpe hw
      go_enter Try.func5, Try.ntmps5
      go_wp2_with fail
      with_reducible refine (Parse_four _).mono ?_
      rintro e w1 ⟨a1, c1, rfl, -, hb1⟩
      have X2 := X1 w1 (HT.out.keep hb1)
      have HB1 := Lib.hid hb1
      clear X1 hb1
      go_wp2_with fail
      with_reducible refine X2.mono ?_
      rintro e w2 ⟨rfl, hb2⟩
      have HB2 := Lib.hid (HB1.out.trans (hb2.mono HB1.out.size))
      clear X2 hb2
      go_wp2_with fail
      with_reducible refine (P3 _).mono ?_
      rintro e w3 ⟨rfl, hb3⟩
      have HB3 := Lib.hid (HB2.out.trans (hb3.mono HB2.out.size))
      clear P3 hb3
      go_wp2_with fail
      go_ret
      exact ⟨rfl, HB3.out⟩
    · obtain ⟨k, rfl⟩ : ∃ k : Nat, win = (k : Int) := ⟨win.toNat, by omega⟩
      obtain ⟨m, hm⟩ : ∃ m, (Lz.parse S k).length = m := ⟨_, rfl⟩
      have P3 := P2 k m (by omega) (by omega) hm
      have HM := Lib.hid hm
      clear P1 P2 HPE hm
      go_enter Try.func5, Try.ntmps5
      go_wp2_with fail
      with_reducible refine (Parse_four _).mono ?_
      rintro e w1 ⟨a1, c1, rfl, -, hb1⟩
      have X2 := X1 w1 (HT.out.keep hb1)
      have HB1 := Lib.hid hb1
      clear X1 hb1
      go_wp2_with fail
      with_reducible refine X2.mono ?_
      rintro e w2 ⟨rfl, hb2⟩
      have HB2 := Lib.hid (HB1.out.trans (hb2.mono HB1.out.size))
      clear X2 hb2
      go_wp2_with fail
      with_reducible refine (P3 _).mono ?_
      rintro e w3 ⟨a3, c3, rfl, -, hb3⟩
      have HB3 := Lib.hid (HB2.out.trans (hb3.mono HB2.out.size))
      clear P3 hb3
      go_wp2_with fail
      go_loopw [45] (fun x wr => ∃ j : Nat, j ≤ n ∧ x = .int .i64 j ∧ Hid (Below w.heap.size w wr) ∧ Hid (∀ i (_ : i < j) (hi : i < ts.length), ts[i].d ≤ (k : Int))) (fun x _ => n - (intOf x).toNat)
      case atStart => exact ⟨0, Nat.zero_le _, rfl, HB3, Lib.hid fun i hi => absurd hi (Nat.not_lt_zero _)⟩
      case round =>
        obtain ⟨j, hj, rfl, hB, hA⟩ := hrel
        by_cases hlt : j < n
        · have hj' : j < ts.length := by rw [HT.out.len]; exact hlt
          have hne : ts ≠ [] := by rintro rfl; simp at hj'
          obtain ⟨x0, rfl, hc⟩ := (HT.out.keep hB.out).at_ hne
          obtain ⟨q1, q2, q3⟩ := hc j ts[j] (List.getElem?_eq_getElem hj')
          obtain ⟨yb, yo, ys, hy⟩ : ∃ b o s, x0.add (j * 3) = ⟨b, o, s⟩ := ⟨_, _, _, rfl⟩
          rw [← Go.Deep.add_add, hy, show (⟨yb, yo, ys⟩ : Addr).add 1 = ⟨yb, yo + 1, none⟩ from rfl] at q2
          rw [← Go.Deep.add_add, hy, show (⟨yb, yo, ys⟩ : Addr).add 2 = ⟨yb, yo + 2, none⟩ from rfl] at q3
          rw [hy] at q1
          obtain ⟨D, hD⟩ : ∃ D, ts[j].d = D := ⟨_, rfl⟩
          rw [hD] at q1
          have HD := Lib.hid hD
          clear hc hne hD
          generalize ts[j].n = N at *
          generalize ts[j].b = Y at *
          by_cases hd : (k : Int) < D
          · go_wp2_with fail
            go_ret
            exact ⟨rfl, hB.out.alloc hB.out.size _⟩
          · go_wp2_with fail
            go_roundw
            case rel =>
              refine ⟨j + 1, hlt, by go_num, Lib.hid (hB.out.alloc hB.out.size _), Lib.hid fun i hi hi' => ?_⟩
              by_cases e : i = j
              · subst e
                rw [HD.out]; omega
              · exact hA.out i (by omega) hi'
            case measure => simp [intOf]; omega
        · obtain rfl : j = n := by omega
          have hle : m ≤ j := by
            have := Lz.parse_fewest (s := S) (w := k) (l := ts) (fun t ht => by
              obtain ⟨i, hi, rfl⟩ := List.getElem_of_mem ht
              exact hA.out i (by rw [← HT.out.len]; exact hi) hi) HE.out HS.out
            rw [HM.out, HT.out.len] at this
            exact this
          go_wp2_with fail
          go_ret
          exact ⟨by first | (simp; done) | (simp; omega), hB.out⟩
  · obtain rfl := hw0 h0
    have hE0 : (E != 0) = true := bne_iff_ne.2 h0
    clear hw0
    have hBB : B = ByteArray.empty := hB
    subst hBB
    clear hB hBl hBs
    go_enter Try.func5, Try.ntmps5
    go_wp2_with fail
    with_reducible refine (Parse_four _).mono ?_
    rintro e w1 ⟨a1, c1, rfl, -, hb1⟩
    have X2 := X1 w1 (HT.out.keep hb1)
    have HB1 := Lib.hid hb1
    clear X1 hb1
    go_wp2_with fail
    with_reducible refine X2.mono ?_
    rintro e w2 ⟨rfl, hb2⟩
    have HB2 := Lib.hid (HB1.out.trans (hb2.mono HB1.out.size))
    clear X2 hb2
    go_wp2_with fail
    go_ret
    exact ⟨rfl, HB2.out⟩

theorem lzFewest_walk (a : Option Addr) (n c : Nat) (ts : List Lz.Tk) (win : Int) (w : World) (h : IsRow3 w a n c ts) (_ : (Lit.int .i64 win).wf = true) :
    Calls Try.prog 5 #[.slice a n c, .int .i64 win] w fun e w' => e = .returned (.bool true) ∧ Below w.heap.size w w' :=
  fewest_core a n c ts win w (karg_of h)

end Go.Proofs.Ytdmfgdhfkceihaa
