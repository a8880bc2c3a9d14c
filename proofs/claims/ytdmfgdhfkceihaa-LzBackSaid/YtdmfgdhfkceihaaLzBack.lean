/- LzBack: Expand inverts Parse, also for prefixes; for every input; what was there stands below. -/
import Derived.Test.YtdmfgdhfkceihaaLzW5
import Derived.Test.YtdmfgdhfkceihaaShelf
import Derived.Test.YtdmfgdhfkceihaaShut
namespace Go.Proofs.Ytdmfgdhfkceihaa
open Go.RowKit

/-- Tokens written out. -/
theorem karg_lit (w : World) (T : TypeId) (ts : List Lz.Tk) (cs : Array Value) (n : Nat) (hcs : cs = (kv ts).toArray) (hn : ts.length = n) (hm : n ≤ maxLen) : KArg (w.alloc (.cells cs T)) (some ⟨w.heap.size, 0, none⟩) n n ts := ⟨fun _ => ⟨_, rfl, fun j t hj => by
    obtain ⟨k1, k2, k3⟩ := kv_get hj
    rw [addr_lit0, addr_lit0, addr_lit0]
    subst hcs
    exact ⟨cell_new w (by simpa using k1), cell_new w (by simpa using k2), cell_new w (by simpa using k3)⟩⟩, hn, Nat.le_refl _, hm⟩

theorem ab_parse : Lz.parse [97, 98, 97, 98, 97, 98] 9 = [⟨0, 0, 97⟩, ⟨0, 0, 98⟩, ⟨2, 4, 0⟩] := by kernel_rfl

theorem Parse_ab (w : World) : Calls Try.prog 14 #[.string ⟨#[97, 98, 97, 98, 97, 98]⟩, .int .i64 9] w (ParseR w [⟨0, 0, 97⟩, ⟨0, 0, 98⟩, ⟨2, 4, 0⟩] 3 0) := by
  have := Parse_K ⟨#[97, 98, 97, 98, 97, 98]⟩ [97, 98, 97, 98, 97, 98] 9 3 w rfl (by decide) (by decide) (by decide) (by rw [ab_parse]; rfl)
  rw [ab_parse] at this
  exact this

theorem Expand_b (a : Option Addr) (n c : Nat) (ts : List Lz.Tk) (B : ByteArray) (w : World) (hT : KArg w a n c ts) (hz : Lz.expE [] ts = 0) (hl : Lz.expS [] ts = B.data.toList) :
    Calls Try.prog 11 #[.slice a n c] w fun e w' => e = .returned (.tuple #[.string B, .int .i64 0]) ∧ Below w.heap.size w w' := by
  have := Expand_as a n c ts B.data.toList 0 w hT hz hl
  rwa [show (⟨B.data.toList.toArray⟩ : ByteArray) = B from by simp] at this

set_option maxRecDepth 100000 in
set_option maxHeartbeats 4000000 in
theorem back_core (s : ByteArray) (win k : Int) (w : World) (hs : s.size ≤ maxLen) :
    Calls Try.prog 6 #[.string s, .int .i64 win, .int .i64 k] w fun e w' => e = .returned (.bool true) ∧ Below w.heap.size w w' := by
  by_cases hpe : ParseE s win = 0
  · have hs6 : s.size ≤ 600 ∧ 1 ≤ win ∧ win ≤ 256 := by
      unfold ParseE at hpe
      split at hpe
      · cases hpe
      · split at hpe
        · cases hpe
        · omega
    obtain ⟨W, rfl⟩ : ∃ W : Nat, win = (W : Int) := ⟨win.toNat, by omega⟩
    have hL : (s.data.toList).length = s.size := by simp
    obtain ⟨n, hn⟩ : ∃ n, (Lz.parse s.data.toList W).length = n := ⟨_, rfl⟩
    have hn6 : n ≤ 600 := by
      have := Lz.rest_len (s := s.data.toList) (w := W) s.data.toList.length 0 (by omega)
      unfold Lz.parse at hn; omega
    have P1 := fun w => Parse_K s s.data.toList W n w rfl hs6.1 (by omega) (by omega) hn
    have hb := Lz.parse_back (s := s.data.toList) (w := W) (by omega) (by omega)
    have hp := fun m => Lz.parse_part (s := s.data.toList) (w := W) (by omega) (by omega) m
    have HX := Lib.hid hb; have HP := Lib.hid hp; have HN := Lib.hid hn
    generalize Lz.parse s.data.toList W = ts at *
    have W1 := fun w => within_any k ((n : Int) + 1) (n + 1) w (by omega) (by omega) (by omega)
    have hwl := wi_lt k (n + 1) (by omega)
    generalize wi k (n + 1) = m at *
    obtain ⟨U, hU⟩ : ∃ U : ByteArray, U = ⟨(Lz.expS [] (ts.take m)).toArray⟩ := ⟨_, rfl⟩
    have HU : Hid (Lz.expS [] (ts.take m) = U.data.toList) := Lib.hid (by rw [hU])
    have HPF : Ans1 13 #[.string s, .string U] (.bool true) := fun w => by
      refine (Try.strings_HasPrefix _ _ w).mono ?_
      rintro e w' ⟨rfl, rfl⟩
      exact ⟨by rw [← HU.out]; congr 2; exact List.isPrefixOf_iff_prefix.2 (HP.out m).2, rfl⟩
    clear hU hpe hs hb hp hn hL
    go_enter Try.func6, Try.ntmps6
    go_wp2_with fail
    with_reducible refine (Parse_ab _).mono ?_
    rintro e w1 ⟨a1, c1, rfl, hk1, hb1⟩
    have E1 := Equal_KB a1 (some ⟨w1.heap.size, 0, none⟩) 3 c1 3 _ _ (hk1.keep ((Below.refl _ _).alloc (Nat.le_refl _) _)) (karg_lit w1 33 [⟨0, 0, 97⟩, ⟨0, 0, 98⟩, ⟨2, 4, 0⟩] _ 3 rfl rfl (by decide)) (by decide)
    have HB1 := Lib.hid (hb1.alloc hb1.size (.cells (kv [⟨0, 0, 97⟩, ⟨0, 0, 98⟩, ⟨2, 4, 0⟩]).toArray 33))
    simp only [kv] at E1 HB1
    clear hk1 hb1
    go_wp2_with fail
    with_reducible refine E1.mono ?_
    rintro e w2 ⟨rfl, hb2⟩
    have HB2 := Lib.hid (HB1.out.trans (hb2.mono HB1.out.size))
    clear E1 hb2 HB1
    go_wp2_with fail
    with_reducible refine (P1 _).mono ?_
    rintro e w3 ⟨a3, c3, rfl, hk3, hb3⟩
    have HB3 := Lib.hid (HB2.out.trans (hb3.mono HB2.out.size))
    have X1 := Expand_b a3 n c3 ts s w3 hk3 HX.out.1 HX.out.2
    have HK3 := Lib.hid hk3
    have hnc := hk3.cap
    have hcm := hk3.max
    unfold maxLen at hcm
    clear P1 hb3 hk3
    go_wp2_with fail
    with_reducible refine X1.mono ?_
    rintro e w4 ⟨rfl, hb4⟩
    have HB4 := Lib.hid (HB3.out.trans (hb4.mono HB3.out.size))
    have X2 := Expand_b a3 m c3 (ts.take m) U w4 ((HK3.out.keep hb4).take m (by omega)) (HP.out m).1 HU.out
    clear X1 hb4
    go_wp2_with fail
    with_reducible refine (W1 _).mono ?_
    rintro e w' ⟨rfl, rfl⟩
    go_wp2_with fail
    with_reducible refine X2.mono ?_
    rintro e w5 ⟨rfl, hb5⟩
    have HB5 := Lib.hid (HB4.out.trans (hb5.mono HB4.out.size))
    clear X2 hb5
    go_wp2_with fail
    with_reducible refine HPF.use ?_
    rintro e w' ⟨rfl, rfl⟩
    go_wp2_with fail
    go_ret
    exact ⟨rfl, HB5.out⟩
  · have P1 := fun w => Parse_bad s win w hs hpe
    have hne : (ParseE s win != 0) = true := bne_iff_ne.2 hpe
    generalize ParseE s win = E at *
    go_enter Try.func6, Try.ntmps6
    go_wp2_with fail
    with_reducible refine (Parse_ab _).mono ?_
    rintro e w1 ⟨a1, c1, rfl, hk1, hb1⟩
    have E1 := Equal_KB a1 (some ⟨w1.heap.size, 0, none⟩) 3 c1 3 _ _ (hk1.keep ((Below.refl _ _).alloc (Nat.le_refl _) _)) (karg_lit w1 33 [⟨0, 0, 97⟩, ⟨0, 0, 98⟩, ⟨2, 4, 0⟩] _ 3 rfl rfl (by decide)) (by decide)
    have HB1 := Lib.hid (hb1.alloc hb1.size (.cells (kv [⟨0, 0, 97⟩, ⟨0, 0, 98⟩, ⟨2, 4, 0⟩]).toArray 33))
    simp only [kv] at E1 HB1
    clear hk1 hb1
    go_wp2_with fail
    with_reducible refine E1.mono ?_
    rintro e w2 ⟨rfl, hb2⟩
    have HB2 := Lib.hid (HB1.out.trans (hb2.mono HB1.out.size))
    clear E1 hb2 HB1
    go_wp2_with fail
    with_reducible refine (P1 _).mono ?_
    rintro e w3 ⟨rfl, hb3⟩
    have HB3 := Lib.hid (HB2.out.trans (hb3.mono HB2.out.size))
    clear P1 hb3
    go_wp2_with fail
    go_ret
    exact ⟨rfl, HB3.out⟩

theorem lzBack_walk (s : ByteArray) (win k : Int) (hs : s.size ≤ maxLen) (_ : (Lit.int .i64 win).wf = true) (_ : (Lit.int .i64 k).wf = true) (w : World) :
    Calls Try.prog 6 #[.string s, .int .i64 win, .int .i64 k] w fun e w' => e = .returned (.bool true) ∧ Below w.heap.size w w' :=
  back_core s win k w hs

end Go.Proofs.Ytdmfgdhfkceihaa
