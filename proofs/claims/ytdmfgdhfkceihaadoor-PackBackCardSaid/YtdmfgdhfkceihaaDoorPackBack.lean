/- PackBack: tokens are recovered from bits and bytes; for every input. -/
import Derived.Test.YtdmfgdhfkceihaaDoorPkK
import Derived.Test.YtdmfgdhfkceihaaDoorShut
namespace Go.Proofs.YtdmfgdhfkceihaaDoor
open Go.RowKit Go.Shelf

def b9 : ByteArray := ⟨#[48, 48, 49, 49, 48, 48, 48, 48, 49]⟩

theorem Bits_97 (w : World) (T : TypeId) : Calls Tryd.prog 17 #[.slice (some ⟨w.heap.size, 0, none⟩) 1 1] (w.alloc (.cells #[.int .i64 0, .int .i64 0, .int .i64 97] T)) fun e w' => e = .returned (.tuple #[.string ⟨#[48, 48, 49, 49, 48, 48, 48, 48, 49]⟩, .int .i64 0]) ∧ Below (w.alloc (.cells #[.int .i64 0, .int .i64 0, .int .i64 97] T)).heap.size (w.alloc (.cells #[.int .i64 0, .int .i64 0, .int .i64 97] T)) w' :=
  Bits_as (some ⟨w.heap.size, 0, none⟩) 1 1 [⟨0, 0, 97⟩] _ _ (karg_litP w T [⟨0, 0, 97⟩] _ 1 rfl rfl (by decide)) (by kernel_rfl) (by kernel_rfl)

theorem Bytes_97 (w : World) : Calls Tryd.prog 18 #[.string ⟨#[48, 48, 49, 49, 48, 48, 48, 48, 49]⟩] w fun e w' => e = .returned (.tuple #[.string ⟨#[48, 192]⟩, .int .i64 0]) ∧ Below w.heap.size w w' :=
  Bytes_as _ _ [48, 48, 49, 49, 48, 48, 48, 48, 49] w rfl (by decide) (by decide +kernel) (by kernel_rfl)

set_option maxRecDepth 100000 in
set_option maxHeartbeats 4000000 in
theorem pback_core (a : Option Addr) (n c : Nat) (ts : List Lz.Tk) (w : World) (hT : KArg w a n c ts) :
    Calls Tryd.prog 5 #[.slice a n c] w fun e w' => e = .returned (.bool true) ∧ Below w.heap.size w w' := by
  have HT := Lib.hid hT
  by_cases hE : Lz.expE [] ts = 0
  · have hok := Pk.expE_ok ts [] hE
    have hfew := Pk.few hE
    have hn : n ≤ 600 := by rw [← hT.len]; exact hfew.1
    obtain ⟨R, hR⟩ : ∃ R : ByteArray, R.data.toList = Pk.bits ts := ⟨⟨(Pk.bits ts).toArray⟩, by simp⟩
    obtain ⟨Y, hY⟩ : ∃ Y : ByteArray, Y.data.toList = Pk.by_ (Pk.bits ts) := ⟨⟨(Pk.by_ (Pk.bits ts)).toArray⟩, by simp⟩
    have hRs := size_of_list hR
    have hYs := size_of_list hY
    have h8 := (Pk.un_by (Pk.bits_bits ts)).2
    rw [Pk.bits_length ts hok] at hRs
    rw [Pk.bits_length ts hok] at h8
    rw [← hYs, ← hRs] at h8
    have X1 := fun (w1 : World) (h : KArg w1 a n c ts) => Bits_as a n c ts R w1 h hE hR
    have X2 := fun w => Bytes_as R Y (Pk.bits ts) w hR (by omega) (Pk.bits_bits ts) hY
    have X3 := fun w => Unbytes_by Y R (Pk.bits ts) w (by omega) hY (Pk.bits_bits ts) hR
    have X4 := fun w => Tokens_bits R ts n w (by omega) hR hE hT.len
    have hRle : R.size ≤ 19200 := by omega
    have hlo : (R.size : Int) < 8 * (Y.size : Int) := by omega
    have hhi : 8 * (Y.size : Int) ≤ (R.size : Int) + 8 := by omega
    have hYle : Y.size ≤ 3000 := by omega
    clear hok hfew hR hY hRs hYs h8 hE hT
    go_enter Tryd.func5, Tryd.ntmps5
    go_wp2_with fail
    with_reducible refine (Bits_97 _ _).mono ?_
    rintro e w1 ⟨rfl, hb1⟩
    have HB1 := Lib.hid ((((Below.refl _ w).alloc (Nat.le_refl _) (.cells #[.int .i64 0, .int .i64 0, .int .i64 97] 36))).trans (hb1.mono (by rw [World.size_alloc]; omega)))
    clear hb1
    go_wp2_with fail
    with_reducible refine (Bytes_97 _).mono ?_
    rintro e w2 ⟨rfl, hb2⟩
    have HB2 := Lib.hid (HB1.out.trans (hb2.mono HB1.out.size))
    have Y1 := X1 w2 (HT.out.keep HB2.out)
    clear hb2 X1 HB1
    go_wp2_with fail
    with_reducible refine Y1.mono ?_
    rintro e w3 ⟨rfl, hb3⟩
    have HB3 := Lib.hid (HB2.out.trans (hb3.mono HB2.out.size))
    clear hb3 Y1 HB2
    go_wp2_with fail
    with_reducible refine (X2 _).mono ?_
    rintro e w4 ⟨rfl, hb4⟩
    have HB4 := Lib.hid (HB3.out.trans (hb4.mono HB3.out.size))
    clear hb4 X2 HB3
    go_wp2_with fail
    with_reducible refine (X3 _).mono ?_
    rintro e w5 ⟨rfl, hb5⟩
    have HB5 := Lib.hid (HB4.out.trans (hb5.mono HB4.out.size))
    clear hb5 X3 HB4
    go_wp2_with fail
    with_reducible refine (X4 _).mono ?_
    rintro e w6 ⟨a6, c6, rfl, hk6, hb6⟩
    have HB6 := Lib.hid (HB5.out.trans (hb6.mono HB5.out.size))
    have E1 := Equal_KB a6 a n c6 c ts w6 hk6 (HT.out.keep HB6.out) (by omega)
    clear hb6 X4 HB5 hk6
    go_wp2_with fail
    with_reducible refine E1.mono ?_
    rintro e w7 ⟨rfl, hb7⟩
    have HB7 := Lib.hid (HB6.out.trans (hb7.mono HB6.out.size))
    clear hb7 E1 HB6
    go_wp2_with fail
    go_ret
    exact ⟨by simp; try omega, HB7.out⟩
  · have X1 := fun (w1 : World) (h : KArg w1 a n c ts) => Bits_bad a n c ts _ w1 h rfl hE
    have hb : (Lz.expE [] ts != 0) = true := bne_iff_ne.2 hE
    generalize Lz.expE [] ts = E at *
    go_enter Tryd.func5, Tryd.ntmps5
    go_wp2_with fail
    with_reducible refine (Bits_97 _ _).mono ?_
    rintro e w1 ⟨rfl, hb1⟩
    have HB1 := Lib.hid ((((Below.refl _ w).alloc (Nat.le_refl _) (.cells #[.int .i64 0, .int .i64 0, .int .i64 97] 36))).trans (hb1.mono (by rw [World.size_alloc]; omega)))
    clear hb1
    go_wp2_with fail
    with_reducible refine (Bytes_97 _).mono ?_
    rintro e w2 ⟨rfl, hb2⟩
    have HB2 := Lib.hid (HB1.out.trans (hb2.mono HB1.out.size))
    have Y1 := X1 w2 (HT.out.keep HB2.out)
    clear hb2 X1 HB1
    go_wp2_with fail
    with_reducible refine Y1.mono ?_
    rintro e w3 ⟨rfl, hb3⟩
    have HB3 := Lib.hid (HB2.out.trans (hb3.mono HB2.out.size))
    clear hb3 Y1 HB2
    go_wp2_with fail
    go_ret
    exact ⟨rfl, HB3.out⟩

theorem packBack_walk (a : Option Addr) (n c : Nat) (ts : List Lz.Tk) (w : World) (h : IsRow3 w a n c ts) :
    Calls Tryd.prog 5 #[.slice a n c] w fun e w' => e = .returned (.bool true) ∧ Below w.heap.size w w' :=
  pback_core a n c ts w (karg_of h)

end Go.Proofs.YtdmfgdhfkceihaaDoor
