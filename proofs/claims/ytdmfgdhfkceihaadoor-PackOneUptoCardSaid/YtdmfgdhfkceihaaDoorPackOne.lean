/- PackOne: encoding decoded tokens yields the same bits; upto the second form's bound. -/
import Derived.Test.YtdmfgdhfkceihaaDoorPkK
import Derived.Test.YtdmfgdhfkceihaaDoorBulk
import Derived.Test.YtdmfgdhfkceihaaDoorShut
namespace Go.Proofs.YtdmfgdhfkceihaaDoor
open Go.RowKit Go.Shelf

theorem Tokens_97 (w : World) : Calls Tryd.prog 20 #[.string ⟨#[48, 48, 49, 49, 48, 48, 48, 48, 49]⟩] w (TokK w [⟨0, 0, 97⟩] 1) :=
  Tokens_bits _ [⟨0, 0, 97⟩] 1 w (by decide) (by kernel_rfl) (by kernel_rfl) rfl

theorem Unbytes_80 (w : World) : Calls Tryd.prog 19 #[.string ⟨#[128]⟩] w fun e w' => e = .returned (.tuple #[.string ⟨#[]⟩, .int .i64 0]) ∧ Below w.heap.size w w' :=
  Unbytes_by _ _ [] w (by decide) (by kernel_rfl) (by decide +kernel) rfl

set_option maxRecDepth 100000 in
set_option maxHeartbeats 4000000 in
theorem pone_core (s b : ByteArray) (w : World) (hs : s.size ≤ 1048576) (hb : b.size ≤ 1048576) :
    Calls Tryd.prog 6 #[.string s, .string b] w fun e w' => e = .returned (.bool true) ∧ Below w.heap.size w w' := by
  have T1 := fun w => Tokens_to s w (by omega)
  have U1 := fun w => Unbytes_to b w (by omega)
  have V1 : Pk.tr (Pk.ub b.data.toList) ≠ [] → 8 * b.data.toList.length - (Pk.tr (Pk.ub b.data.toList)).length ≤ 7 → ∀ w, Calls Tryd.prog 18 #[.string ⟨(Pk.tr (Pk.ub b.data.toList)).dropLast.toArray⟩] w fun e w' => e = .returned (.tuple #[.string b, .int .i64 0]) ∧ Below w.heap.size w w' := by
    intro h0 h7 w
    obtain ⟨h1, h2⟩ := Pk.by_un h0 h7
    refine Bytes_as _ b (Pk.tr (Pk.ub b.data.toList)).dropLast w (by simp) ?_ h1 h2.symm
    rw [str_size, List.length_dropLast]
    obtain ⟨j, hj, -⟩ := Pk.tr_split (Pk.ub b.data.toList)
    have hl := congrArg List.length hj
    rw [List.length_append, Pk.ub_length] at hl
    have hbl : b.data.toList.length = b.size := Array.length_toList ..
    omega
  have HV := Lib.hid V1
  clear V1
  go_enter Tryd.func6, Tryd.ntmps6
  go_wp2_with fail
  with_reducible refine (Tokens_97 _).mono ?_
  rintro e w1 ⟨a1, c1, rfl, hk1, hb1⟩
  have E1 := Equal_KB a1 (some ⟨w1.heap.size, 0, none⟩) 1 c1 1 _ _ (hk1.keep ((Below.refl _ _).alloc (Nat.le_refl _) _)) (karg_litP w1 36 [⟨0, 0, 97⟩] _ 1 rfl rfl (by decide)) (by decide)
  have HB1 := Lib.hid (hb1.alloc hb1.size (.cells (kv [⟨0, 0, 97⟩]).toArray 36))
  simp only [kv] at E1 HB1
  clear hk1 hb1
  go_wp2_with fail
  with_reducible refine E1.mono ?_
  rintro e w2 ⟨rfl, hb2⟩
  have HB2 := Lib.hid (HB1.out.trans (hb2.mono HB1.out.size))
  clear E1 hb2 HB1
  go_wp2_with fail
  with_reducible refine (Unbytes_80 _).mono ?_
  rintro e w3 ⟨rfl, hb3⟩
  have HB3 := Lib.hid (HB2.out.trans (hb3.mono HB2.out.size))
  clear hb3 HB2
  go_wp2_with fail
  with_reducible refine (T1 _).mono ?_
  rintro e w4 ⟨a4, n4, c4, rfl, hk4, hb4⟩
  have HB4 := Lib.hid (HB3.out.trans (hb4.mono HB3.out.size))
  obtain ⟨z, ts, hz⟩ : ∃ z ts, Pk.tkns s.data.toList = (z, ts) := ⟨_, _, rfl⟩
  rw [hz] at hk4 ⊢
  dsimp only at hk4 ⊢
  clear T1 hb4 HB3
  by_cases hz0 : z = 0
  · subst hz0
    obtain ⟨-, hE, hbs⟩ := Pk.tkns_back hz
    have X1 := Bits_as a4 n4 c4 ts s w4 hk4 hE hbs.symm
    clear hz hE hbs hk4
    go_wp2_with fail
    with_reducible refine X1.mono ?_
    rintro e w5 ⟨rfl, hb5⟩
    have HB5 := Lib.hid (HB4.out.trans (hb5.mono HB4.out.size))
    clear X1 hb5 HB4
    go_wp2_with fail
    with_reducible refine (U1 _).mono ?_
    rintro e w6 ⟨hU, hb6⟩
    have HB6 := Lib.hid (HB5.out.trans (hb6.mono HB5.out.size))
    clear U1 hb6 HB5
    rcases hU with ⟨h0, h7, rfl⟩ | ⟨-, rfl⟩
    · have V2 := HV.out h0 h7
      clear h0 h7 HV
      generalize (⟨(Pk.tr (Pk.ub b.data.toList)).dropLast.toArray⟩ : ByteArray) = T at *
      go_wp2_with fail
      with_reducible refine (V2 _).mono ?_
      rintro e w7 ⟨rfl, hb7⟩
      have HB7 := Lib.hid (HB6.out.trans (hb7.mono HB6.out.size))
      clear V2 hb7 HB6
      go_wp2_with fail
      go_ret
      exact ⟨by first | rfl | simp, HB7.out⟩
    · go_wp2_with fail
      go_ret
      exact ⟨by first | rfl | simp, HB6.out⟩
  · have hzb : (z == 0) = false := beq_eq_false_iff_ne.2 hz0
    have HB5 := HB4
    clear hz hk4 HB4
    go_wp2_with fail
    with_reducible refine (U1 _).mono ?_
    rintro e w6 ⟨hU, hb6⟩
    have HB6 := Lib.hid (HB5.out.trans (hb6.mono HB5.out.size))
    clear U1 hb6 HB5
    rcases hU with ⟨h0, h7, rfl⟩ | ⟨-, rfl⟩
    · have V2 := HV.out h0 h7
      clear h0 h7 HV
      generalize (⟨(Pk.tr (Pk.ub b.data.toList)).dropLast.toArray⟩ : ByteArray) = T at *
      go_wp2_with fail
      with_reducible refine (V2 _).mono ?_
      rintro e w7 ⟨rfl, hb7⟩
      have HB7 := Lib.hid (HB6.out.trans (hb7.mono HB6.out.size))
      clear V2 hb7 HB6
      go_wp2_with fail
      go_ret
      exact ⟨by first | rfl | simp, HB7.out⟩
    · go_wp2_with fail
      go_ret
      exact ⟨by first | rfl | simp, HB6.out⟩
theorem packOne_walk (s b : ByteArray) (hs : s.size ≤ 1048576) (hb : b.size ≤ 1048576) (w : World) :
    Calls Tryd.prog 6 #[.string s, .string b] w fun e w' => e = .returned (.bool true) ∧ Below w.heap.size w w' :=
  pone_core s b w hs hb

end Go.Proofs.YtdmfgdhfkceihaaDoor
