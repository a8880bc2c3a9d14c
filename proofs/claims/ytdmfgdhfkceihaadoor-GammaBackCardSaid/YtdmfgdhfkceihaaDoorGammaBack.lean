/- GammaBack: decoding inverts encoding, whatever follows; for every input within the form's reach; what was there stands below. -/
import Derived.Test.YtdmfgdhfkceihaaDoorGrW2
import Derived.Test.YtdmfgdhfkceihaaDoorGammaW2
import Derived.Test.YtdmfgdhfkceihaaDoorShut
namespace Go.Proofs.YtdmfgdhfkceihaaDoor
open Go.RowKit

/-- A call at two integers: what is left. -/
def Rd (f : Nat) (s : ByteArray) (v u c : Int) : Prop := ∀ w, Calls Tryd.prog f #[.string s] w fun e w' => e = .returned (.tuple #[.int .i64 v, .int .i64 u, .int .i64 c]) ∧ Below w.heap.size w w'
theorem Rd.use {f : Nat} {s : ByteArray} {v u c : Int} {w : World} {R : Ending → World → Prop} (h : Rd f s v u c) (hR : ∀ e w', (e = .returned (.tuple #[.int .i64 v, .int .i64 u, .int .i64 c]) ∧ Below w.heap.size w w') → R e w') : Calls Tryd.prog f #[.string s] w R := (h w).mono hR

def Tx (f : Nat) (n : Int) (t : ByteArray) (c : Int) : Prop := ∀ w, Calls Tryd.prog f #[.int .i64 n] w fun e w' => e = .returned (.tuple #[.string t, .int .i64 c]) ∧ Below w.heap.size w w'
theorem Tx.use {f : Nat} {n c : Int} {t : ByteArray} {w : World} {R : Ending → World → Prop} (h : Tx f n t c) (hR : ∀ e w', (e = .returned (.tuple #[.string t, .int .i64 c]) ∧ Below w.heap.size w w') → R e w') : Calls Tryd.prog f #[.int .i64 n] w R := (h w).mono hR

theorem g5 : Tx 9 5 ⟨#[48, 48, 49, 48, 49]⟩ 0 := fun w => by
  have := Gamma_ok 5 w (by decide) (by decide)
  rwa [show (⟨(Gm.plain 5).toArray⟩ : ByteArray) = ⟨#[48, 48, 49, 48, 49]⟩ from by kernel_rfl] at this
theorem d5 : Tx 10 5 ⟨#[48, 49, 49, 48, 49]⟩ 0 := fun w => by
  have := Delta_ok 5 w (by decide) (by decide)
  rwa [show (⟨(Gm.delta 5).toArray⟩ : ByteArray) = ⟨#[48, 49, 49, 48, 49]⟩ from by kernel_rfl] at this

theorem gBad (n : Int) (h : n < 1 ∨ 2147483647 < n) : Tx 9 n ⟨#[]⟩ 1 := fun w => by
  by_cases h1 : n < 1
  · clear h
    go_enter Tryd.func9, Tryd.ntmps9
    go_wp2_with fail
    go_ret2
    exact ⟨rfl, Below.refl _ _⟩
  · have h2 : 2147483647 < n := by omega
    clear h
    go_enter Tryd.func9, Tryd.ntmps9
    go_wp2_with fail
    go_ret2
    exact ⟨rfl, Below.refl _ _⟩
theorem dBad (n : Int) (h : n < 1 ∨ 2147483647 < n) : Tx 10 n ⟨#[]⟩ 1 := fun w => by
  by_cases h1 : n < 1
  · clear h
    go_enter Tryd.func10, Tryd.ntmps10
    go_wp2_with fail
    go_ret2
    exact ⟨rfl, Below.refl _ _⟩
  · have h2 : 2147483647 < n := by omega
    clear h
    go_enter Tryd.func10, Tryd.ntmps10
    go_wp2_with fail
    go_ret2
    exact ⟨rfl, Below.refl _ _⟩

theorem rdG (s : ByteArray) (l : List UInt8) (v u : Nat) (c : Int) (hl : s.data.toList = l) (hs : s.size ≤ 9223372036854775000) (h : Gr.readG l = (c, v, u)) : Rd 11 s v u c := fun w => by
  subst hl; exact ReadGamma_is s c v u w (by omega) h
theorem rdD (s : ByteArray) (l : List UInt8) (v u : Nat) (c : Int) (hl : s.data.toList = l) (hs : s.size ≤ 9223372036854775000) (h : Gr.readD l = (c, v, u)) (hc : c = 0 ∨ (Gr.readG l).1 ≠ 0) : Rd 12 s v u c := fun w => by
  subst hl; exact ReadDelta_is s c v u w hs h hc

set_option maxRecDepth 100000 in
set_option maxHeartbeats 4000000 in
theorem gback_core (n : Nat) (more : ByteArray) (w : World) (h0 : 1 ≤ n) (hn : n ≤ 2147483647) (hm : more.size ≤ 140737488351232) :
    Calls Tryd.prog 3 #[.int .i64 n, .string more] w fun e w' => e = .returned (.bool true) ∧ Below w.heap.size w w' := by
  have hne : n ≠ 0 := by omega
  have h31 : n < 2 ^ 31 := by omega
  have hlp := Gm.plain_length n hne
  have hL : G.L n ≤ 31 := G.L_le.2 h31
  have hLp := G.L_pos.2 hne
  have hld : (Gm.delta n).length ≤ 100 := by
    have h1 := Gm.delta_length n hne
    have h2 : G.L (G.L n) ≤ 5 := G.L_le.2 (by omega)
    omega
  have g1 : Tx 9 n ⟨(Gm.plain n).toArray⟩ 0 := fun w => Gamma_ok n w h0 hn
  have d1 : Tx 10 n ⟨(Gm.delta n).toArray⟩ 0 := fun w => Delta_ok n w h0 hn
  obtain ⟨P, hP⟩ : ∃ P : ByteArray, P = ⟨(Gm.plain n).toArray⟩ := ⟨_, rfl⟩
  obtain ⟨Q, hQ⟩ : ∃ Q : ByteArray, Q = ⟨(Gm.delta n).toArray⟩ := ⟨_, rfl⟩
  rw [← hP] at g1
  rw [← hQ] at d1
  have hPl : P.data.toList = Gm.plain n := by rw [hP]
  have hQl : Q.data.toList = Gm.delta n := by rw [hQ]
  have hPs : P.size = 2 * G.L n - 1 := by rw [hP]; show (List.toArray _).size = _; rw [List.size_toArray, hlp]
  have hQs : Q.size = (Gm.delta n).length := by rw [hQ]; show (List.toArray _).size = _; rw [List.size_toArray]
  have r1 : Rd 11 P n P.size 0 := rdG P (Gm.plain n) n P.size 0 hPl (by omega) (by rw [hPs]; have := Gr.readG_plain hne h31 (more := []) rfl; rwa [List.append_nil] at this)
  have r2 : Rd 12 Q n Q.size 0 := rdD Q (Gm.delta n) n Q.size 0 hQl (by omega) (by rw [hQs]; have := Gr.readD_delta hne h31 (more := []) rfl; rwa [List.append_nil] at this) (Or.inl rfl)
  obtain ⟨b, hb⟩ : ∃ b, Gr.bitsB more.data.toList = b := ⟨_, rfl⟩
  have T1 := fun w => trimBits more w (by omega)
  rw [hb] at T1
  have hPm : (P ++ more).data.toList = Gm.plain n ++ more.data.toList := by rw [ByteArray.data_append, Array.toList_append, hPl]
  have hQm : (Q ++ more).data.toList = Gm.delta n ++ more.data.toList := by rw [ByteArray.data_append, Array.toList_append, hQl]
  have hPms : (P ++ more).size = P.size + more.size := ByteArray.size_append
  have hQms : (Q ++ more).size = Q.size + more.size := ByteArray.size_append
  have hP62 : P.size ≤ 100 := by omega
  have hQ62 : Q.size ≤ 100 := by omega
  cases b with
  | true =>
    have r3 : Rd 11 (P ++ more) n P.size 0 := rdG (P ++ more) _ n P.size 0 hPm (by omega) (by rw [hPs]; exact Gr.readG_plain hne h31 hb)
    have r4 : Rd 12 (Q ++ more) n Q.size 0 := rdD (Q ++ more) _ n Q.size 0 hQm (by omega) (by rw [hQs]; exact Gr.readD_delta hne h31 hb) (Or.inl rfl)
    clear hP hQ hPl hQl hPs hQs hb hPm hQm hlp hld hL hLp hne h31
    go_enter Tryd.func3, Tryd.ntmps3
    go_wp2_with fail
    with_reducible refine g5.use ?_
    rintro e w1 ⟨rfl, hb1⟩
    have HB1 := Lib.hid hb1; clear hb1
    go_wp2_with fail
    with_reducible refine d5.use ?_
    rintro e w2 ⟨rfl, hb2⟩
    have HB2 := Lib.hid (HB1.out.trans (hb2.mono HB1.out.size)); clear hb2 HB1
    go_wp2_with fail
    with_reducible refine g1.use ?_
    rintro e w3 ⟨rfl, hb3⟩
    have HB3 := Lib.hid (HB2.out.trans (hb3.mono HB2.out.size)); clear hb3 HB2
    go_wp2_with fail
    with_reducible refine d1.use ?_
    rintro e w4 ⟨rfl, hb4⟩
    have HB4 := Lib.hid (HB3.out.trans (hb4.mono HB3.out.size)); clear hb4 HB3
    go_wp2_with fail
    with_reducible refine r1.use ?_
    rintro e w5 ⟨rfl, hb5⟩
    have HB5 := Lib.hid (HB4.out.trans (hb5.mono HB4.out.size)); clear hb5 HB4
    go_wp2_with fail
    with_reducible refine r2.use ?_
    rintro e w6 ⟨rfl, hb6⟩
    have HB6 := Lib.hid (HB5.out.trans (hb6.mono HB5.out.size)); clear hb6 HB5
    go_wp2_with fail
    with_reducible refine r3.use ?_
    rintro e w7 ⟨rfl, hb7⟩
    have HB7 := Lib.hid (HB6.out.trans (hb7.mono HB6.out.size)); clear hb7 HB6
    go_wp2_with fail
    with_reducible refine r4.use ?_
    rintro e w8 ⟨rfl, hb8⟩
    have HB8 := Lib.hid (HB7.out.trans (hb8.mono HB7.out.size)); clear hb8 HB7
    go_wp2_with fail
    with_reducible refine (T1 _).mono ?_
    rintro e w9 ⟨X, rfl, hX, hXs, hb9⟩
    have HB9 := Lib.hid (HB8.out.trans (hb9.mono HB8.out.size)); clear hb9 HB8
    go_wp2_with fail
    go_ret
    exact ⟨rfl, HB9.out⟩
  | false =>
    have hbp : Gr.bitsB (Gm.plain n ++ more.data.toList) = false := by rw [Gr.bitsB_app, hb, Bool.and_false]
    have hbd : Gr.bitsB (Gm.delta n ++ more.data.toList) = false := by rw [Gr.bitsB_app, hb, Bool.and_false]
    have r3 : Rd 11 (P ++ more) 0 0 3 := rdG (P ++ more) _ 0 0 3 hPm (by omega) (Gr.readG_bad hbp)
    have r4 : Rd 12 (Q ++ more) 0 0 3 := rdD (Q ++ more) _ 0 0 3 hQm (by omega) (Gr.readD_bad hbd) (Or.inr (by rw [Gr.readG_bad hbd]; decide))
    clear hP hQ hPl hQl hPs hQs hb hPm hQm hlp hld hL hLp hne h31 hbp hbd
    go_enter Tryd.func3, Tryd.ntmps3
    go_wp2_with fail
    with_reducible refine g5.use ?_
    rintro e w1 ⟨rfl, hb1⟩
    have HB1 := Lib.hid hb1; clear hb1
    go_wp2_with fail
    with_reducible refine d5.use ?_
    rintro e w2 ⟨rfl, hb2⟩
    have HB2 := Lib.hid (HB1.out.trans (hb2.mono HB1.out.size)); clear hb2 HB1
    go_wp2_with fail
    with_reducible refine g1.use ?_
    rintro e w3 ⟨rfl, hb3⟩
    have HB3 := Lib.hid (HB2.out.trans (hb3.mono HB2.out.size)); clear hb3 HB2
    go_wp2_with fail
    with_reducible refine d1.use ?_
    rintro e w4 ⟨rfl, hb4⟩
    have HB4 := Lib.hid (HB3.out.trans (hb4.mono HB3.out.size)); clear hb4 HB3
    go_wp2_with fail
    with_reducible refine r1.use ?_
    rintro e w5 ⟨rfl, hb5⟩
    have HB5 := Lib.hid (HB4.out.trans (hb5.mono HB4.out.size)); clear hb5 HB4
    go_wp2_with fail
    with_reducible refine r2.use ?_
    rintro e w6 ⟨rfl, hb6⟩
    have HB6 := Lib.hid (HB5.out.trans (hb6.mono HB5.out.size)); clear hb6 HB5
    go_wp2_with fail
    with_reducible refine r3.use ?_
    rintro e w7 ⟨rfl, hb7⟩
    have HB7 := Lib.hid (HB6.out.trans (hb7.mono HB6.out.size)); clear hb7 HB6
    go_wp2_with fail
    with_reducible refine r4.use ?_
    rintro e w8 ⟨rfl, hb8⟩
    have HB8 := Lib.hid (HB7.out.trans (hb8.mono HB7.out.size)); clear hb8 HB7
    go_wp2_with fail
    with_reducible refine (T1 _).mono ?_
    rintro e w9 ⟨X, rfl, hX, hXs, hb9⟩
    have HB9 := Lib.hid (HB8.out.trans (hb9.mono HB8.out.size)); clear hb9 HB8
    go_wp2_with fail
    go_ret
    exact ⟨rfl, HB9.out⟩

set_option maxRecDepth 100000 in
set_option maxHeartbeats 4000000 in
theorem gback_bad (n : Int) (more : ByteArray) (w : World) (h : n < 1 ∨ 2147483647 < n) :
    Calls Tryd.prog 3 #[.int .i64 n, .string more] w fun e w' => e = .returned (.bool true) ∧ Below w.heap.size w w' := by
  have g1 := gBad n h
  have d1 := dBad n h
  clear h
  go_enter Tryd.func3, Tryd.ntmps3
  go_wp2_with fail
  with_reducible refine g5.use ?_
  rintro e w1 ⟨rfl, hb1⟩
  have HB1 := Lib.hid hb1; clear hb1
  go_wp2_with fail
  with_reducible refine d5.use ?_
  rintro e w2 ⟨rfl, hb2⟩
  have HB2 := Lib.hid (HB1.out.trans (hb2.mono HB1.out.size)); clear hb2 HB1
  go_wp2_with fail
  with_reducible refine g1.use ?_
  rintro e w3 ⟨rfl, hb3⟩
  have HB3 := Lib.hid (HB2.out.trans (hb3.mono HB2.out.size)); clear hb3 HB2
  go_wp2_with fail
  with_reducible refine d1.use ?_
  rintro e w4 ⟨rfl, hb4⟩
  have HB4 := Lib.hid (HB3.out.trans (hb4.mono HB3.out.size)); clear hb4 HB3
  go_wp2_with fail
  go_ret
  exact ⟨rfl, HB4.out⟩

theorem gammaBack_walk (n : Int) (more : ByteArray) (_ : (Lit.int .i64 n).wf = true) (hm : more.size ≤ 140737488351232) (w : World) :
    Calls Tryd.prog 3 #[.int .i64 n, .string more] w fun e w' => e = .returned (.bool true) ∧ Below w.heap.size w w' := by
  by_cases h : n < 1 ∨ 2147483647 < n
  · exact gback_bad n more w h
  · obtain ⟨m, rfl⟩ : ∃ m : Nat, n = (m : Int) := ⟨n.toNat, by omega⟩
    exact gback_core m more w (by omega) (by omega) hm

end Go.Proofs.YtdmfgdhfkceihaaDoor
