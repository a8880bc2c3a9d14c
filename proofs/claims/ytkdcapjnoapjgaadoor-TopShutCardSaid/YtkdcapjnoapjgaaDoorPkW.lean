/- The walk of pack.Bits: tokens as bits. -/
import Derived.Test.YtkdcapjnoapjgaaDoorLzW5
import Derived.Test.YtkdcapjnoapjgaaDoorPkP
import Derived.Test.YtkdcapjnoapjgaaDoorGammaW
import Derived.Test.YtkdcapjnoapjgaaDoorBldW
namespace Go.Proofs.YtkdcapjnoapjgaaDoor
open Go.RowKit Go.Shelf

theorem bld_keep {T e : TypeId} {B b : Nat} {bs : List Value} {w w' : World} (h : Lib.IsBuilder T e B b bs w) (hb : Below w.heap.size w w') : Lib.IsBuilder T e B b bs w' := by
  rcases h with h | h
  · exact Or.inl ⟨h.1, by obtain ⟨-, v, hk, hown, hne⟩ := id h; exact ⟨v, (hb.block b h.lt).trans hk, own_keep hown hb, hne⟩⟩
  · exact Or.inr ⟨h.1, by obtain ⟨-, v, hk, hown, hne⟩ := id h; exact ⟨v, (hb.block b h.lt).trans hk, own_keep hown hb, hne⟩⟩

theorem bc_app (a b : List UInt8) : Lib.byteCells (a ++ b) = Lib.byteCells a ++ Lib.byteCells b := by unfold Lib.byteCells; rw [List.map_append]

/-- A text written behind what the builder holds. -/
theorem Write_more (B b : Nat) (l m : List UInt8) (s : ByteArray) (w : World) (h : Lib.IsBuilder 59 5 B b (Lib.byteCells l) w) (hm : s.data.toList = m) (hl : l.length ≤ 100000000) (hs : s.size ≤ 100000000) (hBw : B ≤ w.heap.size) :
    Calls Tryd.prog 25 #[.pointer (some ⟨b, 0, none⟩), .string s] w fun e w' => e = .returned (.tuple #[.int .i64 s.size, .nilIface]) ∧ Lib.IsBuilder 59 5 B b (Lib.byteCells (l ++ m)) w' ∧ Below B w w' := by
  refine (WriteString_any B b (Lib.byteCells l) s w h (by rw [Lib.byteCells_length]; omega) hBw).mono ?_
  rintro e w' ⟨he, h1, h2⟩
  refine ⟨he, Or.inr ?_, h2⟩
  rw [bc_app, ← hm]
  exact h1

set_option maxRecDepth 100000 in
set_option maxHeartbeats 4000000 in
theorem Bits_bad (a : Option Addr) (n c : Nat) (ts : List Lz.Tk) (E : Int) (w : World) (hT : KArg w a n c ts) (hE : Lz.expE [] ts = E) (h0 : E ≠ 0) :
    Calls Tryd.prog 15 #[.slice a n c] w fun e w' => e = .returned (.tuple #[.string ⟨#[]⟩, .int .i64 E]) ∧ Below w.heap.size w w' := by
  have X1 := Expand_as a n c ts [] E w hT hE (Lz.expS_wrong ts [] (by rw [hE]; exact h0))
  have hb : (E != 0) = true := bne_iff_ne.2 h0
  clear hT hE
  go_enter Tryd.func15, Tryd.ntmps15
  go_wp2_with fail
  with_reducible refine X1.mono ?_
  rintro e w1 ⟨rfl, hb1⟩
  go_wp2_with fail
  go_ret2
  exact ⟨rfl, hb1⟩

set_option maxRecDepth 100000 in
set_option maxHeartbeats 4000000 in
theorem Bits_ok (a : Option Addr) (n c : Nat) (ts : List Lz.Tk) (w : World) (hT : KArg w a n c ts) (hE : Lz.expE [] ts = 0) :
    Calls Tryd.prog 15 #[.slice a n c] w fun e w' => e = .returned (.tuple #[.string ⟨(Pk.bits ts).toArray⟩, .int .i64 0]) ∧ Below w.heap.size w w' := by
  have HT := Lib.hid hT
  have hok := Pk.expE_ok ts [] hE
  have hfew := Pk.few hE
  have hn : n ≤ 600 := by rw [← hT.len]; exact hfew.1
  have hlen : ∀ k, (Pk.bits (ts.take k)).length ≤ 19200 := fun k => by
    rw [Pk.bits_length _ (fun t ht => hok t (List.mem_of_mem_take ht))]
    have := Pk.sizes_app (ts.take k) (ts.drop k)
    rw [List.take_append_drop] at this
    omega
  have X1 := Expand_as a n c ts (Lz.expS [] ts) 0 w hT hE rfl
  generalize (⟨(Lz.expS [] ts).toArray⟩ : ByteArray) = X0 at *
  have HOK := Lib.hid hok; have HLEN := Lib.hid hlen
  obtain ⟨R, hR⟩ : ∃ R : ByteArray, R = ⟨(Pk.bits ts).toArray⟩ := ⟨_, rfl⟩
  rw [← hR]
  have HRR := Lib.hid hR
  clear hT hE hok hfew hlen hR
  go_enter Tryd.func15, Tryd.ntmps15
  go_wp2_with fail
  with_reducible refine X1.mono ?_
  rintro e w1 ⟨rfl, hb1⟩
  have HB1 := Lib.hid hb1
  have HN := Lib.hid (Lib.fresh_isBuilder 59 5 w1)
  have HB2 := Lib.hid (hb1.alloc hb1.size (.cells #[.pointer none, .slice none 0 0] 59))
  have hsz1 := hb1.size
  clear hb1 X1
  go_wp2_with fail
  go_loopw [23] (fun i wr => ∃ k : Nat, k ≤ n ∧ i = .int .i64 k ∧ Hid (Lib.IsBuilder 59 5 w1.heap.size w1.heap.size (Lib.byteCells (Pk.bits (ts.take k))) wr) ∧ Hid (Below w.heap.size w wr) ∧ Hid (w1.heap.size ≤ wr.heap.size)) (fun i _ => n - (intOf i).toNat)
  case atStart => exact ⟨0, Nat.zero_le _, rfl, HN, HB2, Lib.hid (by rw [World.size_alloc]; omega)⟩
  case round =>
    obtain ⟨k, hk, rfl, hBl, hB, hS⟩ := hrel
    by_cases hlt : k < n
    · have hk' : k < ts.length := by rw [HT.out.len]; exact hlt
      have hne : ts ≠ [] := by rintro rfl; simp at hk'
      obtain ⟨x0, rfl, hc⟩ := (HT.out.keep hB.out).at_ hne
      obtain ⟨q1, q2, q3⟩ := hc k ts[k] (List.getElem?_eq_getElem hk')
      obtain ⟨yb, yo, ys, hy⟩ : ∃ b o s, x0.add (k * 3) = ⟨b, o, s⟩ := ⟨_, _, _, rfl⟩
      rw [← Go.Deep.add_add, hy, show (⟨yb, yo, ys⟩ : Addr).add 1 = ⟨yb, yo + 1, none⟩ from rfl] at q2
      rw [← Go.Deep.add_add, hy, show (⟨yb, yo, ys⟩ : Addr).add 2 = ⟨yb, yo + 2, none⟩ from rfl] at q3
      rw [hy] at q1
      have hparts := Lz.okT_parts (HOK.out ts[k] (List.getElem_mem hk'))
      have HBT : Hid (Pk.bits (ts.take (k + 1)) = Pk.bits (ts.take k) ++ Pk.tb ⟨ts[k].d, ts[k].n, ts[k].b⟩) := Lib.hid (Pk.bits_take hk')
      have hl1 := HLEN.out k
      clear hc hne
      generalize ts[k].d = D at *
      generalize ts[k].n = N at *
      generalize ts[k].b = Y at *
      have hS2 := hS.out
      have hBl2 := Lib.hid (bld_keep hBl.out ((Below.refl _ wr).alloc (Nat.le_refl _) (.cells #[.int .i64 D, .int .i64 N, .int .i64 Y] 56)))
      have HB3 := Lib.hid (hB.out.alloc hB.out.size (.cells #[.int .i64 D, .int .i64 N, .int .i64 Y] 56))
      have HKB := Lib.hid (kbox_new wr 56 D N Y)
      rcases hparts with ⟨rfl, rfl, hY0, hY1⟩ | ⟨hN0, hN1, hD0, hD1, rfl⟩
      · obtain ⟨Z, rfl⟩ : ∃ Z : Nat, Y = (Z : Int) := ⟨Y.toNat, by omega⟩
        have L1 : ∀ w, Calls Tryd.prog 26 #[.int .i64 Z, .int .i64 8] w fun e w' => e = .returned (.string ⟨(Gm.low Z 8).toArray⟩) ∧ Below w.heap.size w w' := fun w => Low_any Z 8 w (by omega) (by omega)
        obtain ⟨X, hX⟩ : ∃ X : ByteArray, X = ⟨(Gm.low Z 8).toArray⟩ := ⟨_, rfl⟩
        rw [← hX] at L1
        have hXs : X.size = 8 := by rw [hX]; show (List.toArray _).size = _; rw [List.size_toArray, Gm.low_length]
        obtain ⟨V, hV⟩ : ∃ V : ByteArray, V = (⟨#[48]⟩ : ByteArray) ++ X := ⟨_, rfl⟩
        have hVs : V.size = 9 := by rw [hV, ByteArray.size_append, hXs]; rfl
        have HVL : Hid (V.data.toList = Pk.tb ⟨0, 0, (Z : Int)⟩) := Lib.hid (by rw [hV, hX]; simp [Pk.tb])
        have WM := fun (w3 : World) (h : Lib.IsBuilder 59 5 w1.heap.size w1.heap.size (Lib.byteCells (Pk.bits (ts.take k))) w3) (hb : w1.heap.size ≤ w3.heap.size) => Write_more w1.heap.size w1.heap.size _ _ V w3 h HVL.out (by omega) (by omega) hb
        have HVV := Lib.hid hV
        clear hX
        go_wp2_with fail
        with_reducible refine (L1 _).mono ?_
        rintro e w2 ⟨rfl, hb2⟩
        have hs2 := hb2.size
        rw [World.size_alloc] at hs2
        have W1 := WM w2 (bld_keep hBl2.out hb2) (by omega)
        have HB4 := Lib.hid (HB3.out.trans (hb2.mono HB3.out.size))
        rw [hV] at W1
        clear WM L1 hb2
        go_wp2_with fail
        with_reducible refine W1.mono ?_
        rintro e w3 ⟨rfl, hbl3, hb3⟩
        have HBL3 : Hid (Lib.IsBuilder 59 5 w1.heap.size w1.heap.size (Lib.byteCells (Pk.bits (ts.take (k + 1)))) w3) := Lib.hid (by rw [HBT.out]; exact hbl3)
        have HB5 := Lib.hid (HB4.out.trans (hb3.mono hsz1))
        have HS5 : Hid (w1.heap.size ≤ w3.heap.size) := Lib.hid (by have := hb3.size; omega)
        clear W1 hbl3 hb3
        go_wp2_with fail
        go_roundw
        case rel => exact ⟨k + 1, hlt, by go_num, HBL3, HB5, HS5⟩
        case measure => simp [intOf]; omega
      · obtain ⟨M, rfl⟩ : ∃ M : Nat, N = (M : Int) := ⟨N.toNat, by omega⟩
        obtain ⟨Q, rfl⟩ : ∃ Q : Nat, D = (Q : Int) := ⟨D.toNat, by omega⟩
        have L1 : ∀ w, Calls Tryd.prog 27 #[.int .i64 Q] w fun e w' => e = .returned (.tuple #[.string ⟨(Gm.plain Q).toArray⟩, .int .i64 0]) ∧ Below w.heap.size w w' := fun w => Gamma_ok Q w (by omega) (by omega)
        have L2 : ∀ w, Calls Tryd.prog 27 #[.int .i64 M] w fun e w' => e = .returned (.tuple #[.string ⟨(Gm.plain M).toArray⟩, .int .i64 0]) ∧ Below w.heap.size w w' := fun w => Gamma_ok M w (by omega) (by omega)
        have hl2 := Gm.plain_length Q (by omega)
        have hl3 := Gm.plain_length M (by omega)
        have e1 : G.L Q ≤ 9 := G.L_le.2 (by omega)
        have e2 : G.L M ≤ 7 := G.L_le.2 (by omega)
        obtain ⟨X, hX⟩ : ∃ X : ByteArray, X = ⟨(Gm.plain Q).toArray⟩ := ⟨_, rfl⟩
        obtain ⟨X', hX'⟩ : ∃ X' : ByteArray, X' = ⟨(Gm.plain M).toArray⟩ := ⟨_, rfl⟩
        rw [← hX] at L1
        rw [← hX'] at L2
        have hXs : X.size ≤ 20 := by rw [hX]; show (List.toArray _).size ≤ _; rw [List.size_toArray]; omega
        have hXs' : X'.size ≤ 20 := by rw [hX']; show (List.toArray _).size ≤ _; rw [List.size_toArray]; omega
        obtain ⟨V, hV⟩ : ∃ V : ByteArray, V = (⟨#[49]⟩ : ByteArray) ++ X ++ X' := ⟨_, rfl⟩
        have hVs : V.size ≤ 41 := by rw [hV, ByteArray.size_append, ByteArray.size_append]; have : (⟨#[49]⟩ : ByteArray).size = 1 := rfl; omega
        have hNe : ¬ ((M : Int) = 0) := by omega
        have HVL : Hid (V.data.toList = Pk.tb ⟨(Q : Int), (M : Int), 0⟩) := Lib.hid (by rw [hV, hX, hX']; unfold Pk.tb; rw [if_neg hNe]; simp)
        have WM := fun (w3 : World) (h : Lib.IsBuilder 59 5 w1.heap.size w1.heap.size (Lib.byteCells (Pk.bits (ts.take k))) w3) (hb : w1.heap.size ≤ w3.heap.size) => Write_more w1.heap.size w1.heap.size _ _ V w3 h HVL.out (by omega) (by omega) hb
        clear hX hX' hl2 hl3 e1 e2
        go_wp2_with fail
        with_reducible refine (L1 _).mono ?_
        rintro e w2 ⟨rfl, hb2⟩
        have hs2 := hb2.size
        rw [World.size_alloc] at hs2
        have HBl3 := Lib.hid (bld_keep hBl2.out hb2)
        have HB4 := Lib.hid (HB3.out.trans (hb2.mono HB3.out.size))
        have hK2 := HKB.out.on hb2
        obtain ⟨b0, b1, b2, b3⟩ := id hK2
        clear L1 hb2
        go_wp2_with fail
        with_reducible refine (L2 _).mono ?_
        rintro e w3 ⟨rfl, hb3⟩
        have hs3 := hb3.size
        have W1 := WM w3 (bld_keep HBl3.out hb3) (by omega)
        have HB5 := Lib.hid (HB4.out.trans (hb3.mono HB4.out.size))
        rw [hV] at W1
        clear WM L2 hb3 hK2 b0 b1 b2 b3
        go_wp2_with fail
        with_reducible refine W1.mono ?_
        rintro e w4 ⟨rfl, hbl4, hb4⟩
        have HBL4 : Hid (Lib.IsBuilder 59 5 w1.heap.size w1.heap.size (Lib.byteCells (Pk.bits (ts.take (k + 1)))) w4) := Lib.hid (by rw [HBT.out]; exact hbl4)
        have HB6 := Lib.hid (HB5.out.trans (hb4.mono hsz1))
        have HS6 : Hid (w1.heap.size ≤ w4.heap.size) := Lib.hid (by have := hb4.size; omega)
        clear W1 hbl4 hb4
        go_wp2_with fail
        go_roundw
        case rel => exact ⟨k + 1, hlt, by go_num, HBL4, HB6, HS6⟩
        case measure => simp [intOf]; omega
    · obtain rfl : k = n := by omega
      have S1 := Tryd.Builder_String_any w1.heap.size w1.heap.size (Pk.bits ts) wr (by have := hBl.out; rw [List.take_of_length_le (by rw [HT.out.len]; exact Nat.le_refl _)] at this; exact this) hS.out
      rw [← HRR.out] at S1
      go_wp2_with fail
      with_reducible refine S1.mono ?_
      rintro e w5 ⟨rfl, hb5⟩
      have HB6 := Lib.hid (hB.out.trans (hb5.mono hsz1))
      go_wp2_with fail
      go_ret2
      exact ⟨rfl, HB6.out⟩

end Go.Proofs.YtkdcapjnoapjgaaDoor
