/- TreeClash: two lists with one root are one, or a clash is told, that is one; for every input; what was there stands below. -/
import Derived.Test.YtlimdfmnfhlcoaaClashW
import Derived.Test.YtlimdfmnfhlcoaaTreeHalves
import Derived.Test.YtlimdfmnfhlcoaaTreeSteps
namespace Go.Proofs.Ytlimdfmnfhlcoaa
open Go.RowKit

set_option maxRecDepth 100000 in
set_option maxHeartbeats 4000000 in
/-- Lists that are not right, or not of one length. -/
theorem Clash_bad (a b : Option Addr) (n m ca cb : Nat) (ss tt : List ByteArray) (w : World) (hn : n ≤ maxLen) (hm : m ≤ maxLen) (hS : TextsAt w a n ss) (hT : TextsAt w b m tt) (h0 : cmpE ss n tt m ≠ 0) :
    Calls Try.prog 18 #[.slice a n ca, .slice b m cb] w fun e w' => e = .returned (.tuple #[.string ⟨#[]⟩, .string ⟨#[]⟩, .int .i64 (cmpE ss n tt m : Nat)]) ∧ w' = w := by
  have CA := Check_any a n ca ss w hn hS
  have CB := Check_any b m cb tt w hm hT
  unfold maxLen at hn hm
  unfold cmpE at *
  generalize chk ss n = k1 at *
  generalize chk tt m = k2 at *
  clear hS hT
  by_cases h1 : k1 = 0
  · rw [if_neg (by omega)] at h0 ⊢
    subst h1
    by_cases h2 : k2 = 0
    · rw [if_neg (by omega)] at h0 ⊢
      subst h2
      by_cases h3 : n = m
      · rw [if_pos h3] at h0; exact absurd rfl h0
      · rw [if_neg h3]
        have e1 : ((n : Int) != (m : Int)) = true := bne_iff_ne.2 (by omega)
        clear h0
        go_enter Try.func18, Try.ntmps18
        go_wp2_with fail
        with_reducible refine CA.mono ?_
        rintro e w' ⟨rfl, rfl⟩
        go_wp2_with fail
        with_reducible refine CB.mono ?_
        rintro e w' ⟨rfl, rfl⟩
        go_wp2_with fail
        go_ret3
        exact ⟨rfl, rfl⟩
    · rw [if_pos h2]
      have e1 : ((k2 : Int) != 0) = true := bne_iff_ne.2 (by omega)
      clear h0
      go_enter Try.func18, Try.ntmps18
      go_wp2_with fail
      with_reducible refine CA.mono ?_
      rintro e w' ⟨rfl, rfl⟩
      go_wp2_with fail
      with_reducible refine CB.mono ?_
      rintro e w' ⟨rfl, rfl⟩
      go_wp2_with fail
      go_ret3
      exact ⟨rfl, rfl⟩
  · rw [if_pos h1]
    have e1 : ((k1 : Int) != 0) = true := bne_iff_ne.2 (by omega)
    clear CB h0
    go_enter Try.func18, Try.ntmps18
    go_wp2_with fail
    with_reducible refine CA.mono ?_
    rintro e w' ⟨rfl, rfl⟩
    go_wp2_with fail
    go_ret3
    exact ⟨rfl, rfl⟩

set_option maxRecDepth 100000 in
set_option maxHeartbeats 8000000 in
/-- Right lists with two roots, or the same list twice. -/
theorem Clash_none (a b : Option Addr) (n ca cb : Nat) (ss tt : List ByteArray) (w : World) (h1 : 1 ≤ n) (hn : n ≤ 32) (hS : TextsAt w a n ss) (hT : TextsAt w b n tt) (hs : ∀ i, i < n → (ss.getD i ByteArray.empty).size ≤ 64) (ht : ∀ i, i < n → (tt.getD i ByteArray.empty).size ≤ 64)
    (hr : rootOf ss n ≠ rootOf tt n ∨ rootOf ss n = rootOf tt n ∧ ∀ i, i < n → ss.getD i ByteArray.empty = tt.getD i ByteArray.empty) :
    Calls Try.prog 18 #[.slice a n ca, .slice b n cb] w fun e w' => e = .returned (.tuple #[.string ⟨#[]⟩, .string ⟨#[]⟩, .int .i64 4]) ∧ Below w.heap.size w w' := by
  have CA := Check_any a n ca ss w (by unfold maxLen; omega) hS
  have CB := Check_any b n cb tt w (by unfold maxLen; omega) hT
  have hc1 : chk ss n = 0 := by unfold chk; rw [if_neg (by omega), if_neg (by rw [big_false.2 hs]; simp; omega)]
  have hc2 : chk tt n = 0 := by unfold chk; rw [if_neg (by omega), if_neg (by rw [big_false.2 ht]; simp; omega)]
  rw [hc1] at CA
  rw [hc2] at CB
  have LA := Levels_any a n ca ss w h1 hn hS hs
  have LB := fun w' (hb : Below w.heap.size w w') => Levels_any b n cb tt w' h1 hn (hT.keep hb) ht
  have l1 := lvs_length ss n
  have l2 := lvs_length tt n
  have hne : lvs ss n ≠ [] := by intro h; rw [h] at l1; simp at l1; omega
  have hne2 : lvs tt n ≠ [] := by intro h; rw [h] at l2; simp at l2; omega
  have hlast := Tr.levels_last (lvs ss n) hne
  have hlast2 := Tr.levels_last (lvs tt n) hne2
  have hlen32 := Tr.levels_len (lvs ss n) hne
  obtain ⟨hsh, -⟩ := Sy.levels_shape _ (lvs ss n) (lvs tt n) (Nat.le_refl _) (by rw [l1, l2])
  rw [l1] at hlen32
  have hpos : 0 < (Tr.levels (lvs ss n)).length := by
    rcases hl : Tr.levels (lvs ss n) with _ | ⟨x, r⟩
    · rw [hl] at hlast; simp at hlast
    · simp
  rw [List.getLast?_eq_getElem?] at hlast hlast2
  rw [← hsh] at hlast2
  unfold rootOf at hr
  generalize Tr.root (lvs ss n) = r0 at *
  generalize Tr.root (lvs tt n) = r1 at *
  generalize Tr.levels (lvs ss n) = x at *
  generalize Tr.levels (lvs tt n) = y at *
  obtain ⟨q, hq⟩ : ∃ q, x.length = q + 1 := ⟨x.length - 1, by omega⟩
  rw [hq, Nat.add_sub_cancel] at hlast hlast2
  have hyq : y.length = q + 1 := by rw [← hsh]; exact hq
  rw [hq] at LA
  rw [hyq] at LB
  have hq32 : q ≤ 32 := by omega
  have htx : x.getD q [] = [r0] := by simp [List.getD, hlast]
  have hty : y.getD q [] = [r1] := by simp [List.getD, hlast2]
  have HLB := Lib.hid LB
  have HQ := Lib.hid hq; have HY := Lib.hid hyq; have HTX := Lib.hid htx; have HTY := Lib.hid hty
  have HTS := Lib.hid hS; have HTT := Lib.hid hT
  have HR := Lib.hid hr
  clear LB hq hyq htx hty hc1 hc2 hne hne2 hlast hlast2 l1 l2 hsh hpos hlen32 hS hT hs ht hr
  go_enter Try.func18, Try.ntmps18
  go_wp2_with fail
  with_reducible refine CA.mono ?_
  rintro e w' ⟨rfl, rfl⟩
  go_wp2_with fail
  with_reducible refine CB.mono ?_
  rintro e w' ⟨rfl, rfl⟩
  go_wp2_with fail
  with_reducible refine LA.mono ?_
  rintro e w1 ⟨g1, k1, vs1, rfl, hown1, hlev1, hb1⟩
  have L2 := HLB.out w1 hb1
  have HO1 := Lib.hid hown1; have HL1 := Lib.hid hlev1; have HB1 := Lib.hid hb1
  clear hown1 hlev1 hb1 LA CA CB
  go_wp2_with fail
  with_reducible refine L2.mono ?_
  rintro e w2 ⟨g2, k2, vs2, rfl, hown2, hlev2, hb2⟩
  have HV : Hid (LevIn w2 w2.heap.size g1 x ∧ LevIn w2 w2.heap.size g2 y) := Lib.hid ⟨levIn HO1.out HL1.out HQ.out hb2, levIn hown2 hlev2 HY.out (Below.refl _ _)⟩
  have HB2 := Lib.hid (HB1.out.trans (hb2.mono HB1.out.size))
  clear hown2 hlev2 hb2 L2 HO1 HL1 HB1 HLB
  obtain ⟨t1, u1, f1, fe1⟩ := HV.out.1.at (Below.refl w2.heap.size w2) (d := q) (by rw [HQ.out]; omega)
  obtain ⟨t2, u2, f2, fe2⟩ := HV.out.2.at (Below.refl w2.heap.size w2) (d := q) (by rw [HY.out]; omega)
  rw [HTX.out] at f1 fe1
  rw [HTY.out] at f2 fe2
  have c1 := fe1 0 Nat.zero_lt_one
  have c2 := fe2 0 Nat.zero_lt_one
  rw [show ([r0] : List Nat).getD 0 0 = r0 from rfl] at c1
  rw [show ([r1] : List Nat).getD 0 0 = r1 from rfl] at c2
  rw [show ([r0] : List Nat).length = 1 from rfl] at f1
  rw [show ([r1] : List Nat).length = 1 from rfl] at f2
  have iq0 : (0 : Int) ≤ (q : Int) := by omega
  have iq1 : (q : Int) < (q : Int) + 1 := by omega
  clear fe1 fe2
  rcases HR.out with hne | ⟨rfl, hall⟩
  · have err : ((r0 : Int) != (r1 : Int)) = true := bne_iff_ne.2 (by omega)
    clear HR
    go_wp2_with fail
    go_quiet (fail)
    go_wp2_with fail
    go_ret3
    exact ⟨rfl, below_drewN HB2.out _⟩
  · have EQ : ∀ j, Calls Try.prog 19 #[.slice a n ca, .slice b n cb] (w2.drewN j) fun e w' => e = .returned (.bool true) ∧ ∃ q, w' = (w2.drewN j).drewN q := fun j =>
      EqualS_same a b n ca cb ss tt (w2.drewN j) (by omega) (HTS.out.keep (below_drewN HB2.out j)) (HTT.out.keep (below_drewN HB2.out j)) hall
    have err : ((r0 : Int) != (r0 : Int)) = false := by simp
    clear HR hall
    go_wp2_with fail
    go_quiet ((go_at_call 19; exact Calls.quiet_of (EQ _)))
    go_wp2_with fail
    go_ret3
    exact ⟨rfl, below_drewN HB2.out _⟩

/-- What Clash answers where it tells none, wherever it is asked behind the beginning. -/
def ClashAns (w : World) (a : Option Addr) (n ca : Nat) (b : Option Addr) (m cb : Nat) (K : Int) : Prop := ∀ w', Below w.heap.size w w' → Calls Try.prog 18 #[.slice a n ca, .slice b m cb] w' fun e w'' => e = .returned (.tuple #[.string ⟨#[]⟩, .string ⟨#[]⟩, .int .i64 K]) ∧ Below w.heap.size w w''

theorem ClashAns.use {w w' : World} {a b : Option Addr} {n ca m cb : Nat} {K : Int} {R : Ending → World → Prop} (h : ClashAns w a n ca b m cb K) (hb : Below w.heap.size w w')
    (hR : ∀ e w'', e = .returned (.tuple #[.string ⟨#[]⟩, .string ⟨#[]⟩, .int .i64 K]) ∧ Below w.heap.size w w'' → R e w'') : Calls Try.prog 18 #[.slice a n ca, .slice b m cb] w' R := (h w' hb).mono hR

theorem clash_test (w : World) (T : TypeId) : Calls Try.prog 18 #[.slice (some ⟨w.heap.size, 0, none⟩) 1 1, .slice (some ⟨w.heap.size + 1, 0, none⟩) 1 1] ((w.alloc (.cells #[.string ⟨#[97]⟩] T)).alloc (.cells #[.string ⟨#[97]⟩] T)) fun e w' =>
    e = .returned (.tuple #[.string ⟨#[]⟩, .string ⟨#[]⟩, .int .i64 4]) ∧ Below w.heap.size w w' := by
  have hz := World.size_alloc w (.cells #[.string ⟨#[97]⟩] T)
  have tx : ∀ (W : World) (o : Nat) (_ : o = W.heap.size), TextsAt (W.alloc (.cells #[.string ⟨#[97]⟩] T)) (some ⟨o, 0, none⟩) 1 [⟨#[97]⟩] := fun W o ho _ => ⟨_, rfl, fun i hi => by
    subst ho
    obtain rfl : i = 0 := by omega
    rw [addr_add]
    exact cell_new W (k := 0) rfl⟩
  have sz : ∀ i, i < 1 → (([⟨#[97]⟩] : List ByteArray).getD i ByteArray.empty).size ≤ 64 := by
    intro i hi
    obtain rfl : i = 0 := by omega
    exact (by decide : (1 : Nat) ≤ 64)
  refine (Clash_none (some ⟨w.heap.size, 0, none⟩) (some ⟨w.heap.size + 1, 0, none⟩) 1 1 1 [⟨#[97]⟩] [⟨#[97]⟩] ((w.alloc (.cells #[.string ⟨#[97]⟩] T)).alloc (.cells #[.string ⟨#[97]⟩] T)) (by omega) (by omega)
    ((tx w w.heap.size rfl).keep ((Below.refl _ _).alloc (Nat.le_refl _) _)) (tx (w.alloc _) _ hz.symm) sz sz (Or.inr ⟨rfl, fun _ _ => rfl⟩)).mono ?_
  rintro e w' ⟨rfl, hb⟩
  exact ⟨rfl, (((Below.refl w.heap.size w).alloc (Nat.le_refl _) _).alloc (by omega) _).trans (hb.mono (by rw [World.size_alloc]; omega))⟩

set_option maxRecDepth 100000 in
set_option maxHeartbeats 4000000 in
theorem treeClash_bad (a b : Option Addr) (n ca m cb p q k1 k2 : Nat) (K : Int) (w : World) (h1 : RootErr w a n ca p k1) (h2 : RootErr w b m cb q k2) (hC : ClashAns w a n ca b m cb K) (hK : (K != 0) = true)
    (hbad : ((k1 : Int) != 0) = true ∨ ((k1 : Int) != 0) = false ∧ ((k2 : Int) != 0) = true ∨ ((k1 : Int) != 0) = false ∧ ((k2 : Int) != 0) = false ∧ ((n : Int) != (m : Int)) = true) :
    Calls Try.prog 7 #[.slice a n ca, .slice b m cb] w fun e w' => e = .returned (.bool true) ∧ Below w.heap.size w w' := by
  have P1 := clash_test w 9
  rcases hbad with e1 | ⟨e1, e2⟩ | ⟨e1, e2, e3⟩
  all_goals
    go_enter Try.func7, Try.ntmps7
    go_wp2_with fail
    with_reducible refine P1.mono ?_
    rintro e w1 ⟨rfl, hb1⟩
    have HB1 := Lib.hid hb1
    clear hb1 P1
    go_wp2_with fail
    with_reducible refine h1.use HB1.out ?_
    rintro e w2 ⟨rfl, hb2⟩
    have HB2 := Lib.hid hb2
    clear hb2 h1
    go_wp2_with fail
    with_reducible refine h2.use HB2.out ?_
    rintro e w3 ⟨rfl, hb3⟩
    have HB3 := Lib.hid hb3
    clear hb3 h2
    go_wp2_with fail
    with_reducible refine hC.use HB3.out ?_
    rintro e w4 ⟨rfl, hb4⟩
    have HB4 := Lib.hid hb4
    clear hb4 hC
    go_wp2_with fail
    go_ret
    exact ⟨rfl, HB4.out⟩

set_option maxRecDepth 100000 in
set_option maxHeartbeats 4000000 in
theorem treeClash_none (a b : Option Addr) (n ca cb p q : Nat) (w : World) (h1 : RootErr w a n ca p 0) (h2 : RootErr w b n cb q 0) (hC : ClashAns w a n ca b n cb 4)
    (hd : ((p : Int) != (q : Int)) = true ∨ ((p : Int) != (q : Int)) = false ∧ ∀ w', Below w.heap.size w w' → Calls Try.prog 19 #[.slice a n ca, .slice b n cb] w' fun e w'' => e = .returned (.bool true) ∧ ∃ q, w'' = w'.drewN q) :
    Calls Try.prog 7 #[.slice a n ca, .slice b n cb] w fun e w' => e = .returned (.bool true) ∧ Below w.heap.size w w' := by
  have P1 := clash_test w 9
  rcases hd with e1 | ⟨e1, hE⟩
  · go_enter Try.func7, Try.ntmps7
    go_wp2_with fail
    with_reducible refine P1.mono ?_
    rintro e w1 ⟨rfl, hb1⟩
    have HB1 := Lib.hid hb1
    clear hb1 P1
    go_wp2_with fail
    with_reducible refine h1.use HB1.out ?_
    rintro e w2 ⟨rfl, hb2⟩
    have HB2 := Lib.hid hb2
    clear hb2 h1
    go_wp2_with fail
    with_reducible refine h2.use HB2.out ?_
    rintro e w3 ⟨rfl, hb3⟩
    have HB3 := Lib.hid hb3
    clear hb3 h2
    go_wp2_with fail
    with_reducible refine hC.use HB3.out ?_
    rintro e w4 ⟨rfl, hb4⟩
    have HB4 := Lib.hid hb4
    clear hb4 hC
    go_wp2_with fail
    go_ret
    exact ⟨rfl, HB4.out⟩
  · go_enter Try.func7, Try.ntmps7
    go_wp2_with fail
    with_reducible refine P1.mono ?_
    rintro e w1 ⟨rfl, hb1⟩
    have HB1 := Lib.hid hb1
    clear hb1 P1
    go_wp2_with fail
    with_reducible refine h1.use HB1.out ?_
    rintro e w2 ⟨rfl, hb2⟩
    have HB2 := Lib.hid hb2
    clear hb2 h1
    go_wp2_with fail
    with_reducible refine h2.use HB2.out ?_
    rintro e w3 ⟨rfl, hb3⟩
    have HB3 := Lib.hid hb3
    clear hb3 h2
    go_wp2_with fail
    with_reducible refine hC.use HB3.out ?_
    rintro e w4 ⟨rfl, hb4⟩
    have E4 := hE w4 hb4
    have HB4 := Lib.hid hb4
    clear hb4 hC hE
    go_wp2_with fail
    with_reducible refine E4.mono ?_
    rintro e w5 ⟨rfl, k5, rfl⟩
    clear E4
    go_wp2_with fail
    go_ret
    exact ⟨rfl, below_drewN HB4.out k5⟩

set_option maxRecDepth 100000 in
set_option maxHeartbeats 4000000 in
theorem treeClash_ok (a b : Option Addr) (n ca cb p : Nat) (w : World) (h1 : RootErr w a n ca p 0) (h2 : RootErr w b n cb p 0) (hC : ∀ w', Below w.heap.size w w' → Calls Try.prog 18 #[.slice a n ca, .slice b n cb] w' (ClashTo w'))
    (hE : ∀ w', Below w.heap.size w w' → Calls Try.prog 19 #[.slice a n ca, .slice b n cb] w' fun e w'' => e = .returned (.bool false) ∧ ∃ q, w'' = w'.drewN q) :
    Calls Try.prog 7 #[.slice a n ca, .slice b n cb] w fun e w' => e = .returned (.bool true) ∧ Below w.heap.size w w' := by
  have P1 := clash_test w 9
  have epp : ((p : Int) != (p : Int)) = false := by simp
  have HC := Lib.hid hC; have HE := Lib.hid hE
  clear hC hE
  go_enter Try.func7, Try.ntmps7
  go_wp2_with fail
  with_reducible refine P1.mono ?_
  rintro e w1 ⟨rfl, hb1⟩
  have HB1 := Lib.hid hb1
  clear hb1 P1
  go_wp2_with fail
  with_reducible refine h1.use HB1.out ?_
  rintro e w2 ⟨rfl, hb2⟩
  have HB2 := Lib.hid hb2
  clear hb2 h1
  go_wp2_with fail
  with_reducible refine h2.use HB2.out ?_
  rintro e w3 ⟨rfl, hb3⟩
  have HB3 := Lib.hid hb3
  have C3 := HC.out w3 hb3
  clear hb3 h2
  go_wp2_with fail
  refine Calls.mono C3 ?_
  rintro e w4 ⟨s, t, rfl, hcl, hb4⟩
  have HB4 := Lib.hid (HB3.out.trans (hb4.mono HB3.out.size))
  have E4 := HE.out w4 HB4.out
  obtain ⟨z, hz⟩ : ∃ z, G.print 1073741907 s.data.toList = z := ⟨_, rfl⟩
  have O1 := of_is s hcl.s600 hz
  have O2 := of_is t hcl.t600 (p := z) (by rw [← hz]; exact hcl.same.symm)
  have e1 := str_ne hcl.ne
  clear hb4 C3 hcl hz
  go_wp2_with fail
  with_reducible refine E4.mono ?_
  rintro e w5 ⟨rfl, k5, rfl⟩
  have HB5 := Lib.hid (below_drewN HB4.out k5)
  clear E4
  go_wp2_with fail
  with_reducible refine O1.use ?_
  rintro e w' ⟨rfl, rfl⟩
  go_wp2_with fail
  with_reducible refine O2.use ?_
  rintro e w' ⟨rfl, rfl⟩
  go_wp2_with fail
  go_ret
  exact ⟨rfl, HB5.out⟩

theorem treeClash_walk (a0 : Option Addr) (len0 cap0 : Nat) (s0 : List ByteArray) (a1 : Option Addr) (len1 cap1 : Nat) (s1 : List ByteArray) (w : World) (w0 : IsRowS w a0 len0 cap0 s0) (w1 : IsRowS w a1 len1 cap1 s1) :
    Calls Try.prog 7 #[.slice a0 len0 cap0, .slice a1 len1 cap1] w fun e w' => e = .returned (.bool true) ∧ Below w.heap.size w w' := by
  obtain ⟨t0, n0⟩ := rowS_texts w0
  obtain ⟨t1, n1⟩ := rowS_texts w1
  by_cases hc : cmpE s0 len0 s1 len1 = 0
  · obtain ⟨h1, h2, rfl⟩ := cmpE_zero.1 hc
    obtain ⟨p0, p32, sz0⟩ := right_parts h1
    have sz1 := (right_parts h2).2.2
    have R1 := rootErr_ok (cap := cap0) p0 p32 t0 sz0
    have R2 := rootErr_ok (cap := cap1) p0 p32 t1 sz1
    by_cases hr : rootOf s0 len0 = rootOf s1 len0
    · by_cases he : ∀ i, i < len0 → s0.getD i ByteArray.empty = s1.getD i ByteArray.empty
      · refine treeClash_none a0 a1 len0 cap0 cap1 _ _ w R1 R2 (fun w' hb => ?_) (Or.inr ⟨by rw [hr]; simp, fun w' hb => EqualS_same a0 a1 len0 cap0 cap1 s0 s1 w' (by omega) (t0.keep hb) (t1.keep hb) he⟩)
        refine (Clash_none a0 a1 len0 cap0 cap1 s0 s1 w' p0 p32 (t0.keep hb) (t1.keep hb) sz0 sz1 (Or.inr ⟨hr, he⟩)).mono ?_
        rintro e w'' ⟨rfl, hb2⟩
        exact ⟨rfl, hb.trans (hb2.mono hb.size)⟩
      · obtain ⟨i, hi⟩ := Classical.not_forall.1 he
        obtain ⟨hi, hne⟩ := Classical.not_imp.1 hi
        rw [← hr] at R2
        exact treeClash_ok a0 a1 len0 cap0 cap1 _ w R1 R2 (fun w' hb => Clash_ok a0 a1 len0 i cap0 cap1 s0 s1 w' p0 p32 (t0.keep hb) (t1.keep hb) sz0 sz1 hr hi hne) (fun w' hb => EqualS_other a0 a1 len0 i cap0 cap1 s0 s1 w' (by omega) (t0.keep hb) (t1.keep hb) hi hne)
    · refine treeClash_none a0 a1 len0 cap0 cap1 _ _ w R1 R2 (fun w' hb => ?_) (Or.inl (bne_iff_ne.2 (by omega)))
      refine (Clash_none a0 a1 len0 cap0 cap1 s0 s1 w' p0 p32 (t0.keep hb) (t1.keep hb) sz0 sz1 (Or.inl hr)).mono ?_
      rintro e w'' ⟨rfl, hb2⟩
      exact ⟨rfl, hb.trans (hb2.mono hb.size)⟩
  · have hC : ClashAns w a0 len0 cap0 a1 len1 cap1 (cmpE s0 len0 s1 len1 : Nat) := fun w' hb => by
      refine (Clash_bad a0 a1 len0 len1 cap0 cap1 s0 s1 w' n0 n1 (t0.keep hb) (t1.keep hb) hc).mono ?_
      rintro e w'' ⟨rfl, rfl⟩
      exact ⟨rfl, hb⟩
    have rr : ∀ {a : Option Addr} {n c : Nat} {ss : List ByteArray} (_ : TextsAt w a n ss) (_ : n ≤ maxLen), ∃ p, RootErr w a n c p (chk ss n) := fun {a n c ss} ht hn => by
      by_cases h : chk ss n = 0
      · obtain ⟨q0, q32, sz⟩ := right_parts h
        rw [h]
        exact ⟨_, rootErr_ok q0 q32 ht sz⟩
      · exact ⟨0, rootErr_bad hn ht rfl (bne_iff_ne.2 (by omega))⟩
    obtain ⟨p, R1⟩ := rr (c := cap0) t0 n0
    obtain ⟨q, R2⟩ := rr (c := cap1) t1 n1
    refine treeClash_bad a0 a1 len0 cap0 len1 cap1 p q _ _ _ w R1 R2 hC (bne_iff_ne.2 (by omega)) ?_
    by_cases k1 : chk s0 len0 = 0
    · by_cases k2 : chk s1 len1 = 0
      · have hn : len0 ≠ len1 := fun h => hc (cmpE_zero.2 ⟨k1, k2, h⟩)
        exact Or.inr (Or.inr ⟨by rw [k1]; rfl, by rw [k2]; rfl, bne_iff_ne.2 (by omega)⟩)
      · exact Or.inr (Or.inl ⟨by rw [k1]; rfl, bne_iff_ne.2 (by omega)⟩)
    · exact Or.inl (bne_iff_ne.2 (by omega))

end Go.Proofs.Ytlimdfmnfhlcoaa
