/- The walk of tree.Clash. -/
import Derived.Test.YtlimdfmnfhlcoaaSyncFew
import Derived.Deep.RegionHeld3
import Derived.Deep.RegionWith
namespace Go.Proofs.Ytlimdfmnfhlcoaa
open Go.RowKit

/-- Two texts with one print. -/
structure Clashing (s t : ByteArray) : Prop where
  ne : s ≠ t
  same : Tr.pr s.data.toList = Tr.pr t.data.toList
  s600 : s.size ≤ 600
  t600 : t.size ≤ 600

theorem four_inj {p q : Nat} (hp : p ≤ 2147483647) (hq : q ≤ 2147483647) (h : Tr.four p = Tr.four q) : p = q := by
  unfold Tr.four at h
  simp only [List.cons.injEq, and_true] at h
  obtain ⟨h0, h1, h2, h3⟩ := h
  have e0 := congrArg UInt8.toNat h0; have e1 := congrArg UInt8.toNat h1; have e2 := congrArg UInt8.toNat h2; have e3 := congrArg UInt8.toNat h3
  simp only [UInt8.toNat_ofNat'] at e0 e1 e2 e3
  omega

theorem said_inj {p q p' q' : Nat} (hp : p ≤ 2147483647) (hq : q ≤ 2147483647) (hp' : p' ≤ 2147483647) (hq' : q' ≤ 2147483647) (h : Tr.said p q = Tr.said p' q') : p = p' ∧ q = q' := by
  unfold Tr.said at h
  have h1 := (List.cons.inj h).2
  have hl : (Tr.four p).length = (Tr.four p').length := rfl
  obtain ⟨a, b⟩ := List.append_inj h1 hl
  exact ⟨four_inj hp hp' a, four_inj hq hq' b⟩

theorem bs_ext {s t : ByteArray} (h : s.data.toList = t.data.toList) : s = t := ByteArray.ext (Array.toList_inj.mp h)

theorem str_ne {s t : ByteArray} (h : s ≠ t) : (s.toList == t.toList) = false := by
  rw [beq_eq_false_iff_ne, ByteArray.toList_eq, ByteArray.toList_eq]
  exact fun e => h (bs_ext e)

set_option maxRecDepth 100000 in
set_option maxHeartbeats 2000000 in
/-- slices.Equal of two rows of texts: alike. -/
theorem EqualS_same (a b : Option Addr) (n c1 c2 : Nat) (ss tt : List ByteArray) (w : World) (hn : n ≤ 1000000) (h1 : TextsAt w a n ss) (h2 : TextsAt w b n tt) (he : ∀ i, i < n → ss.getD i ByteArray.empty = tt.getD i ByteArray.empty) :
    Calls Try.prog 19 #[.slice a n c1, .slice b n c2] w fun e w' => e = .returned (.bool true) ∧ ∃ q, w' = w.drewN q := by
  have H1 := Lib.hid h1; have H2 := Lib.hid h2; have HE := Lib.hid he; clear h1 h2 he
  go_enter Try.func19, Try.ntmps19
  go_wp2_with fail
  go_loopw [13] (fun x wr => ∃ k : Nat, k ≤ n ∧ x = .int .i64 k ∧ ∃ j, wr = w.drewN j) (fun x _ => n - (intOf x).toNat)
  case atStart => exact ⟨0, Nat.zero_le _, rfl, 0, rfl⟩
  case round =>
    obtain ⟨k, hk, rfl, hj⟩ := hrel
    by_cases hlt : k < n
    · obtain ⟨A, rfl, e1⟩ := H1.out (by omega)
      obtain ⟨B, rfl, e2⟩ := H2.out (by omega)
      have g1 := e1 k hlt
      have g2 := e2 k hlt
      rw [← HE.out k hlt] at g2
      clear e1 e2
      generalize ss.getD k ByteArray.empty = X at *
      obtain ⟨j, rfl⟩ := hj
      go_wp2_with fail
      go_region
      all_goals
        go_wp2_with fail
        go_roundw
        case rel => exact ⟨k + 1, hlt, by go_num, j + 1, rfl⟩
        case measure => simp [intOf]; omega
    · obtain rfl : k = n := by omega
      go_wp2_with fail
      go_ret
      exact ⟨rfl, hj⟩

set_option maxRecDepth 100000 in
set_option maxHeartbeats 2000000 in
/-- .. not alike. -/
theorem EqualS_other (a b : Option Addr) (n m c1 c2 : Nat) (ss tt : List ByteArray) (w : World) (hn : n ≤ 1000000) (h1 : TextsAt w a n ss) (h2 : TextsAt w b n tt) (hm : m < n) (he : ss.getD m ByteArray.empty ≠ tt.getD m ByteArray.empty) :
    Calls Try.prog 19 #[.slice a n c1, .slice b n c2] w fun e w' => e = .returned (.bool false) ∧ ∃ q, w' = w.drewN q := by
  have H1 := Lib.hid h1; have H2 := Lib.hid h2; have HE := Lib.hid he; clear h1 h2 he
  go_enter Try.func19, Try.ntmps19
  go_wp2_with fail
  go_loopw [13] (fun x wr => ∃ k : Nat, k ≤ m ∧ x = .int .i64 k ∧ ∃ j, wr = w.drewN j) (fun x _ => n - (intOf x).toNat)
  case atStart => exact ⟨0, Nat.zero_le _, rfl, 0, rfl⟩
  case round =>
    obtain ⟨k, hk, rfl, hj⟩ := hrel
    have hlt : k < n := by omega
    obtain ⟨A, rfl, e1⟩ := H1.out (by omega)
    obtain ⟨B, rfl, e2⟩ := H2.out (by omega)
    have g1 := e1 k hlt
    have g2 := e2 k hlt
    have HK : Hid (k = m → ss.getD k ByteArray.empty ≠ tt.getD k ByteArray.empty) := Lib.hid fun e => by subst e; exact HE.out
    clear e1 e2
    generalize ss.getD k ByteArray.empty = X at *
    generalize tt.getD k ByteArray.empty = Y at *
    obtain ⟨j, rfl⟩ := hj
    by_cases hXY : X = Y
    · subst hXY
      have hkm : k < m := by
        rcases Nat.lt_or_ge k m with h | h
        · exact h
        · exact absurd rfl (HK.out (by omega))
      go_wp2_with fail
      go_region
      all_goals
        go_wp2_with fail
        go_roundw
        case rel => exact ⟨k + 1, hkm, by go_num, j + 1, rfl⟩
        case measure => simp [intOf]; omega
    · have e1 := str_ne hXY
      go_wp2_with fail
      go_region
      all_goals
        go_wp2_with fail
        go_ret
        exact ⟨rfl, j + 1, rfl⟩

/-- What a clash leaves. -/
def ClashTo (w : World) (e : Ending) (w' : World) : Prop := ∃ s t, e = .returned (.tuple #[.string s, .string t, .int .i64 0]) ∧ Clashing s t ∧ Below w.heap.size w w'

theorem leaf_clash {s t : ByteArray} (h : s ≠ t) (hs : s.size ≤ 64) (ht : t.size ≤ 64) (he : Tr.leaf s.data.toList = Tr.leaf t.data.toList) : Clashing (⟨#[108]⟩ ++ s) (⟨#[108]⟩ ++ t) := by
  have e : ∀ u : ByteArray, ((⟨#[108]⟩ : ByteArray) ++ u).data.toList = 108 :: u.data.toList := fun u => by simp
  have z : ∀ u : ByteArray, ((⟨#[108]⟩ : ByteArray) ++ u).size = u.size + 1 := fun u => by
    have := congrArg List.length (e u)
    simp only [List.length_cons, Array.length_toList] at this
    exact this
  refine ⟨fun h2 => h (bs_ext ?_), ?_, by rw [z]; omega, by rw [z]; omega⟩
  · have := congrArg (fun b : ByteArray => b.data.toList) h2
    simp only [e] at this
    exact (List.cons.inj this).2
  · rw [e, e]; exact he

theorem up_small : ∀ l : List Nat, (∀ z, z ∈ l → z ≤ 2147483647) → ∀ z, z ∈ Tr.up l → z ≤ 2147483647
  | a :: b :: r, h, z, hz => by
    rw [Tr.up] at hz
    rcases List.mem_cons.1 hz with rfl | hz
    · exact pr_le _
    · exact up_small r (fun u hu => h u (List.mem_cons_of_mem _ (List.mem_cons_of_mem _ hu))) z hz
  | [a], h, z, hz => h z hz
  | [], h, z, hz => h z hz

theorem lev_small {x : List (List Nat)} (hb : Sy.Built x) (h0 : ∀ z, z ∈ x.getD 0 [] → z ≤ 2147483647) : ∀ d, d < x.length → ∀ z, z ∈ x.getD d [] → z ≤ 2147483647 := by
  intro d
  induction d with
  | zero => intro _; exact h0
  | succ d ih =>
    intro hd
    rw [hb d hd]
    exact up_small _ (ih (by omega))

theorem getD_small {l : List Nat} (h : ∀ z, z ∈ l → z ≤ 2147483647) (j : Nat) : l.getD j 0 ≤ 2147483647 := by
  by_cases hj : j < l.length
  · have e : l.getD j 0 = l[j] := by simp [List.getD, hj]
    rw [e]; exact h _ (List.getElem_mem hj)
  · have e : l.getD j 0 = 0 := by simp [List.getD, Nat.le_of_not_lt hj]
    rw [e]; exact Nat.zero_le _

/-- The level beneath is the same, if all its pairs are and the level above is. -/
theorem down_same {l k : List Nat} (hl : l.length = k.length) (hu : Tr.up l = Tr.up k) (hp : ∀ j, 2 * j + 1 < l.length → l.getD (2 * j) 0 = k.getD (2 * j) 0 ∧ l.getD (2 * j + 1) 0 = k.getD (2 * j + 1) 0) : l = k := by
  apply List.ext_getElem hl
  intro i h1 h2
  have e1 : l.getD i 0 = l[i] := by simp [List.getD, h1]
  have e2 : k.getD i 0 = k[i] := by simp [List.getD, h2]
  rw [← e1, ← e2]
  rcases Nat.mod_two_eq_zero_or_one i with h | h
  · obtain ⟨j, rfl⟩ : ∃ j, i = 2 * j := ⟨i / 2, by omega⟩
    by_cases hj : 2 * j + 1 < l.length
    · exact (hp j hj).1
    · have a := up_odd l j (by omega)
      have b := up_odd k j (by omega)
      rw [← a, ← b, hu]
  · obtain ⟨j, rfl⟩ : ∃ j, i = 2 * j + 1 := ⟨i / 2, by omega⟩
    exact (hp j h1).2

/-- A pair's string. -/
def sb (p q : Nat) : ByteArray := ⟨(Tr.said p q).toArray⟩

theorem said_open (p q : Nat) (w : World) (hp : p ≤ 2147483647) (hq : q ≤ 2147483647) : Calls Try.prog 29 #[.int .i64 p, .int .i64 q] w fun e w' => e = .returned (.string (sb p q)) ∧ Below w.heap.size w w' := said_any p q w hp hq

/-- What stands while two trees are held against each other. -/
theorem six_on {N : Nat} {w0 w w' : World} {a1 a2 a3 a4 a5 a6 : Addr} {v1 v2 v3 v4 v5 v6 : Value} (hb : Below w.heap.size w w')
    (h : w.cell? a1 = some v1 ∧ w.cell? a2 = some v2 ∧ w.cell? a3 = some v3 ∧ w.cell? a4 = some v4 ∧ w.cell? a5 = some v5 ∧ w.cell? a6 = some v6 ∧ Below N w0 w ∧ N ≤ w.heap.size) :
    w'.cell? a1 = some v1 ∧ w'.cell? a2 = some v2 ∧ w'.cell? a3 = some v3 ∧ w'.cell? a4 = some v4 ∧ w'.cell? a5 = some v5 ∧ w'.cell? a6 = some v6 ∧ Below N w0 w' ∧ N ≤ w'.heap.size := by
  obtain ⟨h1, h2, h3, h4, h5, h6, h7, h8⟩ := h
  refine ⟨?_, ?_, ?_, ?_, ?_, ?_, h7.trans (hb.mono h8), Nat.le_trans h8 hb.size⟩
  · rw [hb.cell (World.block_lt_of_cell? w _ h1)]; exact h1
  · rw [hb.cell (World.block_lt_of_cell? w _ h2)]; exact h2
  · rw [hb.cell (World.block_lt_of_cell? w _ h3)]; exact h3
  · rw [hb.cell (World.block_lt_of_cell? w _ h4)]; exact h4
  · rw [hb.cell (World.block_lt_of_cell? w _ h5)]; exact h5
  · rw [hb.cell (World.block_lt_of_cell? w _ h6)]; exact h6

theorem sb_data (p q : Nat) : (sb p q).data.toList = Tr.said p q := by unfold sb; simp

theorem sb_size (p q : Nat) : (sb p q).size = 9 := rfl

theorem sb_eq {p q p' q' : Nat} (h : p = p' ∧ q = q') : ((sb p q).toList == (sb p' q').toList) = true := by
  obtain ⟨rfl, rfl⟩ := h
  simp

theorem sb_ne {p q p' q' : Nat} (hp : p ≤ 2147483647) (hq : q ≤ 2147483647) (hp' : p' ≤ 2147483647) (hq' : q' ≤ 2147483647) (h : ¬ (p = p' ∧ q = q')) : sb p q ≠ sb p' q' := fun e => h (by
  have := congrArg (fun b : ByteArray => b.data.toList) e
  simp only [sb_data] at this
  exact said_inj hp hq hp' hq' this)

theorem clash_pair {w w' : World} {p q p' q' : Nat} (hne : sb p q ≠ sb p' q') (h : Tr.node p q = Tr.node p' q') (hB : Below w.heap.size w w') : ClashTo w (.returned (.tuple #[.string (sb p q), .string (sb p' q'), .int .i64 0])) w' :=
  ⟨_, _, rfl, ⟨hne, by rw [sb_data, sb_data]; exact h, by rw [sb_size]; decide, by rw [sb_size]; decide⟩, hB⟩

theorem clash_leaf {w w' : World} {s t : ByteArray} (h : s ≠ t) (hs : s.size ≤ 64) (ht : t.size ≤ 64) (he : Tr.leaf s.data.toList = Tr.leaf t.data.toList) (hB : Below w.heap.size w w') : ClashTo w (.returned (.tuple #[.string (⟨#[108]⟩ ++ s), .string (⟨#[108]⟩ ++ t), .int .i64 0])) w' :=
  ⟨_, _, rfl, leaf_clash h hs ht he, hB⟩

set_option maxRecDepth 100000 in
set_option maxHeartbeats 16000000 in
theorem Clash_ok (a b : Option Addr) (n m ca cb : Nat) (ss tt : List ByteArray) (w : World) (h1 : 1 ≤ n) (hn : n ≤ 32) (hS : TextsAt w a n ss) (hT : TextsAt w b n tt) (hs : ∀ i, i < n → (ss.getD i ByteArray.empty).size ≤ 64) (ht : ∀ i, i < n → (tt.getD i ByteArray.empty).size ≤ 64)
    (hr : rootOf ss n = rootOf tt n) (hm : m < n) (hd : ss.getD m ByteArray.empty ≠ tt.getD m ByteArray.empty) :
    Calls Try.prog 18 #[.slice a n ca, .slice b n cb] w (ClashTo w) := by
  have CA := Check_any a n ca ss w (by unfold maxLen; omega) hS
  have CB := Check_any b n cb tt w (by unfold maxLen; omega) hT
  have hc1 : chk ss n = 0 := by unfold chk; rw [if_neg (by omega), if_neg (by rw [big_false.2 hs]; simp; omega)]
  have hc2 : chk tt n = 0 := by unfold chk; rw [if_neg (by omega), if_neg (by rw [big_false.2 ht]; simp; omega)]
  rw [hc1] at CA
  rw [hc2] at CB
  have LA := Levels_any a n ca ss w h1 hn hS hs
  have LB := fun w' (hb : Below w.heap.size w w') => Levels_any b n cb tt w' h1 hn (hT.keep hb) ht
  have l1 := lvs_length ss n
  have l2 := lvs_length tt n
  have hne : lvs ss n ≠ [] := by intro h; rw [h] at l1; simp at l1; omega
  have hne2 : lvs tt n ≠ [] := by intro h; rw [h] at l2; simp at l2; omega
  have hlast := Tr.levels_last (lvs ss n) hne
  have hlast2 := Tr.levels_last (lvs tt n) hne2
  have hlen32 := Tr.levels_len (lvs ss n) hne
  have hfew := Sy.levels_few _ (lvs ss n) (Nat.le_refl _)
  have hbx := Sy.built_levels (lvs ss n)
  have hby := Sy.built_levels (lvs tt n)
  obtain ⟨hsh, hsame⟩ := Sy.levels_shape _ (lvs ss n) (lvs tt n) (Nat.le_refl _) (by rw [l1, l2])
  rw [l1] at hlen32 hfew
  have hroot : Tr.root (lvs ss n) = Tr.root (lvs tt n) := hr
  have hx0 : (Tr.levels (lvs ss n)).getD 0 [] = lvs ss n := by
    by_cases h : 1 < (lvs ss n).length
    · rw [Tr.levels_up h]; rfl
    · rw [Tr.levels_one (by omega)]; rfl
  have hy0 : (Tr.levels (lvs tt n)).getD 0 [] = lvs tt n := by
    by_cases h : 1 < (lvs tt n).length
    · rw [Tr.levels_up h]; rfl
    · rw [Tr.levels_one (by omega)]; rfl
  have hsx := lev_small hbx (by rw [hx0]; exact fun z hz => by obtain ⟨i, -, rfl⟩ := List.mem_map.1 hz; exact pr_le _)
  have hsy := lev_small hby (by rw [hy0]; exact fun z hz => by obtain ⟨i, -, rfl⟩ := List.mem_map.1 hz; exact pr_le _)
  have hhalf := Sy.halved_levels (lvs ss n) hne
  have hpos : 0 < (Tr.levels (lvs ss n)).length := by
    rcases hl : Tr.levels (lvs ss n) with _ | ⟨x, r⟩
    · rw [hl] at hlast; simp at hlast
    · simp
  rw [List.getLast?_eq_getElem?] at hlast hlast2
  rw [← hsh] at hlast2
  have HL0 : Hid (∀ i, i < n → (Tr.levels (lvs ss n)).getD 0 [] = (Tr.levels (lvs tt n)).getD 0 [] → Tr.leaf (ss.getD i ByteArray.empty).data.toList = Tr.leaf (tt.getD i ByteArray.empty).data.toList) := Lib.hid fun i hi h => by
    rw [hx0, hy0] at h
    have := congrArg (fun l : List Nat => l.getD i 0) h
    unfold lvs at this
    simpa [List.getD, hi] using this
  clear hx0 hy0
  generalize Tr.root (lvs ss n) = r0 at *
  generalize Tr.root (lvs tt n) = r1 at *
  subst hroot
  generalize Tr.levels (lvs ss n) = x at *
  generalize Tr.levels (lvs tt n) = y at *
  obtain ⟨q, hq⟩ : ∃ q, x.length = q + 1 := ⟨x.length - 1, by omega⟩
  rw [hq, Nat.add_sub_cancel] at hlast hlast2
  have hyq : y.length = q + 1 := by rw [← hsh]; exact hq
  rw [hq] at LA
  rw [hyq] at LB
  have hq32 : q ≤ 32 := by omega
  have htx : x.getD q [] = [r0] := by simp [List.getD, hlast]
  have hty : y.getD q [] = [r0] := by simp [List.getD, hlast2]
  have HLB := Lib.hid LB
  have HXY := Lib.hid (⟨hbx, hby, hhalf, hsame, fun d => by have := hfew d; omega⟩ : Sy.Built x ∧ Sy.Built y ∧ Sy.Halved x ∧ (∀ d, (x.getD d []).length = (y.getD d []).length) ∧ ∀ d, (x.getD d []).length ≤ 32)
  have HSM := Lib.hid (⟨hsx, hsy⟩ : (∀ d, d < x.length → ∀ z, z ∈ x.getD d [] → z ≤ 2147483647) ∧ ∀ d, d < y.length → ∀ z, z ∈ y.getD d [] → z ≤ 2147483647)
  have HQ := Lib.hid hq; have HY := Lib.hid hyq; have HTX := Lib.hid htx; have HTY := Lib.hid hty
  have HTS := Lib.hid hS; have HTT := Lib.hid hT
  have HD := Lib.hid hd; have HSZ := Lib.hid (⟨hs, ht⟩ : (∀ i, i < n → (ss.getD i ByteArray.empty).size ≤ 64) ∧ ∀ i, i < n → (tt.getD i ByteArray.empty).size ≤ 64)
  clear LB hbx hby hhalf hsame hfew hsx hsy hq hyq htx hty hc1 hc2 hne hne2 hlast hlast2 l1 l2 hsh hpos hlen32 hS hT hs ht hr hd
  go_enter Try.func18, Try.ntmps18
  go_wp2_with fail
  with_reducible refine CA.mono ?_
  rintro e w' ⟨rfl, rfl⟩
  go_wp2_with fail
  with_reducible refine CB.mono ?_
  rintro e w' ⟨rfl, rfl⟩
  go_wp2_with fail
  with_reducible refine LA.mono ?_
  rintro e w1 ⟨g1, k1, vs1, rfl, hown1, hlev1, hb1⟩
  have L2 := HLB.out w1 hb1
  have HO1 := Lib.hid hown1; have HL1 := Lib.hid hlev1; have HB1 := Lib.hid hb1
  clear hown1 hlev1 hb1 LA CA CB
  go_wp2_with fail
  with_reducible refine L2.mono ?_
  rintro e w2 ⟨g2, k2, vs2, rfl, hown2, hlev2, hb2⟩
  have HV : Hid (LevIn w2 w2.heap.size g1 x ∧ LevIn w2 w2.heap.size g2 y) := Lib.hid ⟨levIn HO1.out HL1.out HQ.out hb2, levIn hown2 hlev2 HY.out (Below.refl _ _)⟩
  have HB2 := Lib.hid (HB1.out.trans (hb2.mono HB1.out.size))
  clear hown2 hlev2 hb2 L2 HO1 HL1 HB1 HLB
  obtain ⟨t1, u1, f1, fe1⟩ := HV.out.1.at (Below.refl w2.heap.size w2) (d := q) (by rw [HQ.out]; omega)
  obtain ⟨t2, u2, f2, fe2⟩ := HV.out.2.at (Below.refl w2.heap.size w2) (d := q) (by rw [HY.out]; omega)
  rw [HTX.out] at f1 fe1
  rw [HTY.out] at f2 fe2
  have c1 := fe1 0 Nat.zero_lt_one
  have c2 := fe2 0 Nat.zero_lt_one
  rw [show ([r0] : List Nat).getD 0 0 = r0 from rfl] at c1 c2
  rw [show ([r0] : List Nat).length = 1 from rfl] at f1 f2
  have EQ : ∀ j, Calls Try.prog 19 #[.slice a n ca, .slice b n cb] (w2.drewN j) fun e w' => e = .returned (.bool false) ∧ ∃ q, w' = (w2.drewN j).drewN q := fun j =>
    EqualS_other a b n m ca cb ss tt (w2.drewN j) (by omega) (HTS.out.keep (below_drewN HB2.out j)) (HTT.out.keep (below_drewN HB2.out j)) hm HD.out
  have iq0 : (0 : Int) ≤ (q : Int) := by omega
  have iq1 : (q : Int) < (q : Int) + 1 := by omega
  have err : ((r0 : Int) != (r0 : Int)) = false := by simp
  clear fe1 fe2
  go_wp2_with fail
  go_quiet ((go_at_call 19; exact Calls.quiet_of (EQ _)))
  rename_i nq
  have HBQ : Hid (Below w2.heap.size w2 (w2.drewN nq)) := Lib.hid (below_drewN (Below.refl _ _) nq)
  clear EQ c1 c2 f1 f2 err iq0 iq1
  go_wp2_with fail
  obtain ⟨N, hN⟩ : ∃ N, q + 1 = N := ⟨_, rfl⟩
  rw [hN] at HQ HY ⊢
  have HN := Lib.hid hN
  clear hN
  go_loopw [12] (fun v wr => ∃ d : Nat, d ≤ q ∧ v = .int .i64 d ∧ Hid (x.getD d [] = y.getD d []) ∧ Hid (Below w2.heap.size w2 wr)) (fun v _ => (intOf v).toNat)
  case atStart => exact ⟨q, Nat.le_refl _, rfl, Lib.hid (by rw [HTX.out, HTY.out]), HBQ⟩
  case round =>
    obtain ⟨d, hdq, rfl, hE, hB⟩ := hrel
    rcases d with _ | k
    · go_wp2_with fail
      go_loopw [128] (fun v wr => ∃ i : Nat, i ≤ m ∧ v = .int .i64 i ∧ Hid (Below w2.heap.size w2 wr)) (fun v _ => m + 1 - (intOf v).toNat)
      case atStart => exact ⟨0, Nat.zero_le _, rfl, hB⟩
      case round =>
        obtain ⟨i, hi, rfl, hB'⟩ := hrel
        have hin : i < n := by omega
        obtain ⟨A, rfl, ea⟩ := (HTS.out.keep (HB2.out.trans (hB'.out.mono HB2.out.size))) (by omega)
        obtain ⟨B, rfl, eb⟩ := (HTT.out.keep (HB2.out.trans (hB'.out.mono HB2.out.size))) (by omega)
        have g1' := ea i hin
        have g2' := eb i hin
        have hX := HSZ.out.1 i hin
        have hY := HSZ.out.2 i hin
        have HK : Hid (i = m → ss.getD i ByteArray.empty ≠ tt.getD i ByteArray.empty) := Lib.hid fun e => by subst e; exact HD.out
        have HLF := Lib.hid (HL0.out i hin hE.out)
        clear ea eb
        generalize ss.getD i ByteArray.empty = X at *
        generalize tt.getD i ByteArray.empty = Y at *
        by_cases hXY : X = Y
        · subst hXY
          have him : i < m := by
            rcases Nat.lt_or_ge i m with h | h
            · exact h
            · exact absurd rfl (HK.out (by omega))
          go_wp2_with fail
          go_region
          all_goals
            go_wp2_with fail
            go_roundw
            case rel => ((repeat apply Exists.intro); exact ⟨⟨i + 1, him, by go_num, Lib.hid hB'.out.drew⟩, rfl⟩)
            case measure => simp [intOf]; omega
        · have e1 := str_ne hXY
          have HNE := Lib.hid hXY
          clear hXY
          go_wp2_with fail
          go_region
          all_goals
            go_wp2_with fail
            go_region
            all_goals
              go_wp2_with fail
              go_ret3
              exact clash_leaf HNE.out hX hY HLF.out (HB2.out.trans (hB'.out.drew.drew.mono HB2.out.size))
    · have t1' : ((k : Int) + 1) - 1 = (k : Int) := by omega
      have t2' : (((k + 1 : Nat) : Int)) - 1 = (k : Int) := by omega
      obtain ⟨wo, rfl⟩ : ∃ wo : World, wo = wr := ⟨_, rfl⟩
      obtain ⟨ta, ua, fa, -⟩ := HV.out.1.at hB.out (d := k + 1) (by have := HN.out; rw [HQ.out]; omega)
      have hh := HXY.out.2.2.1 k (by have := HN.out; rw [HQ.out]; omega)
      have hl32 := HXY.out.2.2.2.2 k
      have hup1 := HXY.out.1 k (by have := HN.out; rw [HQ.out]; omega)
      have hup2 := HXY.out.2.1 k (by have := HN.out; rw [HY.out]; omega)
      have hsm := HXY.out.2.2.2.1 k
      have HU : Hid (Tr.up (x.getD k []) = Tr.up (y.getD k [])) := Lib.hid (by rw [← hup1, ← hup2]; exact hE.out)
      have HUP := Lib.hid (⟨hup1, hup2⟩ : x.getD (k + 1) [] = Tr.up (x.getD k []) ∧ y.getD (k + 1) [] = Tr.up (y.getD k []))
      rw [hh] at fa
      obtain ⟨n0, hn0⟩ : ∃ n0, (x.getD k []).length = n0 := ⟨_, rfl⟩
      rw [hn0] at fa hl32 hh hsm
      have HN0 := Lib.hid (⟨hn0, hsm⟩ : (x.getD k []).length = n0 ∧ n0 = (y.getD k []).length)
      have hkq : k < N := by have := HN.out; omega
      have hkq2 : k + 1 < N := by have := HN.out; omega
      clear hn0 hsm hup1 hup2 hh
      obtain ⟨n1, hn1⟩ : ∃ n1, (n0 + 1) / 2 = n1 := ⟨_, rfl⟩
      rw [hn1] at fa
      have hn1b : 2 * n1 ≤ n0 + 1 := by omega
      have HN1 := Lib.hid hn1
      clear hn1
      go_wp2_with fail
      go_loopw [67] (fun v wr => ∃ i : Nat, i ≤ n1 ∧ v = .int .i64 i ∧ Hid (∀ j, j < i → 2 * j + 1 < n0 → (x.getD k []).getD (2 * j) 0 = (y.getD k []).getD (2 * j) 0 ∧ (x.getD k []).getD (2 * j + 1) 0 = (y.getD k []).getD (2 * j + 1) 0) ∧ Hid (Below w2.heap.size w2 wr)) (fun v _ => n1 - (intOf v).toNat)
      case atStart => exact ⟨0, Nat.zero_le _, rfl, Lib.hid fun j hj => absurd hj (Nat.not_lt_zero _), hB⟩
      case round =>
        obtain ⟨i, hi, rfl, hP, hB'⟩ := hrel
        by_cases hlt : i < n1
        · obtain ⟨ta1, ua1, fa1, ea1⟩ := HV.out.1.at hB'.out (d := k) (by have := HN.out; rw [HQ.out]; omega)
          obtain ⟨tb1, ub1, fb1, eb1⟩ := HV.out.2.at hB'.out (d := k) (by have := HN.out; rw [HY.out]; omega)
          rw [HN0.out.1] at fa1 ea1
          rw [← HN0.out.2] at fb1 eb1
          have i1 : (0 : Int) ≤ 2 * (i : Int) := by omega
          have i3 : (0 : Int) ≤ 2 * (i : Int) + 1 := by omega
          have tn1 : (2 * (i : Int)).toNat = 2 * i := by omega
          have tn2 : (2 * (i : Int) + 1).toNat = 2 * i + 1 := by omega
          by_cases hin : 2 * i + 1 < n0
          · have x1 := ea1 (2 * i) (by omega)
            have x2 := ea1 (2 * i + 1) hin
            have y1 := eb1 (2 * i) (by omega)
            have y2 := eb1 (2 * i + 1) hin
            have bx := HSM.out.1 k (by have := HN.out; rw [HQ.out]; omega)
            have by' := HSM.out.2 k (by have := HN.out; rw [HY.out]; omega)
            have z1 := getD_small bx (2 * i)
            have z2 := getD_small bx (2 * i + 1)
            have z3 := getD_small by' (2 * i)
            have z4 := getD_small by' (2 * i + 1)
            have HPR : Hid (Tr.node ((x.getD k []).getD (2 * i) 0) ((x.getD k []).getD (2 * i + 1) 0) = Tr.node ((y.getD k []).getD (2 * i) 0) ((y.getD k []).getD (2 * i + 1) 0)) := Lib.hid (by
              rw [← up_pair _ _ (by rw [HN0.out.1]; exact hin), ← up_pair _ _ (by rw [← HN0.out.2]; exact hin), HU.out])
            have HEE : Hid (∀ j, j < i + 1 → 2 * j + 1 < n0 → j = i ∨ j < i) := Lib.hid fun j hj _ => by omega
            have HPI : Hid ((x.getD k []).getD (2 * i) 0 = (y.getD k []).getD (2 * i) 0 ∧ (x.getD k []).getD (2 * i + 1) 0 = (y.getD k []).getD (2 * i + 1) 0 → ∀ j, j < i + 1 → 2 * j + 1 < n0 → (x.getD k []).getD (2 * j) 0 = (y.getD k []).getD (2 * j) 0 ∧ (x.getD k []).getD (2 * j + 1) 0 = (y.getD k []).getD (2 * j + 1) 0) := Lib.hid fun h j hj hj2 => by
              rcases HEE.out j hj hj2 with rfl | h'
              · exact h
              · exact hP.out j h' hj2
            clear ea1 eb1 bx by'
            generalize (x.getD k []).getD (2 * i) 0 = p0 at *
            generalize (x.getD k []).getD (2 * i + 1) 0 = p1 at *
            generalize (y.getD k []).getD (2 * i) 0 = r0' at *
            generalize (y.getD k []).getD (2 * i + 1) 0 = r1' at *
            have i2 : 2 * (i : Int) < (n0 : Int) := by omega
            have i4 : 2 * (i : Int) + 1 < (n0 : Int) := by omega
            have hge : decide ((n0 : Int) ≤ 2 * (i : Int) + 1) = false := decide_eq_false (by omega)
            have w1' : IntKind.i64.wrap (2 * (i : Int) + 1) = 2 * (i : Int) + 1 := IntWalk.i64_in _ (by omega)
            have w2' : IntKind.i64.wrap (2 * (i : Int)) = 2 * (i : Int) := IntWalk.i64_in _ (by omega)
            have w3' : IntKind.i64.wrap (k : Int) = (k : Int) := IntWalk.i64_in _ (by omega)
            have k0 : (0 : Int) ≤ (k : Int) := by omega
            have k1' : (k : Int) < (N : Int) := by omega
            have hBs := hB'.out.size
            have HB0 := hB'.out
            clear hB' hP
            go_wp2_with fail
            go_region_held3 (fun w' => w'.cell? ⟨g1, k, none⟩ = some (.slice (some ⟨ta1, 0, none⟩) n0 ua1) ∧ w'.cell? ⟨ta1, 2 * i, none⟩ = some (.int .i64 (p0 : Int)) ∧ w'.cell? ⟨ta1, 2 * i + 1, none⟩ = some (.int .i64 (p1 : Int)) ∧ w'.cell? ⟨g2, k, none⟩ = some (.slice (some ⟨tb1, 0, none⟩) n0 ub1) ∧ w'.cell? ⟨tb1, 2 * i, none⟩ = some (.int .i64 (r0' : Int)) ∧ w'.cell? ⟨tb1, 2 * i + 1, none⟩ = some (.int .i64 (r1' : Int)) ∧ Below w2.heap.size w2 w' ∧ w2.heap.size ≤ w'.heap.size)
              (first
                | exact ⟨by assumption, by assumption, by assumption, by assumption, by assumption, by assumption, by assumption, by assumption⟩
                | exact ⟨by assumption, by assumption, by assumption, by assumption, by assumption, by assumption, Below.drew (by assumption), by assumption⟩
                | (go_split_ands; exact six_on hbs ⟨by assumption, by assumption, by assumption, by assumption, by assumption, by assumption, by assumption, by assumption⟩)
                | (go_split_ands; exact six_on hbs ⟨by assumption, by assumption, by assumption, by assumption, by assumption, by assumption, Below.drew (by assumption), by assumption⟩)
                | go_keep)
              (first | (go_at_call 29; refine (said_open _ _ _ (by omega) (by omega)).mono ?_; rintro e ws ⟨rfl, hbs⟩))
            by_cases hpq : p0 = r0' ∧ p1 = r1'
            · have e1 := sb_eq hpq
              have HPQ := Lib.hid hpq
              clear hpq
              go_wp2_with fail
              go_roundw
              case rel => ((repeat apply Exists.intro); exact ⟨⟨i + 1, hlt, by go_num, Lib.hid (HPI.out HPQ.out), Lib.hid (by first | assumption | (go_split_ands; assumption))⟩, rfl⟩)
              case measure => simp [intOf]; omega
            · have e1 := str_ne (sb_ne z1 z2 z3 z4 hpq)
              have HNE := Lib.hid (sb_ne z1 z2 z3 z4 hpq)
              clear hpq
              go_wp2_with fail
              go_ret3
              exact clash_pair HNE.out HPR.out (HB2.out.trans ((by first | assumption | (go_split_ands; assumption) : Below w2.heap.size w2 _).mono HB2.out.size))
          · have hge : decide ((n0 : Int) ≤ 2 * (i : Int) + 1) = true := decide_eq_true (by omega)
            have HPI : Hid (∀ j, j < i + 1 → 2 * j + 1 < n0 → (x.getD k []).getD (2 * j) 0 = (y.getD k []).getD (2 * j) 0 ∧ (x.getD k []).getD (2 * j + 1) 0 = (y.getD k []).getD (2 * j + 1) 0) := Lib.hid fun j hj hj2 => hP.out j (by omega) hj2
            clear ea1 eb1
            go_wp2_with fail
            go_roundw
            case rel => exact ⟨i + 1, hlt, by go_num, HPI, hB'⟩
            case measure => simp [intOf]; omega
        · have HDN : Hid (x.getD k [] = y.getD k []) := Lib.hid (down_same (by rw [HN0.out.1]; exact HN0.out.2) HU.out (fun j hj => hP.out j (by have := HN1.out; rw [HN0.out.1] at hj; omega) (by rw [HN0.out.1] at hj; exact hj)))
          go_wp2_with fail
          go_roundw
          case rel => exact ⟨k, by omega, by go_num, HDN, hB'⟩
          case measure => simp [intOf]

end Go.Proofs.Ytlimdfmnfhlcoaa
