/- ListsOwn: lists that are handed in stay as they are, and what is answered is new memory; for every input within reach. -/
import Derived.Test.YtnbdceigenndfaaLoP
namespace Go.Proofs.Ytnbdceigenndfaa
open Go.RowKit

set_option maxRecDepth 100000 in
set_option maxHeartbeats 16000000 in
theorem lists_core (a0 : Int) (x : Nat) (s : ByteArray) (A1 A2 A3 : Option Addr) (n1 c1 n2 c2 n3 c3 : Nat) (zs : List Int) (ls ks : List ByteArray) (i : Int) (w : World) (hx : x ≤ 2147483647) (hl : Ans1 8 #[.int .i64 a0, .int .i64 20] (.int .i64 x)) (hs : s.size ≤ maxLen)
    (h1 : At w A1 n1 1 (zs.map (Value.int .i64))) (l1 : zs.length = n1) (N1 : A1 = none → n1 = 0 ∧ c1 = 0) (b1 : n1 * 8 ≤ 140737488351232)
    (h2 : At w A2 n2 1 (ls.map Value.string)) (l2 : ls.length = n2) (N2 : A2 = none → n2 = 0 ∧ c2 = 0) (b2 : n2 * 16 ≤ 140737488351232)
    (h3 : At w A3 n3 1 (ks.map Value.string)) (l3 : ks.length = n3) (N3 : A3 = none → n3 = 0 ∧ c3 = 0) (b3 : n3 * 16 ≤ 140737488351232) :
    Calls Try.prog 3 #[.int .i64 a0, .string s, .slice A1 n1 c1, .slice A2 n2 c2, .slice A3 n3 c3, .int .i64 i] w fun e w' => e = .returned (.bool true) ∧ Below w.heap.size w w' := by
  have H1 := Lib.hid h1; have H2 := Lib.hid h2; have H3 := Lib.hid h3
  have L1 := Lib.hid l1; have L2 := Lib.hid l2; have L3 := Lib.hid l3
  have M1 := Lib.hid N1; have M2 := Lib.hid N2; have M3 := Lib.hid N3
  have X0 := Lib.hid hx; have S0 := Lib.hid hs
  have B1 : Hid (n1 * 8 ≤ 140737488351232) := Lib.hid b1
  have B2 : Hid (n2 * 16 ≤ 140737488351232) := Lib.hid b2
  have B3 : Hid (n3 * 16 ≤ 140737488351232) := Lib.hid b3
  have K1 : Calls Try.prog 4 #[.int .i64 4] w _ := Factors_ok 4 w (by omega) (by omega)
  clear h1 h2 h3 l1 l2 l3 N1 N2 N3 hx hs b1 b2 b3
  go_enter Try.func3, Try.ntmps3
  go_wp2_with fail
  with_reducible refine K1.mono ?_
  rintro e v1 ⟨u, l, rfl, hfin, -, ho, hb⟩
  obtain rfl := hfin.unique fin4
  obtain ⟨a, c, rfl, -⟩ := lo_shape ho
  have hal := (Below.refl v1.heap.size v1).alloc (Nat.le_refl _) (.cells #[.int .i64 2, .int .i64 2] 3)
  have HB := Lib.hid (hb.trans (hal.mono hb.size))
  have K2 : Calls Try.prog 5 #[.slice a 2 c, .slice (some ⟨v1.heap.size, 0, none⟩) 2 2] (v1.alloc (.cells #[.int .i64 2, .int .i64 2] 3)) _ := equal_iv a (some ⟨v1.heap.size, 0, none⟩) 2 c 2 [2, 2] (v1.alloc (.cells #[.int .i64 2, .int .i64 2] 3)) ((at_own ho).keep hal) (at_own (base := v1.heap.size) (T := 3) (World.ownsRow_lit v1 #[.int .i64 2, .int .i64 2] 2 (Nat.le_refl _) (by unfold maxLen; decide) rfl)) (by omega)
  clear hfin ho hb hal K1
  go_wp2_with fail
  with_reducible refine K2.mono ?_
  rintro e v2 ⟨rfl, hb⟩
  replace HB := Lib.hid (HB.out.trans (hb.mono HB.out.size))
  clear hb K2
  have K3 := roomy_i A1 n1 c1 (-7) (zs.map (Value.int .i64)) v2 (H1.out.keep HB.out).len M1.out (H1.out.keep HB.out).cells (int_oneL zs) B1.out
  go_wp2_with fail
  have Z2 : Hid (w.heap.size ≤ v2.heap.size) := Lib.hid HB.out.size
  with_reducible refine K3.mono ?_
  rintro e v3 ⟨g1, C1, hC, rfl, hg, hr, hb⟩
  have EI := Lib.hid hC
  have GI : Hid (v2.heap.size ≤ g1) := Lib.hid hg
  replace HB := Lib.hid (HB.out.trans (hb.mono HB.out.size))
  have RI := Lib.hid hr
  have O3 := Lib.hid RI.out.lt
  clear hC hg hr hb K3
  have K4 := roomy_s A2 n2 c2 ⟨#[109, 97, 114, 107]⟩ (ls.map Value.string) v3 (H2.out.keep HB.out).len M2.out (H2.out.keep HB.out).cells (str_oneL ls) B2.out
  go_wp2_with fail
  with_reducible refine K4.mono ?_
  rintro e v4 ⟨g2, C2, hC, rfl, hg, hr, hb⟩
  have EA := Lib.hid hC
  have GA : Hid (v3.heap.size ≤ g2) := Lib.hid hg
  replace HB := Lib.hid (HB.out.trans (hb.mono HB.out.size))
  replace RI := Lib.hid (RI.out.on hb)
  have RA := Lib.hid hr
  have O4 := Lib.hid RA.out.lt
  clear hC hg hr hb K4
  have K5 := roomy_s A3 n3 c3 ⟨#[109, 97, 114, 107]⟩ (ks.map Value.string) v4 (H3.out.keep HB.out).len M3.out (H3.out.keep HB.out).cells (str_oneL ks) B3.out
  go_wp2_with fail
  with_reducible refine K5.mono ?_
  rintro e v5 ⟨g3, C3, hC, rfl, hg, hr, hb⟩
  have EB := Lib.hid hC
  have GB : Hid (v4.heap.size ≤ g3) := Lib.hid hg
  replace HB := Lib.hid (HB.out.trans (hb.mono HB.out.size))
  replace RI := Lib.hid (RI.out.on hb)
  replace RA := Lib.hid (RA.out.on hb)
  have RB := Lib.hid hr
  clear hC hg hr hb K5
  have OG : Hid (w.heap.size ≤ g1 ∧ g1 < g2 ∧ g2 < g3 ∧ g3 < v5.heap.size) := Lib.hid (by have := Z2.out; have := GI.out; have := GA.out; have := GB.out; have := O3.out; have := O4.out; have := RB.out.lt; omega)
  have H : Hid (Ls w v5.heap.size [] v5) := Lib.hid ⟨HB.out, rows_nil _ _, HB.out.size, Nat.le_refl _⟩
  clear HB
  go_wp2_with fail
  with_reducible refine hl.use ?_
  rintro e w' ⟨rfl, rfl⟩
  have K6 := lo_fact x X0.out v5
  go_wp2_with fail
  with_reducible refine K6.mono ?_
  rintro e v6 ⟨fx, F1, F2, F3, ax, nx, cx, ex, rfl, ho, hb⟩
  replace H := Lib.hid (H.out.cons hb ho)
  replace RI := Lib.hid (RI.out.on hb)
  replace RA := Lib.hid (RA.out.on hb)
  replace RB := Lib.hid (RB.out.on hb)
  have FX : Hid ((x ≠ 0 → G.Fin x fx) ∧ (x = 0 → fx = []) ∧ fx.length ≤ 31) := Lib.hid ⟨F1, F2, F3⟩
  clear F1 F2 F3 ho hb K6
  have K7 := lo_ends s S0.out v6
  go_wp2_with fail
  with_reducible refine K7.mono ?_
  rintro e v7 ⟨ay, ny, cy, ey, rfl, ho, hb⟩
  replace H := Lib.hid (H.out.cons hb ho)
  replace RI := Lib.hid (RI.out.on hb)
  replace RA := Lib.hid (RA.out.on hb)
  replace RB := Lib.hid (RB.out.on hb)
  clear ho hb K7
  have JI : Hid (C1 ≤ maxLen) := Lib.hid (by have := B1.out; have := EI.out; unfold maxLen; omega)
  have K8 := lo_split s S0.out (some ⟨g1, 0, none⟩) n1 C1 zs v7 (at_own (RI.out.own (n := n1) (base := 0) (by rw [List.length_map, L1.out, Nat.mul_one]) EI.out (Nat.zero_le _) JI.out)) L1.out (by have := B1.out; omega)
  go_wp2_with fail
  with_reducible refine K8.mono ?_
  rintro e v8 ⟨tz, TZ, az, nz, cz, ez, rfl, ho, hb⟩
  replace H := Lib.hid (H.out.cons hb ho)
  replace RI := Lib.hid (RI.out.on hb)
  replace RA := Lib.hid (RA.out.on hb)
  replace RB := Lib.hid (RB.out.on hb)
  have FZ := Lib.hid TZ
  clear TZ ho hb K8
  have K9 := lo_parse s S0.out v8
  go_wp2_with fail
  with_reducible refine K9.mono ?_
  rintro e v9 ⟨aT, nT, cT, eT, rfl, ho, hb⟩
  replace H := Lib.hid (H.out.cons hb ho)
  replace RI := Lib.hid (RI.out.on hb)
  replace RA := Lib.hid (RA.out.on hb)
  replace RB := Lib.hid (RB.out.on hb)
  clear ho hb K9
  have JA : Hid (C2 ≤ maxLen) := Lib.hid (by have := B2.out; have := EA.out; unfold maxLen; omega)
  have JB : Hid (C3 ≤ maxLen) := Lib.hid (by have := B3.out; have := EB.out; unfold maxLen; omega)
  have TA : Hid (∀ V, RoomG V 9 g2 C2 (ls.map Value.string) (.string ⟨#[109, 97, 114, 107]⟩) → At V (some ⟨g2, 0, none⟩) n2 1 (ls.map Value.string)) := Lib.hid fun V h => at_own (h.own (n := n2) (base := 0) (by rw [List.length_map, L2.out, Nat.mul_one]) EA.out (Nat.zero_le _) JA.out)
  have TB : Hid (∀ V, RoomG V 9 g3 C3 (ks.map Value.string) (.string ⟨#[109, 97, 114, 107]⟩) → At V (some ⟨g3, 0, none⟩) n3 1 (ks.map Value.string)) := Lib.hid fun V h => at_own (h.own (n := n3) (base := 0) (by rw [List.length_map, L3.out, Nat.mul_one]) EB.out (Nat.zero_le _) JB.out)
  have K10 := lo_proof (some ⟨g2, 0, none⟩) n2 C2 i ls v9 (by have := B2.out; unfold maxLen; omega) (at_texts (TA.out _ RA.out))
  go_wp2_with fail
  with_reducible refine K10.mono ?_
  rintro e v10 ⟨tu, TU, au, nu, cu, eu, rfl, ho, hb⟩
  replace H := Lib.hid (H.out.cons hb ho)
  replace RI := Lib.hid (RI.out.on hb)
  replace RA := Lib.hid (RA.out.on hb)
  replace RB := Lib.hid (RB.out.on hb)
  have FU := Lib.hid TU
  clear TU ho hb K10
  have K11 := lo_compare (some ⟨g2, 0, none⟩) (some ⟨g3, 0, none⟩) n2 n3 C2 C3 ls ks v10 (by have := B2.out; unfold maxLen; omega) (by have := B3.out; unfold maxLen; omega) (at_texts (TA.out _ RA.out)) (at_texts (TB.out _ RB.out))
  go_wp2_with fail
  with_reducible refine K11.mono ?_
  rintro e v11 ⟨tv, av, nv, cv, ev1, ev2, TV, rfl, ho, hb⟩
  replace H := Lib.hid (H.out.cons hb ho)
  replace RI := Lib.hid (RI.out.on hb)
  replace RA := Lib.hid (RA.out.on hb)
  replace RB := Lib.hid (RB.out.on hb)
  have FV := Lib.hid TV
  clear TV ho hb K11
  have K12 := equal_i (some ⟨g1, 0, none⟩) A1 n1 C1 c1 zs v11 (at_own (RI.out.own (n := n1) (base := 0) (by rw [List.length_map, L1.out, Nat.mul_one]) EI.out (Nat.zero_le _) JI.out)) (H1.out.keep H.out.hb) L1.out (by have := B1.out; omega)
  go_wp2_with fail
  with_reducible refine K12.mono ?_
  rintro e v12 ⟨rfl, hb⟩
  replace H := Lib.hid (H.out.on hb)
  replace RI := Lib.hid (RI.out.on hb)
  replace RA := Lib.hid (RA.out.on hb)
  replace RB := Lib.hid (RB.out.on hb)
  clear hb K12
  have K13 := marked_i g1 C1 n1 (-7) (zs.map (Value.int .i64)) v12 RI.out (by rw [List.length_map, L1.out, Nat.mul_one]) EI.out
  go_wp2_with fail
  with_reducible refine K13.mono ?_
  rintro e v13 ⟨rfl, hb⟩
  replace H := Lib.hid (H.out.on hb)
  replace RI := Lib.hid (RI.out.on hb)
  replace RA := Lib.hid (RA.out.on hb)
  replace RB := Lib.hid (RB.out.on hb)
  clear hb K13
  have K14 := equal_s (some ⟨g2, 0, none⟩) A2 n2 C2 c2 ls v13 (TA.out _ RA.out) (H2.out.keep H.out.hb) L2.out (by have := B2.out; omega)
  go_wp2_with fail
  with_reducible refine K14.mono ?_
  rintro e v14 ⟨rfl, hb⟩
  replace H := Lib.hid (H.out.on hb)
  replace RI := Lib.hid (RI.out.on hb)
  replace RA := Lib.hid (RA.out.on hb)
  replace RB := Lib.hid (RB.out.on hb)
  clear hb K14
  have K15 := equal_s (some ⟨g3, 0, none⟩) A3 n3 C3 c3 ks v14 (TB.out _ RB.out) (H3.out.keep H.out.hb) L3.out (by have := B3.out; omega)
  go_wp2_with fail
  with_reducible refine K15.mono ?_
  rintro e v15 ⟨rfl, hb⟩
  replace H := Lib.hid (H.out.on hb)
  replace RI := Lib.hid (RI.out.on hb)
  replace RA := Lib.hid (RA.out.on hb)
  replace RB := Lib.hid (RB.out.on hb)
  clear hb K15
  have K16 := marked_s g2 C2 n2 ⟨#[109, 97, 114, 107]⟩ (ls.map Value.string) v15 RA.out (by rw [List.length_map, L2.out, Nat.mul_one]) EA.out
  go_wp2_with fail
  with_reducible refine K16.mono ?_
  rintro e v16 ⟨rfl, hb⟩
  replace H := Lib.hid (H.out.on hb)
  replace RI := Lib.hid (RI.out.on hb)
  replace RA := Lib.hid (RA.out.on hb)
  replace RB := Lib.hid (RB.out.on hb)
  clear hb K16
  have K17 := marked_s g3 C3 n3 ⟨#[109, 97, 114, 107]⟩ (ks.map Value.string) v16 RB.out (by rw [List.length_map, L3.out, Nat.mul_one]) EB.out
  go_wp2_with fail
  with_reducible refine K17.mono ?_
  rintro e v17 ⟨rfl, hb⟩
  replace H := Lib.hid (H.out.on hb)
  replace RI := Lib.hid (RI.out.on hb)
  replace RA := Lib.hid (RA.out.on hb)
  replace RB := Lib.hid (RB.out.on hb)
  clear hb K17
  have Qp := Lib.hid (H.out.get 5 rfl)
  have K18 := clone_i ax nx cx _ (iv fx) v17 Qp.out (iv_oneL _) (by have := (Qp.out).1; have : (iv fx).length = nx * 1 := this; rw [iv_length] at this; have := FX.out.2.2; omega)
  clear Qp
  go_wp2_with fail
  with_reducible refine K18.mono ?_
  rintro e v18 ⟨ap, cp, rfl, ho, hb⟩
  replace H := Lib.hid (H.out.cons hb ho)
  replace RI := Lib.hid (RI.out.on hb)
  replace RA := Lib.hid (RA.out.on hb)
  replace RB := Lib.hid (RB.out.on hb)
  clear ho hb K18
  have Qq := Lib.hid (H.out.get 5 rfl)
  have K19 := clone_i ay ny cy _ (iv (endsL s)) v18 Qq.out (iv_oneL _) (by have := (Qq.out).1; have : (iv (endsL s)).length = ny * 1 := this; rw [iv_length] at this; have := ends_few s; omega)
  clear Qq
  go_wp2_with fail
  with_reducible refine K19.mono ?_
  rintro e v19 ⟨aq, cq, rfl, ho, hb⟩
  replace H := Lib.hid (H.out.cons hb ho)
  replace RI := Lib.hid (RI.out.on hb)
  replace RA := Lib.hid (RA.out.on hb)
  replace RB := Lib.hid (RB.out.on hb)
  clear ho hb K19
  have Qr := Lib.hid (H.out.get 5 rfl)
  have K20 := clone_s az nz cz _ (tz.map Value.string) v19 Qr.out (str_oneL _) (by have := (Qr.out).1; have : (tz.map Value.string).length = nz * 1 := this; rw [List.length_map] at this; have := FZ.out; omega)
  clear Qr
  go_wp2_with fail
  with_reducible refine K20.mono ?_
  rintro e v20 ⟨ar, cr, rfl, ho, hb⟩
  replace H := Lib.hid (H.out.cons hb ho)
  replace RI := Lib.hid (RI.out.on hb)
  replace RA := Lib.hid (RA.out.on hb)
  replace RB := Lib.hid (RB.out.on hb)
  clear ho hb K20
  have Qo := Lib.hid (H.out.get 5 rfl)
  have K21 := clone_k aT nT cT _ (kv (parseL s)) v20 Qo.out (kv_oneL _) (by have := (Qo.out).1; have : (kv (parseL s)).length = nT * 3 := this; rw [kv_length] at this; have := parse_few s; omega)
  clear Qo
  go_wp2_with fail
  with_reducible refine K21.mono ?_
  rintro e v21 ⟨ao, co, rfl, ho, hb⟩
  replace H := Lib.hid (H.out.cons hb ho)
  replace RI := Lib.hid (RI.out.on hb)
  replace RA := Lib.hid (RA.out.on hb)
  replace RB := Lib.hid (RB.out.on hb)
  clear ho hb K21
  have Qd := Lib.hid (H.out.get 5 rfl)
  have K22 := clone_t au nu cu _ (stv tu) v21 Qd.out (stv_oneL _) (by have := (Qd.out).1; have : (stv tu).length = nu * 2 := this; rw [stv_length] at this; have := FU.out; omega)
  clear Qd
  go_wp2_with fail
  with_reducible refine K22.mono ?_
  rintro e v22 ⟨ad, cd, rfl, ho, hb⟩
  replace H := Lib.hid (H.out.cons hb ho)
  replace RI := Lib.hid (RI.out.on hb)
  replace RA := Lib.hid (RA.out.on hb)
  replace RB := Lib.hid (RB.out.on hb)
  clear ho hb K22
  have Qf := Lib.hid (H.out.get 5 rfl)
  have K23 := clone_i av nv cv _ (iv tv) v22 Qf.out (iv_oneL _) (by have := (Qf.out).1; have : (iv tv).length = nv * 1 := this; rw [iv_length] at this; have := FV.out; omega)
  clear Qf
  go_wp2_with fail
  with_reducible refine K23.mono ?_
  rintro e v23 ⟨af, cf, rfl, ho, hb⟩
  replace H := Lib.hid (H.out.cons hb ho)
  replace RI := Lib.hid (RI.out.on hb)
  replace RA := Lib.hid (RA.out.on hb)
  replace RB := Lib.hid (RB.out.on hb)
  clear ho hb K23
  have K24 := spoil_i (some ⟨g1, 0, none⟩) n1 C1 0 0 _ v23 (RI.out.own (n := n1) (base := 0) (by rw [List.length_map, L1.out, Nat.mul_one]) EI.out (Nat.zero_le _) JI.out) (by have := JI.out; unfold maxLen at this; exact this)
  go_wp2_with fail
  with_reducible refine K24.mono ?_
  rintro e v24 ⟨rfl, hg⟩
  replace H := Lib.hid (H.out.other (j := g1) hg (by have := OG.out; omega) (by have := OG.out; omega))
  replace RA := Lib.hid (RA.out.grown hg (fun e => by have q : g1 = g2 := Option.some.inj e; have := OG.out; omega))
  replace RB := Lib.hid (RB.out.grown hg (fun e => by have q : g1 = g3 := Option.some.inj e; have := OG.out; omega))
  clear hg K24 RI
  have K25 := spoil_s (some ⟨g2, 0, none⟩) n2 C2 0 ⟨#[120]⟩ _ v24 (RA.out.own (n := n2) (base := 0) (by rw [List.length_map, L2.out, Nat.mul_one]) EA.out (Nat.zero_le _) JA.out) (by have := JA.out; unfold maxLen at this; exact this)
  go_wp2_with fail
  with_reducible refine K25.mono ?_
  rintro e v25 ⟨rfl, hg⟩
  replace H := Lib.hid (H.out.other (j := g2) hg (by have := OG.out; omega) (by have := OG.out; omega))
  replace RB := Lib.hid (RB.out.grown hg (fun e => by have q : g2 = g3 := Option.some.inj e; have := OG.out; omega))
  clear hg K25 RA
  have K26 := spoil_s (some ⟨g3, 0, none⟩) n3 C3 0 ⟨#[121]⟩ _ v25 (RB.out.own (n := n3) (base := 0) (by rw [List.length_map, L3.out, Nat.mul_one]) EB.out (Nat.zero_le _) JB.out) (by have := JB.out; unfold maxLen at this; exact this)
  go_wp2_with fail
  with_reducible refine K26.mono ?_
  rintro e v26 ⟨rfl, hg⟩
  replace H := Lib.hid (H.out.other (j := g3) hg (by have := OG.out; omega) (by have := OG.out; omega))
  clear hg K26 RB
  clear TA TB
  have K27 := equal_iv ax ap nx cx cp fx v26 (at_own (H.out.get 11 rfl)) (at_own (H.out.get 5 rfl)) (H.out.small 11 rfl).1
  go_wp2_with fail
  with_reducible refine K27.mono ?_
  rintro e v27 ⟨rfl, hb⟩
  replace H := Lib.hid (H.out.on hb)
  clear hb K27
  have K28 := equal_iv ay aq ny cy cq (endsL s) v27 (at_own (H.out.get 10 rfl)) (at_own (H.out.get 4 rfl)) (H.out.small 10 rfl).1
  go_wp2_with fail
  with_reducible refine K28.mono ?_
  rintro e v28 ⟨rfl, hb⟩
  replace H := Lib.hid (H.out.on hb)
  clear hb K28
  have K29 := equal_s az ar nz cz cr tz v28 (at_own (H.out.get 9 rfl)) (at_own (H.out.get 3 rfl)) (by have := (H.out.get 9 rfl).1; have : (tz.map Value.string).length = nz * 1 := this; rw [List.length_map] at this; omega) (H.out.small 9 rfl).1
  go_wp2_with fail
  with_reducible refine K29.mono ?_
  rintro e v29 ⟨rfl, hb⟩
  replace H := Lib.hid (H.out.on hb)
  clear hb K29
  have K30 := equal_k aT ao nT cT co (parseL s) v29 (at_own (H.out.get 8 rfl)) (at_own (H.out.get 2 rfl)) (by have := (H.out.get 8 rfl).1; have : (kv (parseL s)).length = nT * 3 := this; rw [kv_length] at this; omega) (H.out.small 8 rfl).1
  go_wp2_with fail
  with_reducible refine K30.mono ?_
  rintro e v30 ⟨rfl, hb⟩
  replace H := Lib.hid (H.out.on hb)
  clear hb K30
  have K31 := equal_t au ad nu cu cd tu v30 (at_own (H.out.get 7 rfl)) (at_own (H.out.get 1 rfl)) (by have := (H.out.get 7 rfl).1; have : (stv tu).length = nu * 2 := this; rw [stv_length] at this; omega) (H.out.small 7 rfl).1
  go_wp2_with fail
  with_reducible refine K31.mono ?_
  rintro e v31 ⟨rfl, hb⟩
  replace H := Lib.hid (H.out.on hb)
  clear hb K31
  have K32 := equal_iv av af nv cv cf tv v31 (at_own (H.out.get 6 rfl)) (at_own (H.out.get 0 rfl)) (H.out.small 6 rfl).1
  go_wp2_with fail
  with_reducible refine K32.mono ?_
  rintro e v32 ⟨rfl, hb⟩
  replace H := Lib.hid (H.out.on hb)
  clear hb K32
  have K33 := spoil_i ax nx cx _ 1 _ v32 (H.out.get 11 rfl) (H.out.small 11 rfl).2
  go_wp2_with fail
  with_reducible refine K33.mono ?_
  rintro e v33 ⟨rfl, hg⟩
  replace H := Lib.hid (H.out.spoil 11 rfl rfl hg)
  clear hg K33
  have K34 := spoil_i ay ny cy _ 1 _ v33 (H.out.get 10 rfl) (H.out.small 10 rfl).2
  go_wp2_with fail
  with_reducible refine K34.mono ?_
  rintro e v34 ⟨rfl, hg⟩
  replace H := Lib.hid (H.out.spoil 10 rfl rfl hg)
  clear hg K34
  have K35 := spoil_s az nz cz _ ⟨#[]⟩ _ v34 (H.out.get 9 rfl) (H.out.small 9 rfl).2
  go_wp2_with fail
  with_reducible refine K35.mono ?_
  rintro e v35 ⟨rfl, hg⟩
  replace H := Lib.hid (H.out.spoil 9 rfl rfl hg)
  clear hg K35
  have K36 := spoil_k aT nT cT _ 0 0 1 _ v35 (H.out.get 8 rfl) (H.out.small 8 rfl).2
  go_wp2_with fail
  with_reducible refine K36.mono ?_
  rintro e v36 ⟨rfl, hg⟩
  replace H := Lib.hid (H.out.spoil 8 rfl rfl hg)
  clear hg K36
  have K37 := spoil_t au nu cu _ false 1 _ v36 (H.out.get 7 rfl) (H.out.small 7 rfl).2
  go_wp2_with fail
  with_reducible refine K37.mono ?_
  rintro e v37 ⟨rfl, hg⟩
  replace H := Lib.hid (H.out.spoil 7 rfl rfl hg)
  clear hg K37
  have K38 := spoil_i av nv cv _ 1 _ v37 (H.out.get 6 rfl) (H.out.small 6 rfl).2
  go_wp2_with fail
  with_reducible refine K38.mono ?_
  rintro e v38 ⟨rfl, hg⟩
  replace H := Lib.hid (H.out.spoil 6 rfl rfl hg)
  clear hg K38
  go_wp2_with fail
  with_reducible refine hl.use ?_
  rintro e w' ⟨rfl, rfl⟩
  have KA := lo_fact x X0.out v38
  go_wp2_with fail
  with_reducible refine KA.mono ?_
  rintro e v39 ⟨fw, F1, F2, -, aw, nw, cw, ew, rfl, ho, hb⟩
  obtain rfl : fw = fx := by
    by_cases h0 : x = 0
    · rw [F2 h0, FX.out.2.1 h0]
    · exact (F1 h0).unique (FX.out.1 h0)
  replace H := Lib.hid (H.out.cons hb ho)
  clear F1 F2 FX ho hb KA
  have KB := lo_ends s S0.out v39
  go_wp2_with fail
  with_reducible refine KB.mono ?_
  rintro e v40 ⟨am, nm, cm, em, rfl, ho, hb⟩
  replace H := Lib.hid (H.out.cons hb ho)
  clear ho hb KB
  obtain rfl : nw = nx := by
    have q1 : (iv fw).length = nw * 1 := (H.out.get 1 rfl).1
    have q2 : (iv fw).length = nx * 1 := (H.out.get 7 rfl).1
    omega
  obtain rfl : nm = ny := by
    have q1 : (iv (endsL s)).length = nm * 1 := (H.out.get 0 rfl).1
    have q2 : (iv (endsL s)).length = ny * 1 := (H.out.get 6 rfl).1
    omega
  have K39 := equal_iv aw ap nw cw cp fw v40 (at_own (H.out.get 1 rfl)) (at_own (H.out.get 7 rfl)) (H.out.small 1 rfl).1
  go_wp2_with fail
  with_reducible refine K39.mono ?_
  rintro e v41 ⟨rfl, hb⟩
  replace H := Lib.hid (H.out.on hb)
  clear hb K39
  have K40 := equal_iv am aq nm cm cq (endsL s) v41 (at_own (H.out.get 0 rfl)) (at_own (H.out.get 6 rfl)) (H.out.small 0 rfl).1
  go_wp2_with fail
  with_reducible refine K40.mono ?_
  rintro e v42 ⟨rfl, hb⟩
  replace H := Lib.hid (H.out.on hb)
  clear hb K40
  go_wp2_with fail
  go_ret
  exact ⟨rfl, H.out.hb⟩

theorem listsOwn_walk (a0 : Int) (a1 : ByteArray) (a2 : Option Addr) (len2 cap2 : Nat) (z2 : List Int) (a3 : Option Addr) (len3 cap3 : Nat) (s3 : List ByteArray) (a4 : Option Addr) (len4 cap4 : Nat) (s4 : List ByteArray) (a5 : Int) (w : World) (_ : (Lit.int .i64 a0).wf = true) (w1 : a1.size ≤ 140737488351232) (w2 : IsRowI w a2 len2 cap2 z2) (r2 : len2 * 8 ≤ 140737488351232) (w3 : IsRowS w a3 len3 cap3 s3) (r3 : len3 * 16 ≤ 140737488351232) (w4 : IsRowS w a4 len4 cap4 s4) (r4 : len4 * 16 ≤ 140737488351232) (_ : (Lit.int .i64 a5).wf = true) :
    Calls Try.prog 3 #[.int .i64 a0, .string a1, .slice a2 len2 cap2, .slice a3 len3 cap3, .slice a4 len4 cap4, .int .i64 a5] w fun e w' => e = .returned (.bool true) ∧ Below w.heap.size w w' := by
  have hw : wi a0 (2 ^ 20) < 2 ^ 20 := wi_lt a0 _ (by decide)
  obtain ⟨p1, p2, -, p4⟩ := at_ints w2
  obtain ⟨q1, q2, -, q4⟩ := at_strs w3
  obtain ⟨t1, t2, -, t4⟩ := at_strs w4
  exact lists_core a0 _ a1 a2 a3 a4 len2 cap2 len3 cap3 len4 cap4 _ _ _ a5 w (by omega) (less_is (n := 20) rfl (by omega) rfl) (by unfold maxLen; omega) p1 p2 p4 r2 q1 q2 q4 r3 t1 t2 t4 r4

end Go.Proofs.Ytnbdceigenndfaa
