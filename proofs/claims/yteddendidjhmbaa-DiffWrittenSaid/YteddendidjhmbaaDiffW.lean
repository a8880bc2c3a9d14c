import Derived.Test.YteddendidjhmbaaTxW
import Derived.Deep.AppendLies
import Derived.Test.YteddendidjhmbaaVolTwP
/- diff.Diff on a right state: the places at which two volumes differ. -/
namespace Go.Proofs.Yteddendidjhmbaa
open Go.RowKit

theorem df_infoInt : (Try.prog.info? 3).map (fun i => (i.zero, i.size, i.bytes)) = some (some (.int .i64 0), 1, 8) := by kernel_rfl

/-- The first k places at which two rows differ. -/
def Vo.dN (xs ys : List Bg.Id) (k : Nat) : List Nat := (List.range k).filter fun i => !Vo.idEq (xs.getD i Bg.noId) (ys.getD i Bg.noId)
theorem dN_succ (xs ys : List Bg.Id) (k : Nat) : Vo.dN xs ys (k + 1) = Vo.dN xs ys k ++ if Vo.idEq (xs.getD k Bg.noId) (ys.getD k Bg.noId) = true then [] else [k] := by
  unfold Vo.dN
  rw [List.range_succ, List.filter_append]
  congr 1
  cases h : Vo.idEq (xs.getD k Bg.noId) (ys.getD k Bg.noId) with
  | true => rw [if_pos rfl, List.filter_cons_of_neg (by rw [h]; decide), List.filter_nil]
  | false => rw [if_neg (by decide), List.filter_cons_of_pos (by rw [h]; rfl), List.filter_nil]
theorem dN_length (xs ys : List Bg.Id) (k : Nat) : (Vo.dN xs ys k).length ≤ k := by
  have := List.length_filter_le (fun i => !Vo.idEq (xs.getD i Bg.noId) (ys.getD i Bg.noId)) (List.range k)
  rwa [List.length_range] at this

/-- What diff.Diff answers. -/
def Vo.diffR (s : Vo.St) (n1 n2 : ByteArray) : List Nat × Nat :=
  if (Vo.blocksR s n1).2 ≠ 0 then ([], (Vo.blocksR s n1).2) else if (Vo.blocksR s n2).2 ≠ 0 then ([], (Vo.blocksR s n2).2)
  else if (Vo.blocksR s n1).1.length ≠ (Vo.blocksR s n2).1.length then ([], 11) else (Vo.dN (Vo.blocksR s n1).1 (Vo.blocksR s n2).1 (Vo.blocksR s n1).1.length, 0)

/-- What is told of some places and a code. -/
def NatsTo (w : World) (R : List Nat × Nat) (e : Ending) (w' : World) : Prop :=
  ∃ a n c, e = .returned (.tuple #[.slice a n c, .int .i64 R.2]) ∧ w'.ownsRow w.heap.size 3 1 (.slice a n c) n (iv R.1) ∧ R.1.length = n ∧ Below w.heap.size w w'

set_option maxRecDepth 100000 in
set_option maxHeartbeats 8000000 in
theorem Diff_V (a b : Option Addr) (n c m d base : Nat) (rs : List Rw) (s : Vo.St) (nm1 nm2 : ByteArray) (w : World) (hS : StW w base a n c b m d rs s) (hR : Vo.Right s) :
    Calls Try.prog 47 #[.agg #[.slice a n c, .slice b m d], .string nm1, .string nm2] w (NatsTo w (Vo.diffR s nm1 nm2)) := by
  obtain ⟨i0, hi, hz0, hz1, hz2⟩ := info_parts df_infoInt
  have hB : Below w.heap.size w (w.alloc (.cells #[.slice a n c, .slice b m d] 52)) := (Below.refl _ w).alloc (Nat.le_refl _) _
  have HX := Lib.hid (bxs_new w 52 #[.slice a n c, .slice b m d] [.slice a n c, .slice b m d] rfl)
  have HS := Lib.hid (hS.keep hB); have HB := Lib.hid hB; have HR := Lib.hid hR
  have L1 := blocks_small hR nm1
  have L2 := blocks_small hR nm2
  have K1 := Blocks_V a b n c m d base rs s nm1 _ HS.out hR
  obtain ⟨R, hQ⟩ : ∃ R, Vo.diffR s nm1 nm2 = R := ⟨_, rfl⟩
  rw [hQ]
  unfold Vo.diffR at hQ
  obtain ⟨R1, h1⟩ : ∃ R, Vo.blocksR s nm1 = R := ⟨_, rfl⟩
  obtain ⟨R2, h2⟩ : ∃ R, Vo.blocksR s nm2 = R := ⟨_, rfl⟩
  rw [h1] at K1 L1 hQ
  rw [h2] at L2 hQ
  have H2 := Lib.hid h2
  obtain ⟨xs, e1⟩ := R1
  obtain ⟨ys, e2⟩ := R2
  dsimp only at L1 L2 hQ
  have HQ := Lib.hid hQ
  clear hB hS hR h1 h2 hQ
  have c0 := HX.out.c 0 _ rfl; have c1 := HX.out.c 1 _ rfl
  go_enter Try.func47, Try.ntmps47
  go_wp2_with fail
  with_reducible refine K1.mono ?_
  rintro e w1 ⟨a1, p1, q1, rfl, o1, l1, hb1⟩
  dsimp only at o1 l1
  have HB1 := Lib.hid (HB.out.trans (hb1.mono HB.out.size))
  have HX1 := Lib.hid (HX.out.on hb1)
  have HS1 := Lib.hid (HS.out.keep hb1)
  have HO1 := Lib.hid o1
  obtain rfl : xs.length = p1 := l1
  clear c0 c1 o1 hb1 K1
  by_cases h1 : e1 = 0
  · subst h1
    have HQ := Lib.hid (HQ.out)
    have c0 := HX1.out.c 0 _ rfl; have c1 := HX1.out.c 1 _ rfl
    have K2 := Blocks_V a b n c m d base rs s nm2 _ HS1.out HR.out
    rw [H2.out] at K2
    go_wp2_with fail
    with_reducible refine K2.mono ?_
    rintro e w2 ⟨a2, p2, q2, rfl, o2, l2, hb2⟩
    dsimp only at o2 l2
    have HB2 := Lib.hid (HB1.out.trans (hb2.mono HB1.out.size))
    have HO1 := Lib.hid (own_keep HO1.out hb2)
    have HO2 := Lib.hid o2
    obtain rfl : ys.length = p2 := l2
    clear c0 c1 o2 hb2 K2
    by_cases h2 : e2 = 0
    · subst h2
      by_cases h3 : xs.length = ys.length
      · have HQ3 : Hid ((Vo.dN xs ys xs.length, 0) = R) := Lib.hid (by
          have := HQ.out
          rwa [if_neg (by decide), if_neg (by decide), if_neg (fun h => h h3)] at this)
        clear HQ
        have HY : Hid (xs.length = ys.length) := Lib.hid h3
        obtain ⟨N, hN⟩ : ∃ N, xs.length = N := ⟨_, rfl⟩
        have hM : ys.length = N := by omega
        rw [hN] at HO1 L1 HQ3
        rw [hM] at HO2
        rw [hN, hM]
        have HN := Lib.hid hN; have HM := Lib.hid hM
        clear h3 L2 HY hN hM
        go_wp2_with fail
        go_loopw [11, 38] (fun v x wr => ∃ (k : Nat) (a5 : Option Addr) (n5 c5 : Nat) (L : List Nat), k ≤ N ∧ x = .int .i64 k ∧ v = .slice a5 n5 c5 ∧ Hid (wr.ownsRow w2.heap.size 3 1 (.slice a5 n5 c5) n5 (iv L)) ∧ Hid (L = Vo.dN xs ys k) ∧ Hid (Below w2.heap.size w2 wr)) (fun _ x _ => N - (intOf x).toNat)
        case atStart => exact ⟨0, none, 0, 0, [], Nat.zero_le _, rfl, rfl, Lib.hid (World.ownsRow_nil _ _ _ _), Lib.hid rfl, Lib.hid (Below.refl _ _)⟩
        case round =>
          obtain ⟨k, a5, n5, c5, L, hk, rfl, rfl, OW, EQ, BW⟩ := hrel
          by_cases hlt : k < N
          · have hx : k < xs.length := by rw [HN.out]; exact hlt
            have hy : k < ys.length := by rw [HM.out]; exact hlt
            obtain ⟨g1, rfl, hg1, -, q0, q1, q2⟩ := dv_at (own_keep HO1.out BW.out) hx
            obtain ⟨g2, rfl, hg2, -, r0, r1, r2⟩ := dv_at (own_keep HO2.out BW.out) hy
            have HD : Hid (Vo.dN xs ys (k + 1) = Vo.dN xs ys k ++ if Vo.idEq xs[k] ys[k] = true then [] else [k]) := Lib.hid (by
              rw [dN_succ, List.getD_eq_getElem?_getD, List.getElem?_eq_getElem hx, List.getD_eq_getElem?_getD, List.getElem?_eq_getElem hy]
              rfl)
            have hn5 : n5 ≤ 64 := by have h1 := OW.out.1; have h2 := dN_length xs ys k; unfold iv at h1; rw [List.length_map, EQ.out] at h1; omega
            generalize xs[k] = z1 at *
            generalize ys[k] = z2 at *
            obtain ⟨b1, b2, b3⟩ := z1
            obtain ⟨d1, d2, d3⟩ := z2
            dsimp only at q0 q1 q2 r0 r1 r2
            have hwr := BW.out.size
            by_cases hne : (⟨b1, b2, b3⟩ : Bg.Id) = ⟨d1, d2, d3⟩
            · injection hne with e1 e2 e3
              subst e1; subst e2; subst e3
              have HD2 : Hid (Vo.dN xs ys (k + 1) = Vo.dN xs ys k) := Lib.hid (by rw [HD.out, if_pos (Vo.idEq_iff.2 rfl), List.append_nil])
              clear HD
              go_wp2_with fail
              go_region
              all_goals
                go_wp2_with fail
                go_roundw
                case rel => exact ⟨k + 1, a5, n5, c5, L, hlt, by go_num, rfl, Lib.hid (own_keep OW.out (Below.refl _ _).drew), Lib.hid (by rw [HD2.out]; exact EQ.out), Lib.hid (BW.out.drew)⟩
                case measure => simp [intOf]; omega
            · have HD2 : Hid (Vo.dN xs ys (k + 1) = Vo.dN xs ys k ++ [k]) := Lib.hid (by rw [HD.out, if_neg (fun h => hne (Vo.idEq_iff.1 h))])
              clear HD
              have hb1 : n5 + 1 ≤ maxLen := by unfold maxLen; omega
              have hb22 : (n5 + 1) * 8 ≤ 140737488355328 := by omega
              have hb3 : w2.heap.size ≤ (wr.drew.alloc (.cells #[.int .i64 k] 3)).heap.size := by rw [World.size_alloc]; exact Nat.le_succ_of_le hwr
              have H2 : Hid ((wr.drew.alloc (.cells #[.int .i64 k] 3)).ownsRow w2.heap.size 3 1 (.slice a5 n5 c5) n5 (iv L)) := Lib.hid ((own_keep OW.out (Below.refl _ _).drew).alloc _)
              have H3 : Hid (∀ j x, [Value.int .i64 (k : Int)][j]? = some x → (wr.drew.alloc (.cells #[.int .i64 k] 3)).cell? ((⟨wr.heap.size, 0, none⟩ : Addr).add j) = some x) := Lib.hid fun j x h => cell_one_new wr.drew (.int .i64 k) 3 j x h
              have H4 : Hid (∀ x ∈ [Value.int .i64 (k : Int)], x.oneCell' = true) := Lib.hid (by intro x hx; simp at hx; subst hx; rfl)
              have hbase := Lib.hid (row_base OW.out)
              by_cases x1 : b1 = d1
              · subst x1
                by_cases x2 : b2 = d2
                · subst x2
                  have x3 : ¬ b3 = d3 := fun h => hne (by rw [h])
                  go_wp2_with fail
                  go_region
                  all_goals
                    go_wp2_with (at_builtin; refine wpList_append_lies _ rfl _ _ _ rfl w2.heap.size 3 i0 (.int .i64 0) 1 8 Try.underlying78 hi hz0 hz1 hz2 rfl (by decide) (.slice a5 n5 c5) n5 _ rfl H2.out ⟨wr.heap.size, 0, none⟩ 1 1 [.int .i64 k] rfl rfl H3.out H4.out (by decide) hb1 hb22 hb3 _ rfl ?_)
                    intro g' cap' wq p1 p2 p3 p4
                    have BQ : Hid (Below w2.heap.size w2 wq) := Lib.hid ((BW.out.drew.alloc hwr _).grown p2 hb3 (fun k e => by have := hbase.out k e; omega))
                    have OQ : Hid (wq.ownsRow w2.heap.size 3 1 (.slice (some ⟨g', 0, none⟩) (n5 + 1) cap') (n5 + 1) (iv (L ++ [k]))) := Lib.hid (by rw [iv_snoc]; exact p1)
                    clear p1 p2 p3 p4
                    go_wp2_with fail
                    go_roundw
                    case rel => exact ⟨k + 1, _, _, _, L ++ [k], hlt, by go_num, rfl, OQ, Lib.hid (by rw [HD2.out, EQ.out]), BQ⟩
                    case measure => simp [intOf]; omega
                · clear hne
                  go_wp2_with fail
                  go_region
                  all_goals
                    go_wp2_with (at_builtin; refine wpList_append_lies _ rfl _ _ _ rfl w2.heap.size 3 i0 (.int .i64 0) 1 8 Try.underlying78 hi hz0 hz1 hz2 rfl (by decide) (.slice a5 n5 c5) n5 _ rfl H2.out ⟨wr.heap.size, 0, none⟩ 1 1 [.int .i64 k] rfl rfl H3.out H4.out (by decide) hb1 hb22 hb3 _ rfl ?_)
                    intro g' cap' wq p1 p2 p3 p4
                    have BQ : Hid (Below w2.heap.size w2 wq) := Lib.hid ((BW.out.drew.alloc hwr _).grown p2 hb3 (fun k e => by have := hbase.out k e; omega))
                    have OQ : Hid (wq.ownsRow w2.heap.size 3 1 (.slice (some ⟨g', 0, none⟩) (n5 + 1) cap') (n5 + 1) (iv (L ++ [k]))) := Lib.hid (by rw [iv_snoc]; exact p1)
                    clear p1 p2 p3 p4
                    go_wp2_with fail
                    go_roundw
                    case rel => exact ⟨k + 1, _, _, _, L ++ [k], hlt, by go_num, rfl, OQ, Lib.hid (by rw [HD2.out, EQ.out]), BQ⟩
                    case measure => simp [intOf]; omega
              · clear hne
                cases b1 <;> cases d1 <;> first | exact absurd rfl x1 | skip
                all_goals
                  go_wp2_with fail
                  go_region
                  all_goals
                    go_wp2_with (at_builtin; refine wpList_append_lies _ rfl _ _ _ rfl w2.heap.size 3 i0 (.int .i64 0) 1 8 Try.underlying78 hi hz0 hz1 hz2 rfl (by decide) (.slice a5 n5 c5) n5 _ rfl H2.out ⟨wr.heap.size, 0, none⟩ 1 1 [.int .i64 k] rfl rfl H3.out H4.out (by decide) hb1 hb22 hb3 _ rfl ?_)
                    intro g' cap' wq p1 p2 p3 p4
                    have BQ : Hid (Below w2.heap.size w2 wq) := Lib.hid ((BW.out.drew.alloc hwr _).grown p2 hb3 (fun k e => by have := hbase.out k e; omega))
                    have OQ : Hid (wq.ownsRow w2.heap.size 3 1 (.slice (some ⟨g', 0, none⟩) (n5 + 1) cap') (n5 + 1) (iv (L ++ [k]))) := Lib.hid (by rw [iv_snoc]; exact p1)
                    clear p1 p2 p3 p4
                    go_wp2_with fail
                    go_roundw
                    case rel => exact ⟨k + 1, _, _, _, L ++ [k], hlt, by go_num, rfl, OQ, Lib.hid (by rw [HD2.out, EQ.out]), BQ⟩
                    case measure => simp [intOf]; omega
          · obtain rfl : k = N := by omega
            go_wp2_with fail
            go_ret2
            have hL : L.length = n5 := by have h1 := OW.out.1; unfold iv at h1; rw [List.length_map] at h1; omega
            rw [← HQ3.out]
            refine ⟨a5, n5, c5, rfl, ?_, ?_, HB2.out.trans (BW.out.mono HB2.out.size)⟩
            · rw [← EQ.out]; exact own_low OW.out HB2.out.size
            · rw [← EQ.out]; exact hL
      · have hb : ((xs.length : Int) != ys.length) = true := bne_iff_ne.2 (by omega)
        have HQ3 : Hid (([], 11) = R) := Lib.hid (by
          have := HQ.out
          rwa [if_neg (by decide), if_neg (by decide), if_pos h3] at this)
        clear HQ
        go_wp2_with fail
        go_ret2
        rw [← HQ3.out]
        exact ⟨none, 0, 0, rfl, World.ownsRow_nil _ _ _ _, rfl, HB2.out⟩
    · have hb : ((e2 : Int) != 0) = true := bne_iff_ne.2 (by omega)
      have HQ3 : Hid (([], e2) = R) := Lib.hid (by
        have := HQ.out
        rwa [if_neg (by decide), if_pos h2] at this)
      clear HQ
      go_wp2_with fail
      go_ret2
      rw [← HQ3.out]
      exact ⟨none, 0, 0, rfl, World.ownsRow_nil _ _ _ _, rfl, HB2.out⟩
  · have hb : ((e1 : Int) != 0) = true := bne_iff_ne.2 (by omega)
    have HQ3 : Hid (([], e1) = R) := Lib.hid (by
      have := HQ.out
      rwa [if_pos h1] at this)
    clear HQ
    go_wp2_with fail
    go_ret2
    rw [← HQ3.out]
    exact ⟨none, 0, 0, rfl, World.ownsRow_nil _ _ _ _, rfl, HB1.out⟩

end Go.Proofs.Yteddendidjhmbaa

/- What diff.Diff answers, plain: symmetric, empty for one volume, and never less than a way round; rows of numbers. -/
namespace Go.Proofs.Yteddendidjhmbaa
open Go.RowKit

theorem int_cells {w : World} {base n c : Nat} {a : Option Addr} {xs : List Nat} (h : w.ownsRow base 3 1 (.slice a n c) n (iv xs)) : xs.length = n ∧ (0 < n → ∃ g, a = some ⟨g, 0, none⟩ ∧ ∀ j, j < (xs.map fun (j : Nat) => (j : Int)).length → w.cell? ⟨g, 0 + j, none⟩ = some (.int .i64 ((xs.map fun (j : Nat) => (j : Int)).getD j 0))) := by
  have hl : xs.length = n := by have := h.1; unfold iv at this; rw [List.length_map] at this; omega
  refine ⟨hl, fun hn => ?_⟩
  obtain ⟨g, cap, hv, -, -⟩ := h.form hn
  cases hv
  refine ⟨g, rfl, fun j hj => ?_⟩
  rw [List.length_map] at hj
  have hc := h.cellAt j (by omega)
  unfold iv at hc
  rw [Nat.zero_add, hc, List.getElem?_map, List.getElem?_eq_getElem hj, List.getD_eq_getElem?_getD, List.getElem?_map, List.getElem?_eq_getElem hj]
  rfl

theorem Contains_N (a : Option Addr) (n c base : Nat) (xs : List Nat) (x : Nat) (w : World) (h1 : w.ownsRow base 3 1 (.slice a n c) n (iv xs)) (hn : n ≤ 1000) :
    Calls Try.prog 48 #[.slice a n c, .int .i64 x] w fun e w' => e = .returned (.bool (decide (x ∈ xs))) ∧ w' = w := by
  obtain ⟨l1, k1⟩ := int_cells h1
  by_cases h0 : n = 0
  · have e1 : xs = [] := List.eq_nil_of_length_eq_zero (by omega)
    subst h0; subst e1
    exact Try.slices_Contains_int_empty a c x w
  · obtain ⟨g1, rfl, q1⟩ := k1 (by omega)
    have h := Try.slices_Contains_int g1 0 n c (xs.map fun (j : Nat) => (j : Int)) x w (by rw [List.length_map]; omega) (by omega) q1
    rw [List.take_of_length_le (by rw [List.length_map]; omega)] at h
    have e : (xs.map fun (j : Nat) => (j : Int)).contains (x : Int) = decide (x ∈ xs) := by
      rw [Bool.eq_iff_iff, List.contains_iff_mem, decide_eq_true_eq, List.mem_map]
      constructor
      · rintro ⟨y, hy, e⟩
        have : y = x := by omega
        rw [← this]; exact hy
      · exact fun h => ⟨x, h, rfl⟩
    rw [e] at h
    exact h

theorem Equal_NT (a1 a2 : Option Addr) (n c1 m c2 base1 base2 : Nat) (xs ys : List Nat) (w : World) (h1 : w.ownsRow base1 3 1 (.slice a1 n c1) n (iv xs)) (h2 : w.ownsRow base2 3 1 (.slice a2 m c2) m (iv ys)) (hn : n ≤ 1000) (hxy : xs = ys) :
    Calls Try.prog 49 #[.slice a1 n c1, .slice a2 m c2] w fun e w' => e = .returned (.bool true) ∧ Below w.heap.size w w' := by
  subst hxy
  obtain ⟨l1, k1⟩ := int_cells h1
  obtain ⟨l2, k2⟩ := int_cells h2
  obtain rfl : n = m := by omega
  by_cases h0 : n = 0
  · subst h0
    exact (Try.slices_Equal_int_empty a1 a2 c1 0 c2 w (by omega)).mono fun e w' h => ⟨h.1, by rw [h.2]; exact Below.refl _ _⟩
  · obtain ⟨g1, rfl, q1⟩ := k1 (by omega)
    obtain ⟨g2, rfl, q2⟩ := k2 (by omega)
    have h := Try.slices_Equal_int g1 0 n c1 g2 0 n c2 (xs.map fun (j : Nat) => (j : Int)) (xs.map fun (j : Nat) => (j : Int)) w (by rw [List.length_map]; omega) (by rw [List.length_map]; omega) (by omega) (by omega) q1 q2
    exact h.mono fun e w' ⟨h3, q, h4⟩ => ⟨by rw [h3, beq_self_eq_true], by rw [h4]; exact below_drewN (Below.refl _ _) q⟩

namespace Vo
open Go.Proofs.Yteddendidjhmbaa.Bg

theorem mem_dN {xs ys : List Bg.Id} {k i : Nat} : i ∈ dN xs ys k ↔ i < k ∧ xs.getD i noId ≠ ys.getD i noId := by
  unfold dN
  rw [List.mem_filter, List.mem_range]
  refine and_congr_right fun _ => ?_
  cases h : idEq (xs.getD i noId) (ys.getD i noId) with
  | true => exact ⟨fun h => (by cases h), fun h2 => absurd (idEq_iff.1 h) h2⟩
  | false => exact ⟨fun _ h2 => (by rw [idEq_iff.2 h2] at h; cases h), fun _ => rfl⟩

theorem dN_self (xs : List Bg.Id) (k : Nat) : dN xs xs k = [] := List.eq_nil_iff_forall_not_mem.2 fun _ hi => (mem_dN.1 hi).2 rfl

theorem dN_symm (xs ys : List Bg.Id) (k : Nat) : dN ys xs k = dN xs ys k := by
  unfold dN
  congr 1
  funext i
  cases h : idEq (xs.getD i noId) (ys.getD i noId) with
  | true => rw [idEq_iff.2 (idEq_iff.1 h).symm]
  | false =>
    cases h2 : idEq (ys.getD i noId) (xs.getD i noId) with
    | true => rw [idEq_iff.2 (idEq_iff.1 h2).symm] at h; cases h
    | false => rfl

theorem blocks_code (s : St) (n : ByteArray) : (blocksR s n).2 = 0 ∨ (blocksR s n).2 = 4 := by
  unfold blocksR
  split
  · exact Or.inr rfl
  · split
    · exact Or.inr rfl
    · exact Or.inl rfl

theorem diff_symm (s : St) (a b : ByteArray) : diffR s b a = diffR s a b := by
  unfold diffR
  rcases blocks_code s a with h1 | h1 <;> rcases blocks_code s b with h2 | h2 <;> rw [h1, h2]
  · have z : ¬ (0 : Nat) ≠ 0 := by decide
    rw [if_neg z, if_neg z, if_neg z, if_neg z]
    by_cases h : (blocksR s a).1.length = (blocksR s b).1.length
    · rw [if_neg (fun e => e h.symm), if_neg (fun e => e h), dN_symm, h]
    · rw [if_pos (fun e => h e.symm), if_pos h]
  · have z : ¬ (0 : Nat) ≠ 0 := by decide
    have f : (4 : Nat) ≠ 0 := by decide
    rw [if_pos f, if_neg z, if_pos f]
  · have z : ¬ (0 : Nat) ≠ 0 := by decide
    have f : (4 : Nat) ≠ 0 := by decide
    rw [if_neg z, if_pos f, if_pos f]
  · have f : (4 : Nat) ≠ 0 := by decide
    rw [if_pos f, if_pos f]

theorem diff_ok {s : St} {a b : ByteArray} (h : (diffR s a b).2 = 0) : (blocksR s a).2 = 0 ∧ (blocksR s b).2 = 0 ∧ (blocksR s a).1.length = (blocksR s b).1.length ∧ (diffR s a b).1 = dN (blocksR s a).1 (blocksR s b).1 (blocksR s a).1.length := by
  unfold diffR at h ⊢
  split at h
  · rename_i h1; exact absurd h h1
  · rename_i h1
    split at h
    · rename_i h2; exact absurd h h2
    · rename_i h2
      split at h
      · cases h
      · rename_i h3
        rw [if_neg h1, if_neg h2, if_neg h3]
        exact ⟨Decidable.not_not.1 h1, Decidable.not_not.1 h2, Decidable.not_not.1 h3, rfl⟩

theorem diff_self {s : St} {a : ByteArray} (h : (diffR s a a).2 = 0) : (diffR s a a).1 = [] := by
  rw [(diff_ok h).2.2.2, dN_self]

theorem diff_tri {s : St} {a b c : ByteArray} (h1 : (diffR s a c).2 = 0) (h2 : (diffR s a b).2 = 0) (h3 : (diffR s b c).2 = 0) {i : Nat} (hi : i ∈ (diffR s a c).1) : i ∈ (diffR s a b).1 ∨ i ∈ (diffR s b c).1 := by
  obtain ⟨-, -, l1, e1⟩ := diff_ok h1
  obtain ⟨-, -, l2, e2⟩ := diff_ok h2
  obtain ⟨-, -, l3, e3⟩ := diff_ok h3
  rw [e1, mem_dN] at hi
  rw [e2, e3, mem_dN, mem_dN]
  by_cases h : (blocksR s a).1.getD i noId = (blocksR s b).1.getD i noId
  · exact Or.inr ⟨by omega, by rw [← h]; exact hi.2⟩
  · exact Or.inl ⟨hi.1, h⟩

theorem diff_len {s : St} (hR : Right s) (a b : ByteArray) : (diffR s a b).1.length ≤ 32 := by
  by_cases h : (diffR s a b).2 = 0
  · obtain ⟨-, -, -, e⟩ := diff_ok h
    rw [e]
    exact Nat.le_trans (dN_length _ _ _) (blocks_small hR a)
  · have : (diffR s a b).1 = [] := by
      unfold diffR at h ⊢
      split
      · rfl
      · rename_i h1
        rw [if_neg h1] at h
        split
        · rfl
        · rename_i h2
          rw [if_neg h2] at h
          split
          · rfl
          · rename_i h3
            rw [if_neg h3] at h
            exact absurd rfl h
    rw [this]
    exact Nat.zero_le _

end Vo

abbrev tA : ByteArray := ⟨#[97]⟩
abbrev tB : ByteArray := ⟨#[98]⟩
def opA : Lg.Op := ⟨1, tA, ⟨#[]⟩, 2, ⟨#[]⟩⟩

theorem dm_made : Vo.made [opA] = ⟨[], [⟨tA, [Bg.noId, Bg.noId]⟩]⟩ := by kernel_rfl
theorem dm_clone : Vo.cloneR (Vo.made [opA]) tA tB = ⟨⟨[], [⟨tA, [Bg.noId, Bg.noId]⟩, ⟨tB, [Bg.noId, Bg.noId]⟩]⟩, 0⟩ := by kernel_rfl
theorem dm_diff : Vo.diffR (Vo.cloneR (Vo.made [opA]) tA tB).s tA tB = ([], 0) := by kernel_rfl

end Go.Proofs.Yteddendidjhmbaa
