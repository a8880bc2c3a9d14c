/- The walk of prime.Factors: its row of numbers is prime, rises, and has the number for its product. -/
import Derived.Test.YtnbdceigenndfaaFactP
import Derived.Test.YtnbdceigenndfaaUse
import Derived.Test.YtnbdceigenndfaaAns
import Derived.Deep.AppendLies
namespace Go.Proofs.Ytnbdceigenndfaa
open Go.RowKit

set_option maxRecDepth 100000 in
set_option maxHeartbeats 2000000 in
theorem Factors_ok (m0 : Nat) (w : World) (h0 : m0 ≠ 0) (hm : m0 ≤ 2147483647) :
    Calls Try.prog 4 #[.int .i64 m0] w fun e w' => ∃ (v : Value) (l : List Nat), e = .returned (.tuple #[v, .int .i64 0]) ∧ G.Fin m0 l ∧ l.length ≤ 31 ∧
      w'.ownsRow w.heap.size 3 1 v l.length (iv l) ∧ Below w.heap.size w w' := by
  obtain ⟨i0, hi, hz0, hz1, hz2⟩ := info_parts Try.infoInt
  have C1 : ∀ w, Calls Try.prog 27 #[.int .i64 m0] w fun e w' => e = .returned (.int .i64 0) ∧ w = w' := fun w => check_ok m0 w (by omega) (by omega)
  have e0 : ((m0 : Int) == 0) = false := beq_eq_false_iff_ne.2 (by omega)
  go_enter Try.func4, Try.ntmps4
  go_wp2_with fail
  refine (C1 _).mono ?_
  rintro e w' ⟨rfl, rfl⟩
  go_wp2_with fail
  go_loopw [0, 5, 6] (fun x v y wr => ∃ (l : List Nat) (m f : Nat), x = .int .i64 m ∧ y = .int .i64 f ∧ m ≤ 2147483647 ∧ f ≤ 65536 ∧ l.length ≤ 30 ∧ wr.ownsRow w.heap.size 3 1 v l.length (iv l) ∧ Hid (Below w.heap.size w wr) ∧ Hid (G.FI m0 l m f))
    (fun x _ y _ => 2 * (intOf x).toNat + 65536 - (intOf y).toNat)
  case atStart => exact ⟨[], m0, 2, rfl, rfl, hm, by omega, by simp, World.ownsRow_nil _ _ _ _, Lib.hid (Below.refl _ _), Lib.hid (G.FI.start h0)⟩
  case round =>
    rename_i v5
    obtain ⟨l, m, f, rfl, rfl, hmb, hfb, hll, hown, hB, hF⟩ := hrel
    have hf2 := hF.out.f2
    have hmp := hF.out.pos
    have hBs := hB.out.size
    by_cases h1 : 1 < m
    · obtain ⟨a, ha⟩ : ∃ a : Int, (G.L f : Int) - 1 = a := ⟨_, rfl⟩
      obtain ⟨b, hb⟩ : ∃ b : Int, (G.L m : Int) - 1 = b := ⟨_, rfl⟩
      have D1 := Deg_is (by omega : f ≤ 2147483647) ha
      have D2 := Deg_is hmb hb
      have hfl : G.L f ≤ 31 := G.L_le.2 (by omega)
      have hml : G.L m ≤ 31 := G.L_le.2 (by omega)
      by_cases hab : b < 2 * a
      · have HL : Hid (G.L m + 1 < 2 * G.L f) := Lib.hid (by omega)
        have A1 : a ≤ 31 := by omega
        have A2 : -1 ≤ a := by omega
        have B1 : b ≤ 31 := by omega
        have B2 : -1 ≤ b := by omega
        clear ha hb hfl hml
        have hown2 : (wr.alloc (.cells #[.int .i64 (m : Int)] 3)).ownsRow w.heap.size 3 1 u5 l.length (iv l) := hown.alloc _
        have hcell2 : ∀ j x, [Value.int .i64 (m : Int)][j]? = some x → (wr.alloc (.cells #[.int .i64 (m : Int)] 3)).cell? ((⟨wr.heap.size, 0, none⟩ : Addr).add j) = some x := fun j x h => cell_one_new wr (.int .i64 (m : Int)) 3 j x h
        have hone : ∀ x ∈ [Value.int .i64 (m : Int)], x.oneCell' = true := by intro x hx; simp at hx; subst hx; rfl
        have hb1 : l.length + 1 ≤ maxLen := by unfold maxLen; omega
        have hb2 : (l.length + 1) * 8 ≤ 140737488355328 := by omega
        have hb3 : w.heap.size ≤ (wr.alloc (.cells #[.int .i64 (m : Int)] 3)).heap.size := by rw [World.size_alloc]; omega
        have hbase := row_base hown
        have H2 := Lib.hid hown2; have H3 := Lib.hid hcell2; have H4 := Lib.hid hone
        clear hown2 hcell2 hone
        go_wp2_with fail
        with_reducible refine D1.use ?_
        rintro e w' ⟨rfl, rfl⟩
        go_wp2_with fail
        with_reducible refine D2.use ?_
        rintro e w' ⟨rfl, rfl⟩
        go_wp2_with (at_builtin; refine wpList_append_lies _ rfl _ _ _ rfl w.heap.size 3 i0 (.int .i64 0) 1 8 Try.underlying22 hi hz0 hz1 hz2 rfl (by decide) u5 l.length _ rfl H2.out ⟨wr.heap.size, 0, none⟩ 1 1 [.int .i64 (m : Int)] rfl rfl H3.out H4.out (by decide) hb1 hb2 hb3 _ rfl ?_)
        intro g cap wq q1 q2 q3 q4
        have HB' : Below w.heap.size w wq := (hB.out.alloc hBs _).grown q2 hb3 hbase
        have HR : wq.ownsRow w.heap.size 3 1 (.slice (some ⟨g, 0, none⟩) (l.length + 1) cap) (l ++ [m]).length (iv (l ++ [m])) := by
          rw [iv_snoc, List.length_append, List.length_singleton]; exact q1
        have HF := hF.out.last h1 HL.out
        have hl31 : (l ++ [m]).length ≤ 31 := by rw [List.length_append, List.length_singleton]; omega
        clear q1 q2 q3 q4 H2 H3 H4 hb3 hbase hown hF hB
        go_wp2_with fail
        go_ret2
        exact ⟨_, l ++ [m], rfl, HF, hl31, HR, HB'⟩
      · have hml2 : 2 * G.L f ≤ G.L m + 1 := by omega
        have hfs : f < 65536 := by
          have h16 : G.L f ≤ 16 := by omega
          exact Nat.lt_of_lt_of_le G.lt_L (Nat.pow_le_pow_right (n := 2) (j := 16) (by omega) h16)
        have hf2m : f < 2 * m := by
          have e1 : f < 2 ^ G.L f := G.lt_L
          have e2 : 2 ^ (G.L f - 1) ≤ 2 ^ (G.L m - 1) := Nat.pow_le_pow_right (by omega) (by omega)
          have e3 : 2 ^ (G.L m - 1) ≤ m := G.le_of_L.1 (by have := (G.L_pos (a := m)).2 hmp; omega)
          have e4 : 2 ^ G.L f = 2 * 2 ^ (G.L f - 1) := by
            have := (G.L_pos (a := f)).2 (by omega)
            obtain ⟨x, hx⟩ : ∃ x, G.L f = x + 1 := ⟨G.L f - 1, by omega⟩
            rw [hx, Nat.pow_succ, Nat.add_sub_cancel, Nat.mul_comm]
          generalize 2 ^ G.L f = z at *
          generalize 2 ^ (G.L f - 1) = z1 at *
          generalize 2 ^ (G.L m - 1) = z2 at *
          omega
        have hf0 : f ≠ 0 := by omega
        obtain ⟨q, hq⟩ : ∃ q, G.qt m f = q := ⟨_, rfl⟩
        obtain ⟨r, hr⟩ : ∃ r, G.md m f = r := ⟨_, rfl⟩
        have D3 := Div_is hmb (by omega : f ≤ 2147483647) hf0 hq hr
        have A1 : a ≤ 31 := by omega
        have A2 : -1 ≤ a := by omega
        have B1 : b ≤ 31 := by omega
        have B2 : -1 ≤ b := by omega
        by_cases hr0 : r = 0
        · subst hr0
          have hd : G.D f m := (G.md_eq_zero hf0).1 hr
          have HN := hF.out.div hd
          have HI := hF.out.prime hd
          rw [hq] at HN
          have hlen := HN.len
          rw [List.length_append, List.length_singleton] at hlen
          have hm0L : G.L m0 ≤ 31 := G.L_le.2 (by omega)
          have hqL : 0 < G.L q := G.L_pos.2 HN.pos
          have hqm : q < m := by
            have hql : G.L q < G.L m := by
              have h1 := G.L_mul q f HN.pos hf0
              have h2 : G.mul q f = m := by
                have := G.qt_md m hf0
                rwa [hr, Nat.xor_zero, hq] at this
              rw [h2] at h1
              have := HI.L
              omega
            exact G.L_lt hql
          have HNN := Lib.hid HN
          have hl30 : l.length + 1 ≤ 30 := by omega
          clear ha hb hfl hml hml2 hd HN HI hlen hm0L hqL hq hr
          have hown2 : (wr.alloc (.cells #[.int .i64 (f : Int)] 3)).ownsRow w.heap.size 3 1 u5 l.length (iv l) := hown.alloc _
          have hcell2 : ∀ j x, [Value.int .i64 (f : Int)][j]? = some x → (wr.alloc (.cells #[.int .i64 (f : Int)] 3)).cell? ((⟨wr.heap.size, 0, none⟩ : Addr).add j) = some x := fun j x h => cell_one_new wr (.int .i64 (f : Int)) 3 j x h
          have hone : ∀ x ∈ [Value.int .i64 (f : Int)], x.oneCell' = true := by intro x hx; simp at hx; subst hx; rfl
          have hb1 : l.length + 1 ≤ maxLen := by unfold maxLen; omega
          have hb2 : (l.length + 1) * 8 ≤ 140737488355328 := by omega
          have hb3 : w.heap.size ≤ (wr.alloc (.cells #[.int .i64 (f : Int)] 3)).heap.size := by rw [World.size_alloc]; omega
          have hbase := row_base hown
          have H2 := Lib.hid hown2; have H3 := Lib.hid hcell2; have H4 := Lib.hid hone
          clear hown2 hcell2 hone
          go_wp2_with fail
          with_reducible refine D1.use ?_
          rintro e w' ⟨rfl, rfl⟩
          go_wp2_with fail
          with_reducible refine D2.use ?_
          rintro e w' ⟨rfl, rfl⟩
          go_wp2_with fail
          with_reducible refine D3.use ?_
          rintro e w' ⟨rfl, rfl⟩
          go_wp2_with (at_builtin; refine wpList_append_lies _ rfl _ _ _ rfl w.heap.size 3 i0 (.int .i64 0) 1 8 Try.underlying22 hi hz0 hz1 hz2 rfl (by decide) u5 l.length _ rfl H2.out ⟨wr.heap.size, 0, none⟩ 1 1 [.int .i64 (f : Int)] rfl rfl H3.out H4.out (by decide) hb1 hb2 hb3 _ rfl ?_)
          intro g cap wq q1 q2 q3 q4
          have HB' : Below w.heap.size w wq := (hB.out.alloc hBs _).grown q2 hb3 hbase
          have HR : wq.ownsRow w.heap.size 3 1 (.slice (some ⟨g, 0, none⟩) (l.length + 1) cap) (l ++ [f]).length (iv (l ++ [f])) := by
            rw [iv_snoc, List.length_append, List.length_singleton]; exact q1
          have hl31 : (l ++ [f]).length ≤ 30 := by rw [List.length_append, List.length_singleton]; omega
          clear q1 q2 q3 q4 H2 H3 H4 hb3 hbase hown hF hB
          go_wp2_with fail
          go_roundw
          case rel => exact ⟨l ++ [f], q, f, rfl, rfl, by omega, hfb, hl31, HR, Lib.hid HB', HNN⟩
          case measure => simp [intOf]; omega
        · have hd : ¬ G.D f m := fun h => hr0 (by rw [← hr]; exact (G.md_eq_zero hf0).2 h)
          have HNN := Lib.hid (hF.out.next hd)
          have hrb : r ≤ 2147483647 := by rw [← hr]; exact md_le hf0 (by omega)
          have hr0' : ((r : Int) == 0) = false := beq_eq_false_iff_ne.2 (by omega)
          clear ha hb hfl hml hml2 hd hq hr
          go_wp2_with fail
          with_reducible refine D1.use ?_
          rintro e w' ⟨rfl, rfl⟩
          go_wp2_with fail
          with_reducible refine D2.use ?_
          rintro e w' ⟨rfl, rfl⟩
          go_wp2_with fail
          with_reducible refine D3.use ?_
          rintro e w' ⟨rfl, rfl⟩
          go_wp2_with fail
          go_roundw
          case rel => exact ⟨l, m, f + 1, rfl, by go_num, hmb, by omega, hll, hown, hB, HNN⟩
          case measure => simp [intOf]; omega
    · obtain rfl : m = 1 := by omega
      go_wp2_with fail
      go_ret2
      exact ⟨_, l, rfl, hF.out.one, by omega, hown, hB.out⟩

end Go.Proofs.Ytnbdceigenndfaa
