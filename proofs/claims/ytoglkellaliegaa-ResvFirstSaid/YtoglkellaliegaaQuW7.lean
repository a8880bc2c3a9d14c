/- Walks: queue.Done, slices.Equal at tasks. -/
import Derived.Test.YtoglkellaliegaaQuW6
namespace Go.Proofs.Ytoglkellaliegaa
open Go.RowKit

/-- Tasks without one. -/
def cut (ts : List Qu.T) (i : Nat) : List Qu.T := ts.take i ++ ts.drop (i + 1)

set_option maxRecDepth 100000 in
set_option maxHeartbeats 8000000 in
theorem Done_T (a : Option Addr) (n c i : Nat) (ts : List Qu.T) (x : Int) (w : World) (hG : Qu.Good ts) (hT : TSl w a n c ts) (hi : i < ts.length) (hx : (ts.getD i (0, 0)).1 = x) (hm : Qu.may ts i = true) :
    Calls Try.prog 23 #[.slice a n c, .int .i64 x] w fun e w' => ∃ b d, e = .returned (.tuple #[.slice b (n - 1) d, .int .i64 0]) ∧ TSl w' b (n - 1) d (cut ts i) ∧ Below w.heap.size w w' := by
  have hn20 : n ≤ 20 := by rw [← hT.len]; exact hG.len
  have hin : i < n := by rw [← hT.len]; exact hi
  have HB0 : ∀ T, Below w.heap.size w (w.alloc (.cells #[.int .i64 x] T)) := fun T => (Below.refl _ w).alloc (Nat.le_refl _) _
  have C1 := fun T => Check_T a c n ts (w.alloc (.cells #[.int .i64 x] T)) hT.len hT.cap hT.max hG (hT.keep (HB0 T)).at_
  have HT := Lib.hid hT; have HB00 := Lib.hid HB0
  have hidx : idx (Qu.tg x) ts = (i : Int) := by
    unfold idx
    rw [← hx, Qu.tag_at hG.nd hi]
  have HI := Lib.hid hidx
  have HM := Lib.hid hm
  obtain ⟨m, hnm⟩ : ∃ m, n = i + 1 + m := ⟨n - (i + 1), by omega⟩
  have HNM := Lib.hid hnm
  have hlen1 : n - 1 = i + m := by omega
  have HL1 := Lib.hid hlen1
  clear hG hT HB0 hidx hx hm hnm hlen1 hi
  go_enter Try.func23, Try.ntmps23
  go_wp2_with fail
  with_reducible refine (C1 _).mono ?_
  rintro e w1 ⟨rfl, hb1⟩
  have cB : w1.cell? ⟨w.heap.size, 0, none⟩ = some (.int .i64 x) := by rw [hb1.cell (p := ⟨w.heap.size, 0, none⟩) (by rw [World.size_alloc]; exact Nat.lt_succ_self _)]; exact cell_new w (k := 0) rfl
  have hs1 := hb1.size
  rw [World.size_alloc] at hs1
  have HB1 := Lib.hid ((HB00.out _).trans (hb1.mono (HB00.out 3).size))
  have I1 := IndexFunc_T a c ts _ _ _ w1 (by rw [HT.out.len]; omega) eg_done (HT.out.keep HB1.out).at_ (pred_done w1 w.heap.size x (by omega) cB)
  rw [HT.out.len, HI.out] at I1
  clear hb1 C1 cB hs1
  go_wp2_with fail
  with_reducible refine I1.mono ?_
  rintro e w2 ⟨rfl, hb2⟩
  have HB2 := Lib.hid (HB1.out.trans (hb2.mono HB1.out.size))
  have M1 := may_T a c n i ts true w2 HT.out.len HT.out.cap HT.out.max hin hn20 (HT.out.keep HB2.out).at_ HM.out
  clear hb2 I1
  go_wp2_with fail
  with_reducible refine M1.mono ?_
  rintro e w3 ⟨rfl, hb3⟩
  have HB3 := Lib.hid (HB2.out.trans (hb3.mono HB2.out.size))
  have K1 := Clone_T a n c ts w3 (HT.out.keep HB3.out) (by omega)
  clear hb3 M1
  go_wp2_with fail
  with_reducible refine K1.mono ?_
  rintro e w4 ⟨v, rfl, hown, hb4⟩
  obtain ⟨g, cap, rfl⟩ : ∃ g cap, v = .slice (some ⟨g, 0, none⟩) n cap := by
    rcases hown.2 with ⟨-, h0⟩ | ⟨g, cap, cur, rfl, -⟩
    · omega
    · exact ⟨g, cap, rfl⟩
  have D1 := Delete_T g cap n i m w.heap.size ts w4 (own_low hown HB3.out.size) HNM.out (by omega) w (HB3.out.trans (hb4.mono HB3.out.size)) (Nat.le_trans HB3.out.size hb4.size)
  clear hb4 hown K1
  go_wp2_with fail
  with_reducible refine D1.mono ?_
  rintro e w5 ⟨rfl, hown5, hb5⟩
  have HF : Hid (TSl w5 (some ⟨g, 0, none⟩) (n - 1) cap (cut ts i) ∧ Below w.heap.size w w5) := Lib.hid ⟨by
    rw [HL1.out]
    obtain ⟨a', c', he, h⟩ := tsl_own hown5 (by rw [List.length_append, List.length_take, List.length_drop, HT.out.len]; have := HNM.out; omega)
    cases he
    exact h, hb5⟩
  have hl := HL1.out
  rw [← hl]
  clear hown5 hb5 D1 hl
  go_wp2_with fail
  go_ret2
  exact ⟨_, _, rfl, HF.out⟩

set_option maxRecDepth 100000 in
set_option maxHeartbeats 2000000 in
theorem Equal_T (a b : Option Addr) (n c1 c2 : Nat) (l : List Qu.T) (w : World) (h1 : TSl w a n c1 l) (h2 : TSl w b n c2 l) (hn : n ≤ 1099511627776) :
    Calls Try.prog 24 #[.slice a n c1, .slice b n c2] w fun e w' => e = .returned (.bool true) ∧ ∃ q, w' = w.drewN q := by
  have H1 := Lib.hid h1; have H2 := Lib.hid h2; clear h1 h2
  go_enter Try.func24, Try.ntmps24
  go_wp2_with fail
  go_loopw [13] (fun x wr => ∃ k : Nat, k ≤ n ∧ x = .int .i64 k ∧ ∃ j, wr = w.drewN j) (fun x _ => n - (intOf x).toNat)
  case atStart => exact ⟨0, Nat.zero_le _, rfl, 0, rfl⟩
  case round =>
    obtain ⟨k, hk, rfl, hj⟩ := hrel
    by_cases hlt : k < n
    · have hk' : k < l.length := by rw [H1.out.len]; exact hlt
      have hne : l ≠ [] := by rintro rfl; simp at hk'
      obtain ⟨A, o1, rfl, -, e1⟩ := H1.out.at_ hne
      obtain ⟨B, o2, rfl, -, e2⟩ := H2.out.at_ hne
      obtain ⟨g1, g1'⟩ := e1 k l[k] (List.getElem?_eq_getElem hk')
      obtain ⟨g2, g2'⟩ := e2 k l[k] (List.getElem?_eq_getElem hk')
      clear e1 e2 hne
      generalize l[k].1 = x at *
      generalize l[k].2 = y at *
      obtain ⟨j, rfl⟩ := hj
      go_wp2_with fail
      go_region
      all_goals
        go_wp2_with fail
        go_roundw
        case rel => exact ⟨k + 1, hlt, by go_num, j + 1, rfl⟩
        case measure => simp [intOf]; omega
    · obtain rfl : k = n := by omega
      go_wp2_with fail
      go_ret
      exact ⟨rfl, hj⟩

end Go.Proofs.Ytoglkellaliegaa
