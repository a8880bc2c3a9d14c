/- Walks: slices.Index at tasks; what QueueBarrier asks; queue.Done, where its row lies. -/
import Derived.Test.YtenkdpogdfcbgaaBarP
import Derived.Test.YtenkdpogdfcbgaaUse
namespace Go.Proofs.Ytenkdpogdfcbgaa.Rs
open Go.RowKit

set_option maxRecDepth 100000 in
set_option maxHeartbeats 4000000 in
theorem Index_T (a : Option Addr) (n c : Nat) (l : List Qu.T) (p q : Int) (w : World) (h1 : TSl w a n c l) (hn : n ≤ 1099511627776) :
    Calls Try.prog 37 #[.slice a n c, .agg #[.int .i64 p, .int .i64 q]] w fun e w' => e = .returned (.int .i64 (pl l (p, q))) ∧ Below w.heap.size w w' := by
  have H1 := Lib.hid h1
  have hal := (Below.refl w.heap.size w).alloc (Nat.le_refl _) (.cells #[.int .i64 p, .int .i64 q] 74)
  have HB := Lib.hid hal
  have HX := Lib.hid (bxs_new w 74 #[.int .i64 p, .int .i64 q] [.int .i64 p, .int .i64 q] rfl)
  clear h1 hal
  go_enter Try.func37, Try.ntmps37
  go_wp2_with fail
  go_loopw [5, 8] (fun _ x wr => ∃ k : Nat, k ≤ n ∧ x = .int .i64 k ∧ Hid (Bxs wr w.heap.size [.int .i64 p, .int .i64 q]) ∧ Hid (Below w.heap.size w wr) ∧ Hid (∀ j (hj : j < l.length), j < k → (p, q) ≠ l[j])) (fun _ x _ => n - (intOf x).toNat)
  case atStart => exact ⟨0, Nat.zero_le _, rfl, HX, HB, Lib.hid fun j _ h => absurd h (Nat.not_lt_zero _)⟩
  case round =>
    obtain ⟨k, hk, rfl, BX, BW, HF⟩ := hrel
    by_cases hlt : k < n
    · have hk' : k < l.length := by rw [H1.out.len]; exact hlt
      have hne : l ≠ [] := by rintro rfl; simp at hk'
      obtain ⟨A, o1, rfl, -, e1⟩ := (H1.out.keep BW.out).at_ hne
      obtain ⟨g1, g1'⟩ := e1 k l[k] (List.getElem?_eq_getElem hk')
      have c0 := BX.out.c 0 _ rfl; have c1 := BX.out.c 1 _ rfl
      have HK : Hid (l[k] = (l[k].1, l[k].2)) := Lib.hid rfl
      clear e1 hne
      generalize l[k].1 = x at *
      generalize l[k].2 = y at *
      have next : ∀ (hxy : (p, q) ≠ (x, y)), Hid (∀ j (hj : j < l.length), j < k + 1 → (p, q) ≠ l[j]) := fun hxy => Lib.hid fun j hj hjk => by
        by_cases e : j = k
        · subst e; rw [HK.out]; exact hxy
        · exact HF.out j hj (by omega)
      by_cases hx : p = x
      · subst hx
        by_cases hy : q = y
        · subst hy
          clear next
          have e1 : (p == p) = true := beq_self_eq_true _
          have e2 : (q == q) = true := beq_self_eq_true _
          have HR : Hid (pl l (p, q) = (k : Int)) := Lib.hid (by
            unfold pl
            exact idx_hit hk' (by rw [HK.out]; simp) (fun j hj => decide_eq_false (HF.out j (by omega) hj)))
          clear HK hk'
          go_wp2_with fail
          go_region
          all_goals
            go_wp2_with fail
            go_ret
            exact ⟨by rw [HR.out]; rfl, by first | exact BW.out | exact BW.out.drew | exact below_drewN BW.out _⟩
        · have e1 : (q == y) = false := beq_eq_false_iff_ne.2 hy
          have HN := next (fun e => hy (Prod.mk.inj e).2)
          clear next HK hk'
          go_wp2_with fail
          go_region
          all_goals
            go_wp2_with fail
            go_roundw
            case rel => exact ⟨k + 1, hlt, by go_num, by first | exact BX | exact Lib.hid BX.out.drew, by first | exact BW | exact Lib.hid BW.out.drew, HN⟩
            case measure => simp [intOf]; omega
      · have e1 : (p == x) = false := beq_eq_false_iff_ne.2 hx
        have HN := next (fun e => hx (Prod.mk.inj e).1)
        clear next HK hk'
        go_wp2_with fail
        go_region
        all_goals
          go_wp2_with fail
          go_roundw
          case rel => exact ⟨k + 1, hlt, by go_num, by first | exact BX | exact Lib.hid BX.out.drew, by first | exact BW | exact Lib.hid BW.out.drew, HN⟩
          case measure => simp [intOf]; omega
    · obtain rfl : k = n := by omega
      have HR : Hid (pl l (p, q) = -1) := Lib.hid (by
        unfold pl
        exact idx_miss (fun j hj => decide_eq_false (HF.out j hj (by rw [← H1.out.len]; exact hj))))
      go_wp2_with fail
      go_ret
      exact ⟨by rw [HR.out]; rfl, BW.out⟩

set_option maxRecDepth 100000 in
set_option maxHeartbeats 4000000 in
/-- What the first closure asks. -/
theorem pred_bar (w : World) (MB KB g o m d kk : Nat) (x : Int) (hM : MB < w.heap.size) (hK : KB < w.heap.size) (cm : w.cell? ⟨MB, 0, none⟩ = some (.slice (some ⟨g, o, none⟩) m d)) (ck : w.cell? ⟨KB, 0, none⟩ = some (.int .i64 kk)) (hkk : kk < m) (hm : m ≤ 20) (hg : g < w.heap.size) (cx : w.cell? ⟨g, o + kk, none⟩ = some (.int .i64 x)) :
    PredT w 34 #[.pointer (some ⟨MB, 0, none⟩), .pointer (some ⟨KB, 0, none⟩)] (Qu.tg x) := fun W a b hb => by
  have hal := hb.alloc hb.size (.cells #[.int .i64 a, .int .i64 b] 74)
  have hcm := (hal.cell (p := ⟨MB, 0, none⟩) hM).trans cm
  have hck := (hal.cell (p := ⟨KB, 0, none⟩) hK).trans ck
  have hcx := (hal.cell (p := ⟨g, o + kk, none⟩) hg).trans cx
  have HAL := Lib.hid hal
  have e0 : (Qu.tg x (a, b)) = (a == x) := rfl
  rw [e0]
  show Calls _ _ #[.agg #[.int .i64 a, .int .i64 b], .pointer (some ⟨MB, 0, none⟩), .pointer (some ⟨KB, 0, none⟩)] _ _
  clear cm ck cx hb hal hM hK hg e0
  go_enter Try.func34, Try.ntmps34
  go_wp2_with fail
  go_region
  all_goals
    go_wp2_with fail
    go_ret
    exact ⟨rfl, by first | exact HAL.out | exact HAL.out.drew⟩

set_option maxRecDepth 100000 in
set_option maxHeartbeats 4000000 in
/-- Where a task stands among those that are done. -/
theorem place_bar (w : World) (X n c : Nat) (a : Option Addr) (O : List Qu.T) (p q : Int) (hX : X < w.heap.size) (cx : w.cell? ⟨X, 0, none⟩ = some (.slice a n c)) (hT : TSl w a n c O) (hn : n ≤ 20) :
    Calls Try.prog 36 #[.agg #[.int .i64 p, .int .i64 q], .pointer (some ⟨X, 0, none⟩)] w fun e w' => e = .returned (.int .i64 (pl O (p, q))) ∧ Below w.heap.size w w' := by
  have hal := (Below.refl w.heap.size w).alloc (Nat.le_refl _) (.cells #[.int .i64 p, .int .i64 q] 74)
  have HAL := Lib.hid hal
  have I1 := Index_T a n c O p q _ (hT.keep hal) (by omega)
  clear hT hal
  go_enter Try.func36, Try.ntmps36
  go_wp2_with fail
  with_reducible refine I1.mono ?_
  rintro e w1 ⟨rfl, hb⟩
  have HB := Lib.hid (HAL.out.trans (hb.mono HAL.out.size))
  clear hb I1
  go_wp2_with fail
  go_ret
  exact ⟨rfl, HB.out⟩

set_option maxRecDepth 100000 in
set_option maxHeartbeats 8000000 in
theorem Done_B (a : Option Addr) (n c i : Nat) (ts : List Qu.T) (x : Int) (w : World) (hG : Qu.Good ts) (hT : TSl w a n c ts) (hi : i < ts.length) (hx : (ts.getD i (0, 0)).1 = x) (hm : Qu.may ts i = true) :
    Calls Try.prog 35 #[.slice a n c, .int .i64 x] w fun e w' => ∃ b d, e = .returned (.tuple #[.slice b (n - 1) d, .int .i64 0]) ∧ w'.ownsRow w.heap.size 74 2 (.slice b (n - 1) d) (n - 1) (tv (cut ts i)) ∧ Below w.heap.size w w' := by
  have hn20 : n ≤ 20 := by rw [← hT.len]; exact hG.len
  have hin : i < n := by rw [← hT.len]; exact hi
  have HB0 : ∀ T, Below w.heap.size w (w.alloc (.cells #[.int .i64 x] T)) := fun T => (Below.refl _ w).alloc (Nat.le_refl _) _
  have C1 := fun T => Check_T a c n ts (w.alloc (.cells #[.int .i64 x] T)) hT.len hT.cap hT.max hG (hT.keep (HB0 T)).at_
  have HT := Lib.hid hT; have HB00 := Lib.hid HB0
  have hidx : idx (Qu.tg x) ts = (i : Int) := by
    unfold idx
    rw [← hx, Qu.tag_at hG.nd hi]
  have HI := Lib.hid hidx
  have HM := Lib.hid hm
  obtain ⟨m, hnm⟩ : ∃ m, n = i + 1 + m := ⟨n - (i + 1), by omega⟩
  have HNM := Lib.hid hnm
  have hlen1 : n - 1 = i + m := by omega
  have HL1 := Lib.hid hlen1
  clear hG hT HB0 hidx hx hm hnm hlen1 hi
  go_enter Try.func35, Try.ntmps35
  go_wp2_with fail
  with_reducible refine (C1 _).mono ?_
  rintro e w1 ⟨rfl, hb1⟩
  have cB : w1.cell? ⟨w.heap.size, 0, none⟩ = some (.int .i64 x) := by rw [hb1.cell (p := ⟨w.heap.size, 0, none⟩) (by rw [World.size_alloc]; exact Nat.lt_succ_self _)]; exact cell_new w (k := 0) rfl
  have hs1 := hb1.size
  rw [World.size_alloc] at hs1
  have HB1 := Lib.hid ((HB00.out _).trans (hb1.mono (HB00.out 3).size))
  have I1 := IndexFunc_T a c ts _ _ _ w1 (by rw [HT.out.len]; omega) eg_done (HT.out.keep HB1.out).at_ (pred_done w1 w.heap.size x (by omega) cB)
  rw [HT.out.len, HI.out] at I1
  clear hb1 C1 cB hs1
  go_wp2_with fail
  with_reducible refine I1.mono ?_
  rintro e w2 ⟨rfl, hb2⟩
  have HB2 := Lib.hid (HB1.out.trans (hb2.mono HB1.out.size))
  have M1 := may_T a c n i ts true w2 HT.out.len HT.out.cap HT.out.max hin hn20 (HT.out.keep HB2.out).at_ HM.out
  clear hb2 I1
  go_wp2_with fail
  with_reducible refine M1.mono ?_
  rintro e w3 ⟨rfl, hb3⟩
  have HB3 := Lib.hid (HB2.out.trans (hb3.mono HB2.out.size))
  have K1 := Clone_T a n c ts w3 (HT.out.keep HB3.out) (by omega)
  clear hb3 M1
  go_wp2_with fail
  with_reducible refine K1.mono ?_
  rintro e w4 ⟨v, rfl, hown, hb4⟩
  obtain ⟨g, cap, rfl⟩ : ∃ g cap, v = .slice (some ⟨g, 0, none⟩) n cap := by
    rcases hown.2 with ⟨-, h0⟩ | ⟨g, cap, cur, rfl, -⟩
    · omega
    · exact ⟨g, cap, rfl⟩
  have D1 := Delete_T g cap n i m w.heap.size ts w4 (own_low hown HB3.out.size) HNM.out (by omega) w (HB3.out.trans (hb4.mono HB3.out.size)) (Nat.le_trans HB3.out.size hb4.size)
  clear hb4 hown K1
  go_wp2_with fail
  with_reducible refine D1.mono ?_
  rintro e w5 ⟨rfl, hown5, hb5⟩
  have HF : Hid (w5.ownsRow w.heap.size 74 2 (.slice (some ⟨g, 0, none⟩) (i + m) cap) (i + m) (tv (ts.take i ++ ts.drop (i + 1))) ∧ Below w.heap.size w w5) := Lib.hid ⟨hown5, hb5⟩
  clear hown5 hb5 D1
  go_wp2_with fail
  go_ret2
  rw [HL1.out]
  exact ⟨_, _, rfl, HF.out⟩

end Go.Proofs.Ytenkdpogdfcbgaa.Rs
