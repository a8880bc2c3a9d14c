/- Walks: queue.May and queue.Done, where their results lie. -/
import Derived.Test.YtenkdpogdfcbgaaRgR
namespace Go.Proofs.Ytenkdpogdfcbgaa.Rs
open Go.RowKit

/-- What a call of Done leaves: a row of its own, whatever it holds. -/
def DoneTo (w : World) (e : Ending) (w' : World) : Prop := ∃ b n d l K, n ≤ 20 ∧ e = .returned (.tuple #[.slice b n d, .int .i64 K]) ∧ w'.ownsRow w.heap.size 74 2 (.slice b n d) n (tv l) ∧ Below w.heap.size w w'

set_option maxRecDepth 100000 in
set_option maxHeartbeats 4000000 in
theorem May_O (a : Option Addr) (n c : Nat) (ts : List Qu.T) (w : World) (hG : Qu.Good ts) (hT : TSl w a n c ts) :
    Calls Try.prog 30 #[.slice a n c] w fun e w' => ∃ b m d, m ≤ 20 ∧ e = .returned (.tuple #[.slice b m d, .int .i64 0]) ∧ ZSl w' b m d (Qu.mayL ts) ∧ w'.ownsRow w.heap.size 3 1 (.slice b m d) m (zv (Qu.mayL ts)) ∧ Below w.heap.size w w' := by
  obtain ⟨i0, hi, hz0, hz1, hz2⟩ := info_parts Try.infoInt
  have hn20 : n ≤ 20 := by rw [← hT.len]; exact hG.len
  have C1 := Check_T a c n ts w hT.len hT.cap hT.max hG hT.at_
  have HT := Lib.hid hT
  clear hT hG
  go_enter Try.func30, Try.ntmps30
  go_wp2_with fail
  with_reducible refine C1.mono ?_
  rintro e w1 ⟨rfl, hb1⟩
  have HB1 := Lib.hid hb1
  clear hb1 C1
  go_wp2_with fail
  go_loopw [5, 15] (fun v i wr => ∃ k : Nat, k ≤ n ∧ i = .int .i64 k ∧ Hid (wr.ownsRow w.heap.size 3 1 v (Qu.mayN ts k).length (zv (Qu.mayN ts k))) ∧ Hid (Below w.heap.size w wr)) (fun _ i _ => n - (intOf i).toNat)
  case atStart => exact ⟨0, Nat.zero_le _, rfl, Lib.hid (World.ownsRow_nil _ _ _ _), HB1⟩
  case round =>
    obtain ⟨k, hk, rfl, hO, hB⟩ := hrel
    by_cases hlt : k < n
    · have hk' : k < ts.length := by rw [HT.out.len]; exact hlt
      have hne : ts ≠ [] := by rintro rfl; simp at hk'
      obtain ⟨g, o, rfl, hg, hc⟩ := (HT.out.keep hB.out).at_ hne
      obtain ⟨c1, c2⟩ := hc k ts[k] (List.getElem?_eq_getElem hk')
      have eg : ts.getD k (0, 0) = ts[k] := by simp [List.getD, hk']
      have HN : Hid (Qu.mayN ts (k + 1) = Qu.mayN ts k ++ if Qu.may ts k = true then [ts[k].1] else []) := Lib.hid (by rw [Qu.mayN, eg])
      have hml := Qu.mayN_len ts k
      clear hc hne eg
      generalize ts[k].1 = x at *
      generalize ts[k].2 = y at *
      have HM : Hid (∀ v, Qu.may ts k = v → ∀ T, Calls Try.prog 125 #[.slice (some ⟨g, o, none⟩) n c, .int .i64 k] (wr.alloc (.cells #[.int .i64 x, .int .i64 y] T)) fun e w' => e = .returned (.bool v) ∧ Below (wr.alloc (.cells #[.int .i64 x, .int .i64 y] T)).heap.size (wr.alloc (.cells #[.int .i64 x, .int .i64 y] T)) w') :=
        Lib.hid fun v hv T => may_T (some ⟨g, o, none⟩) c n k ts v _ HT.out.len HT.out.cap HT.out.max hlt (by omega) (HT.out.keep (hB.out.alloc hB.out.size _)).at_ hv
      generalize hl' : (Qu.mayN ts k).length = m at *
      generalize Qu.mayN ts k = l at *
      have HL := Lib.hid hl'
      clear hl'
      rcases hm : Qu.may ts k with _ | _
      · have M1 := HM.out _ hm
        have HN2 : Hid (Qu.mayN ts (k + 1) = l) := Lib.hid (by rw [HN.out, hm, if_neg (by decide), List.append_nil])
        clear hm HM
        go_wp2_with fail
        with_reducible refine (M1 _).mono ?_
        rintro e w2 ⟨rfl, hb2⟩
        have HB2 := Lib.hid ((hB.out.alloc hB.out.size (.cells #[.int .i64 x, .int .i64 y] 74)).trans (hb2.mono (hB.out.alloc hB.out.size _).size))
        have HO2 : Hid (w2.ownsRow w.heap.size 3 1 u5 m (zv l)) := Lib.hid (own_keep (hO.out.alloc _) hb2)
        clear hb2 M1
        go_wp2_with fail
        go_roundw
        case rel => exact ⟨k + 1, hlt, by go_num, Lib.hid (by rw [HN2.out, HL.out]; exact HO2.out), HB2⟩
        case measure => simp [intOf]; omega
      · have M1 := HM.out _ hm
        have HN2 : Hid (Qu.mayN ts (k + 1) = l ++ [x]) := Lib.hid (by rw [HN.out, hm, if_pos rfl])
        have hb1 : m + 1 ≤ maxLen := by unfold maxLen; omega
        have hb2 : (m + 1) * 8 ≤ 140737488355328 := by omega
        have HBB := Lib.hid hb1; have HBC := Lib.hid hb2
        clear hm HM hb1 hb2
        go_wp2_with fail
        with_reducible refine (M1 _).mono ?_
        rintro e w2 ⟨rfl, hb2⟩
        have HX := Lib.hid ((box_new wr 74 x y).on hb2)
        have cB := HX.out.c0
        have HB2 := Lib.hid ((hB.out.alloc hB.out.size (.cells #[.int .i64 x, .int .i64 y] 74)).trans (hb2.mono (hB.out.alloc hB.out.size _).size))
        have HO2 : Hid (w2.ownsRow w.heap.size 3 1 u5 m (zv l)) := Lib.hid (own_keep (hO.out.alloc _) hb2)
        have H2 := Lib.hid (HO2.out.alloc (.cells #[.int .i64 x] 3))
        have H3 : Hid (∀ j u, [Value.int .i64 x][j]? = some u → (w2.alloc (.cells #[.int .i64 x] 3)).cell? ((⟨w2.heap.size, 0, none⟩ : Addr).add j) = some u) := Lib.hid (by
          intro j u hu
          match j, hu with
          | 0, hu =>
            obtain rfl : Value.int .i64 x = u := by simpa using hu
            exact cell_new w2 (k := 0) rfl
          | j + 1, hu => simp at hu)
        have H4 : Hid (∀ u ∈ [Value.int .i64 x], u.oneCell' = true) := Lib.hid (by intro u hu; rw [List.mem_singleton.1 hu]; rfl)
        have H5 : Hid (w.heap.size ≤ (w2.alloc (.cells #[.int .i64 x] 3)).heap.size) := Lib.hid (by rw [World.size_alloc]; have := HB2.out.size; omega)
        clear hb2 M1
        go_wp2_with (at_builtin; refine wpList_append_lies _ rfl _ _ _ rfl w.heap.size 3 i0 (.int .i64 0) 1 8 Try.underlying23 hi hz0 hz1 hz2 rfl (by decide) u5 m _ rfl H2.out ⟨w2.heap.size, 0, none⟩ 1 1 [.int .i64 x] rfl rfl H3.out H4.out (by decide) HBB.out HBC.out H5.out _ rfl ?_)
        intro g' cap' wq q1 q2 q3 q4
        have HB3 := Lib.hid (own_grown H2.out (HB2.out.alloc HB2.out.size _) (Nat.le_refl _) H5.out q2)
        have HO3 : Hid (wq.ownsRow w.heap.size 3 1 (.slice (some ⟨g', 0, none⟩) (m + 1) cap') (m + 1) (zv (l ++ [x]))) := Lib.hid (by rw [zv_snoc]; exact q1)
        clear q1 q2 q3 q4 H2 H3 H5
        go_wp2_with fail
        go_roundw
        case rel => exact ⟨k + 1, hlt, by go_num, Lib.hid (by rw [HN2.out, List.length_append, HL.out]; exact HO3.out), HB3⟩
        case measure => simp [intOf]; omega
    · obtain rfl : k = n := by omega
      obtain ⟨b, d, hv, hZ⟩ := zsl_own hO.out
      have HF : Hid (ZSl wr b (Qu.mayN ts k).length d (Qu.mayL ts)) := Lib.hid (by unfold Qu.mayL; rw [HT.out.len]; exact hZ)
      subst hv
      have HFO : Hid (wr.ownsRow w.heap.size 3 1 (.slice b (Qu.mayN ts k).length d) (Qu.mayN ts k).length (zv (Qu.mayL ts))) := Lib.hid (by unfold Qu.mayL; rw [HT.out.len]; exact hO.out)
      clear hZ
      go_wp2_with fail
      go_ret2
      exact ⟨b, _, d, by have := Qu.mayN_len ts k; omega, rfl, HF.out, HFO.out, hB.out⟩

set_option maxRecDepth 100000 in
set_option maxHeartbeats 8000000 in
theorem Done_K (a : Option Addr) (n c i : Nat) (ts : List Qu.T) (x : Int) (w : World) (hG : Qu.Good ts) (hT : TSl w a n c ts) (hi : i < ts.length) (hx : (ts.getD i (0, 0)).1 = x) (hm : Qu.may ts i = true) :
    Calls Try.prog 35 #[.slice a n c, .int .i64 x] w (DoneTo w) := by
  have hn20 : n ≤ 20 := by rw [← hT.len]; exact hG.len
  have hin : i < n := by rw [← hT.len]; exact hi
  have HB0 : ∀ T, Below w.heap.size w (w.alloc (.cells #[.int .i64 x] T)) := fun T => (Below.refl _ w).alloc (Nat.le_refl _) _
  have C1 := fun T => Check_T a c n ts (w.alloc (.cells #[.int .i64 x] T)) hT.len hT.cap hT.max hG (hT.keep (HB0 T)).at_
  have HT := Lib.hid hT; have HB00 := Lib.hid HB0
  have hidx : idx (Qu.tg x) ts = (i : Int) := by
    unfold idx
    rw [← hx, Qu.tag_at hG.nd hi]
  have HI := Lib.hid hidx
  have HM := Lib.hid hm
  obtain ⟨m, hnm⟩ : ∃ m, n = i + 1 + m := ⟨n - (i + 1), by omega⟩
  have HNM := Lib.hid hnm
  have hlen1 : n - 1 = i + m := by omega
  have HL1 := Lib.hid hlen1
  clear hG hT HB0 hidx hx hm hnm hlen1 hi
  go_enter Try.func35, Try.ntmps35
  go_wp2_with fail
  with_reducible refine (C1 _).mono ?_
  rintro e w1 ⟨rfl, hb1⟩
  have cB : w1.cell? ⟨w.heap.size, 0, none⟩ = some (.int .i64 x) := by rw [hb1.cell (p := ⟨w.heap.size, 0, none⟩) (by rw [World.size_alloc]; exact Nat.lt_succ_self _)]; exact cell_new w (k := 0) rfl
  have hs1 := hb1.size
  rw [World.size_alloc] at hs1
  have HB1 := Lib.hid ((HB00.out _).trans (hb1.mono (HB00.out 3).size))
  have I1 := IndexFunc_T a c ts _ _ _ w1 (by rw [HT.out.len]; omega) eg_done (HT.out.keep HB1.out).at_ (pred_done w1 w.heap.size x (by omega) cB)
  rw [HT.out.len, HI.out] at I1
  clear hb1 C1 cB hs1
  go_wp2_with fail
  with_reducible refine I1.mono ?_
  rintro e w2 ⟨rfl, hb2⟩
  have HB2 := Lib.hid (HB1.out.trans (hb2.mono HB1.out.size))
  have M1 := may_T a c n i ts true w2 HT.out.len HT.out.cap HT.out.max hin hn20 (HT.out.keep HB2.out).at_ HM.out
  clear hb2 I1
  go_wp2_with fail
  with_reducible refine M1.mono ?_
  rintro e w3 ⟨rfl, hb3⟩
  have HB3 := Lib.hid (HB2.out.trans (hb3.mono HB2.out.size))
  have K1 := Clone_T a n c ts w3 (HT.out.keep HB3.out) (by omega)
  clear hb3 M1
  go_wp2_with fail
  with_reducible refine K1.mono ?_
  rintro e w4 ⟨v, rfl, hown, hb4⟩
  obtain ⟨g, cap, rfl⟩ : ∃ g cap, v = .slice (some ⟨g, 0, none⟩) n cap := by
    rcases hown.2 with ⟨-, h0⟩ | ⟨g, cap, cur, rfl, -⟩
    · omega
    · exact ⟨g, cap, rfl⟩
  have D1 := Delete_T g cap n i m w.heap.size ts w4 (own_low hown HB3.out.size) HNM.out (by omega) w (HB3.out.trans (hb4.mono HB3.out.size)) (Nat.le_trans HB3.out.size hb4.size)
  clear hb4 hown K1
  go_wp2_with fail
  with_reducible refine D1.mono ?_
  rintro e w5 ⟨rfl, hown5, hb5⟩
  have HF : Hid (w5.ownsRow w.heap.size 74 2 (.slice (some ⟨g, 0, none⟩) (i + m) cap) (i + m) (tv (ts.take i ++ ts.drop (i + 1))) ∧ Below w.heap.size w w5) := Lib.hid ⟨hown5, hb5⟩
  clear hown5 hb5 D1
  go_wp2_with fail
  go_ret2
  exact ⟨_, _, _, _, _, by have := HNM.out; omega, rfl, HF.out⟩

set_option maxRecDepth 100000 in
set_option maxHeartbeats 8000000 in
/-- Done on right tasks, whatever the tag. -/
theorem Done_O (a : Option Addr) (n c : Nat) (ts : List Qu.T) (x : Int) (w : World) (hG : Qu.Good ts) (hT : TSl w a n c ts) :
    Calls Try.prog 35 #[.slice a n c, .int .i64 x] w (DoneTo w) := by
  have hn20 : n ≤ 20 := by rw [← hT.len]; exact hG.len
  rcases idx_cases ts x with ⟨h1, h2⟩ | ⟨i, hi, h1, -, h3, -⟩
  · have HB0 : ∀ T, Below w.heap.size w (w.alloc (.cells #[.int .i64 x] T)) := fun T => (Below.refl _ w).alloc (Nat.le_refl _) _
    have C1 := fun T => Check_T a c n ts (w.alloc (.cells #[.int .i64 x] T)) hT.len hT.cap hT.max hG (hT.keep (HB0 T)).at_
    have HT := Lib.hid hT; have HB00 := Lib.hid HB0
    have HI := Lib.hid h2
    clear hG hT HB0 h1 h2
    go_enter Try.func35, Try.ntmps35
    go_wp2_with fail
    with_reducible refine (C1 _).mono ?_
    rintro e w1 ⟨rfl, hb1⟩
    have cB : w1.cell? ⟨w.heap.size, 0, none⟩ = some (.int .i64 x) := by rw [hb1.cell (p := ⟨w.heap.size, 0, none⟩) (by rw [World.size_alloc]; exact Nat.lt_succ_self _)]; exact cell_new w (k := 0) rfl
    have hs1 := hb1.size
    rw [World.size_alloc] at hs1
    have HB1 := Lib.hid ((HB00.out _).trans (hb1.mono (HB00.out 3).size))
    have I1 := IndexFunc_T a c ts _ _ _ w1 (by rw [HT.out.len]; omega) eg_done (HT.out.keep HB1.out).at_ (pred_done w1 w.heap.size x (by omega) cB)
    rw [HT.out.len, HI.out] at I1
    clear hb1 C1 cB hs1
    go_wp2_with fail
    with_reducible refine I1.mono ?_
    rintro e w2 ⟨rfl, hb2⟩
    have HB2 := Lib.hid (HB1.out.trans (hb2.mono HB1.out.size))
    clear hb2 I1
    go_wp2_with fail
    go_ret2
    exact ⟨none, 0, 0, [], _, by omega, rfl, World.ownsRow_nil _ _ _ _, HB2.out⟩
  · cases hm : Qu.may ts i with
    | true => exact Done_K a n c i ts x w hG hT hi (by rw [List.getD_eq_getElem?_getD, List.getElem?_eq_getElem hi]; exact h3) hm
    | false =>
      have hin : i < n := by rw [← hT.len]; exact hi
      have HB0 : ∀ T, Below w.heap.size w (w.alloc (.cells #[.int .i64 x] T)) := fun T => (Below.refl _ w).alloc (Nat.le_refl _) _
      have C1 := fun T => Check_T a c n ts (w.alloc (.cells #[.int .i64 x] T)) hT.len hT.cap hT.max hG (hT.keep (HB0 T)).at_
      have HT := Lib.hid hT; have HB00 := Lib.hid HB0
      have HI := Lib.hid h1; have HM := Lib.hid hm
      clear hG hT HB0 h1 h3 hm hi
      go_enter Try.func35, Try.ntmps35
      go_wp2_with fail
      with_reducible refine (C1 _).mono ?_
      rintro e w1 ⟨rfl, hb1⟩
      have cB : w1.cell? ⟨w.heap.size, 0, none⟩ = some (.int .i64 x) := by rw [hb1.cell (p := ⟨w.heap.size, 0, none⟩) (by rw [World.size_alloc]; exact Nat.lt_succ_self _)]; exact cell_new w (k := 0) rfl
      have hs1 := hb1.size
      rw [World.size_alloc] at hs1
      have HB1 := Lib.hid ((HB00.out _).trans (hb1.mono (HB00.out 3).size))
      have I1 := IndexFunc_T a c ts _ _ _ w1 (by rw [HT.out.len]; omega) eg_done (HT.out.keep HB1.out).at_ (pred_done w1 w.heap.size x (by omega) cB)
      rw [HT.out.len, HI.out] at I1
      clear hb1 C1 cB hs1
      go_wp2_with fail
      with_reducible refine I1.mono ?_
      rintro e w2 ⟨rfl, hb2⟩
      have HB2 := Lib.hid (HB1.out.trans (hb2.mono HB1.out.size))
      have M1 := may_T a c n i ts false w2 HT.out.len HT.out.cap HT.out.max hin hn20 (HT.out.keep HB2.out).at_ HM.out
      clear hb2 I1
      go_wp2_with fail
      with_reducible refine M1.mono ?_
      rintro e w3 ⟨rfl, hb3⟩
      have HB3 := Lib.hid (HB2.out.trans (hb3.mono HB2.out.size))
      clear hb3 M1
      go_wp2_with fail
      go_ret2
      exact ⟨none, 0, 0, [], _, by omega, rfl, World.ownsRow_nil _ _ _ _, HB3.out⟩

end Go.Proofs.Ytenkdpogdfcbgaa.Rs
