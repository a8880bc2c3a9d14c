/- QueueGoes: some task may always be done, and in the end all are done; for every input; what was there stands below. -/
import Derived.Test.YtoglkellaliegaaQuW7
import Derived.Test.YtoglkellaliegaaArgs
import Derived.Test.YtoglkellaliegaaQueueLater
namespace Go.Proofs.Ytoglkellaliegaa
open Go.RowKit

theorem cut_good {q : List Qu.T} (h : Qu.Good q) (i : Nat) : Qu.Good (cut q i) := h.sub (by
  have e : cut q i = q.eraseIdx i := by unfold cut; rw [List.eraseIdx_eq_take_drop_succ]
  rw [e]
  exact Qu.sub_erase q i)

/-- Three tasks in a row. -/
theorem lit_three (w : World) (T : TypeId) (x0 y0 x1 y1 x2 y2 : Int) : TSl (w.alloc (.cells #[.int .i64 x0, .int .i64 y0, .int .i64 x1, .int .i64 y1, .int .i64 x2, .int .i64 y2] T)) (some ⟨w.heap.size, 0, none⟩) 3 3 [(x0, y0), (x1, y1), (x2, y2)] :=
  ⟨fun _ => ⟨w.heap.size, 0, rfl, by rw [World.size_alloc]; omega, fun j t hj => by
    rcases j with _ | _ | _ | j
    · obtain rfl : (x0, y0) = t := by simpa using hj
      exact ⟨cell_new w (k := 0) rfl, cell_new w (k := 1) rfl⟩
    · obtain rfl : (x1, y1) = t := by simpa using hj
      exact ⟨cell_new w (k := 2) rfl, cell_new w (k := 3) rfl⟩
    · obtain rfl : (x2, y2) = t := by simpa using hj
      exact ⟨cell_new w (k := 4) rfl, cell_new w (k := 5) rfl⟩
    · simp at hj⟩, rfl, Nat.le_refl _, by decide, fun h => nomatch h⟩

theorem good_of {l : List Qu.T} (h : (decide (l.length ≤ 20) && l.all Qu.one && decide (l.map (·.1)).Nodup) = true) : Qu.Good l := by
  simp only [Bool.and_eq_true, decide_eq_true_eq, List.all_eq_true] at h
  exact ⟨h.1.1, h.1.2, h.2⟩

/-- A literal row of one number. -/
theorem zlit_one (w : World) (T : TypeId) (x : Int) : ZSl (w.alloc (.cells #[.int .i64 x] T)) (some ⟨w.heap.size, 0, none⟩) 1 1 [x] :=
  ⟨fun _ => ⟨w.heap.size, 0, rfl, by rw [World.size_alloc]; omega, fun j u hj => by
    rcases j with _ | j
    · obtain rfl : x = u := by simpa using hj
      exact cell_new w (k := 0) rfl
    · simp at hj⟩, rfl, Nat.le_refl _, by decide⟩

theorem goes_test (w : World) (T : TypeId) : Calls Try.prog 19 #[.slice (some ⟨w.heap.size, 0, none⟩) 3 3] (w.alloc (.cells #[.int .i64 1, .int .i64 0, .int .i64 2, .int .i64 1, .int .i64 3, .int .i64 0] T)) fun e w' =>
    ∃ b d, e = .returned (.tuple #[.slice b 1 d, .int .i64 0]) ∧ ZSl w' b 1 d [1] ∧ Below w.heap.size w w' := by
  refine (May_T _ 3 3 _ _ (good_of (by decide)) (lit_three w T 1 0 2 1 3 0)).mono ?_
  rintro e w' ⟨b, m, d, rfl, hz, hb⟩
  have e1 : Qu.mayL [(1, 0), (2, 1), (3, 0)] = [1] := by decide
  rw [e1] at hz
  obtain rfl : m = 1 := by rw [← hz.len]; rfl
  exact ⟨b, d, rfl, hz, ((Below.refl _ w).alloc (Nat.le_refl _) _).trans (hb.mono (by rw [World.size_alloc]; omega))⟩

theorem mayL_len {q : List Qu.T} (h : Qu.Good q) : (Qu.mayL q).length ≤ 20 := Nat.le_trans (Qu.mayN_len q q.length) h.len

set_option maxRecDepth 100000 in
set_option maxHeartbeats 16000000 in
theorem goes_core (a b : Option Addr) (n c np cp : Nat) (ts : List Qu.T) (zs : List Int) (w : World) (hT : TArg w a n c ts) (hz : np ≠ 0 → ∃ x, b = some x ∧ ∀ i, i < np → w.cell? (x.add i) = some (.int .i64 (zs.getD i 0))) (hnp : np ≤ 9223372036854775807) :
    Calls Try.prog 4 #[.slice a n c, .slice b np cp] w fun e w' => e = .returned (.bool true) ∧ Below w.heap.size w w' := by
  have HZ := Lib.hid hz
  have HG := Lib.hid (Qu.good_queued ts)
  have HQ : Hid (∀ w', Below w.heap.size w w' → Calls Try.prog 18 #[.slice a n c] w' fun e w'' => ∃ b m d, e = .returned (.slice b m d) ∧ TSl w'' b m d (Qu.queued ts) ∧ Below w'.heap.size w' w'') := Lib.hid fun w' hb => queued_on hT hb
  have P1 := goes_test w 24
  clear hz hT
  generalize Qu.queued ts = q at *
  go_enter Try.func4, Try.ntmps4
  go_wp2_with fail
  with_reducible refine P1.mono ?_
  rintro e w1 ⟨b1, d1, rfl, hz1, hb1⟩
  have HB1 : Hid (∀ o k, Below w.heap.size w ((w1.alloc o).drewN k)) := Lib.hid fun o k => below_drewN (hb1.alloc hb1.size o) k
  have E1 := fun T => Equal_Z b1 (some ⟨w1.heap.size, 0, none⟩) 1 d1 1 [1] (w1.alloc (.cells #[.int .i64 1] T)) (hz1.keep ((Below.refl _ _).alloc (Nat.le_refl _) _)) (zlit_one w1 T 1) (by decide)
  clear hb1 hz1 P1
  go_wp2_with fail
  with_reducible refine (E1 _).mono ?_
  rintro e w2 ⟨rfl, k2, rfl⟩
  have Q1 := HQ.out _ (HB1.out (.cells #[.int .i64 1] 3) k2)
  clear E1
  go_wp2_with fail
  with_reducible refine Q1.mono ?_
  rintro e w3 ⟨b3, m3, d3, rfl, hq3, hb3⟩
  have HB3 := Lib.hid ((HB1.out (.cells #[.int .i64 1] 3) k2).trans (hb3.mono (HB1.out _ k2).size))
  have hm20 : m3 ≤ 20 := by rw [← hq3.len]; exact HG.out.len
  have HQ3 := Lib.hid hq3
  clear hb3 hq3 Q1
  go_wp2_with fail
  go_loopw [7, 34] (fun v i wr => ∃ (k r : Nat) (b : Option Addr) (d : Nat) (q : List Qu.T), Hid (m3 = k + r) ∧ k ≤ m3 ∧ r ≤ 20 ∧ i = .int .i64 k ∧ v = .slice b r d ∧ Hid (TSl wr b r d q) ∧ Hid (Qu.Good q) ∧ Hid (Below w.heap.size w wr)) (fun _ i _ => m3 - (intOf i).toNat)
  case atStart => exact ⟨0, m3, b3, d3, q, Lib.hid (by omega), Nat.zero_le _, hm20, rfl, rfl, HQ3, HG, HB3⟩
  case round =>
    obtain ⟨k, r, b, d, q, hkr, hk, hr, rfl, rfl, hQ, hGq, hB⟩ := hrel
    by_cases hlt : k < m3
    · have hr0 : 0 < r := by have := hkr.out; omega
      have hne : q ≠ [] := by rintro rfl; have := hQ.out.len; simp at this; omega
      have M1 := May_T b r d q wr hGq.out hQ.out
      obtain ⟨s, hs⟩ := Qu.mayL_head hne
      have hml := mayL_len hGq.out
      have hmp : 0 < (Qu.mayL q).length := by rw [hs]; simp
      have er : ((r : Int) != (m3 : Int) - (k : Int)) = false := by have := hkr.out; rw [bne_eq_false_iff_eq]; omega
      clear hs
      go_wp2_with fail
      with_reducible refine M1.mono ?_
      rintro e w4 ⟨b4, m4, d4, rfl, hz4, hb4⟩
      have hm4 : 0 < m4 := by rw [← hz4.len]; exact hmp
      have hm4' : m4 ≤ 20 := by rw [← hz4.len]; exact hml
      have e4 : ((m4 : Int) == 0) = false := beq_eq_false_iff_ne.2 (by omega)
      have HB4 := Lib.hid (hB.out.trans (hb4.mono hB.out.size))
      have HQ4 := Lib.hid (hQ.out.keep hb4)
      have HZ4 := Lib.hid hz4
      have hzne : Qu.mayL q ≠ [] := by intro h; rw [h] at hmp; simp at hmp
      obtain ⟨g4, o4, rfl, -, hc4⟩ := hz4.at_ hzne
      have HC4 := Lib.hid hc4
      have D4 : Hid (∀ kk, kk < m4 → ∃ (x : Int), w4.cell? ⟨g4, o4 + kk, none⟩ = some (.int .i64 x) ∧ ∃ q', Qu.Good q' ∧ Calls Try.prog 23 #[.slice b r d, .int .i64 x] w4 fun e w' => ∃ b' d', e = .returned (.tuple #[.slice b' (r - 1) d', .int .i64 0]) ∧ TSl w' b' (r - 1) d' q' ∧ Below w4.heap.size w4 w') := Lib.hid fun kk hkk => by
        have hkl : kk < (Qu.mayL q).length := by rw [HZ4.out.len]; exact hkk
        refine ⟨(Qu.mayL q)[kk], HC4.out kk _ (List.getElem?_eq_getElem hkl), ?_⟩
        obtain ⟨i, h1, h2, h3⟩ := (Qu.mem_mayN (l := q) q.length).1 (List.getElem_mem hkl)
        refine ⟨cut q i, cut_good hGq.out i, ?_⟩
        exact Done_T b r d i q _ w4 hGq.out HQ4.out h1 h3.symm h2
      clear hb4 hz4 hc4 HC4 M1 hzne hmp hml hne
      by_cases hpk : k < np
      · obtain ⟨x, rfl, hc⟩ := HZ.out (by omega)
        have c1 : w4.cell? (x.add k) = some (.int .i64 (zs.getD k 0)) := by rw [HB4.out.cell (World.block_lt_of_cell? w _ (hc k hpk))]; exact hc k hpk
        have hw := within_is (k := zs.getD k 0) (n := m4) (N := (m4 : Int)) rfl (by omega) (by omega) rfl
        have hq := wi_lt (zs.getD k 0) m4 (by omega)
        clear hc
        generalize zs.getD k 0 = z at *
        generalize wi z m4 = kk at *
        obtain ⟨x4, hcx, q', hG', D5⟩ := D4.out kk hq
        have HG' := Lib.hid hG'
        clear hG'
        go_wp2_with fail
        with_reducible refine hw.use ?_
        rintro e w' ⟨rfl, rfl⟩
        go_wp2_with fail
        with_reducible refine D5.mono ?_
        rintro e w5 ⟨b5, d5, rfl, hT5, hb5⟩
        have HB5 := Lib.hid (HB4.out.trans (hb5.mono HB4.out.size))
        have HT5 := Lib.hid hT5
        clear hb5 hT5 D5
        go_wp2_with fail
        go_roundw
        case rel => exact ⟨k + 1, r - 1, b5, d5, q', Lib.hid (by have := hkr.out; omega), hlt, by omega, by go_num, rfl, HT5, HG', HB5⟩
        case measure => simp [intOf]; omega
      · obtain ⟨x4, hcx, q', hG', D5⟩ := D4.out 0 hm4
        have HG' := Lib.hid hG'
        clear hG'
        rw [Nat.add_zero] at hcx
        go_wp2_with fail
        with_reducible refine D5.mono ?_
        rintro e w5 ⟨b5, d5, rfl, hT5, hb5⟩
        have HB5 := Lib.hid (HB4.out.trans (hb5.mono HB4.out.size))
        have HT5 := Lib.hid hT5
        clear hb5 hT5 D5
        go_wp2_with fail
        go_roundw
        case rel => exact ⟨k + 1, r - 1, b5, d5, q', Lib.hid (by have := hkr.out; omega), hlt, by omega, by go_num, rfl, HT5, HG', HB5⟩
        case measure => simp [intOf]; omega
    · obtain rfl : r = 0 := by have := hkr.out; omega
      have hkm : k = m3 := by omega
      subst hkm
      go_wp2_with fail
      go_ret
      exact ⟨rfl, hB.out⟩

theorem queueGoes_walk (a0 : Option Addr) (len0 cap0 : Nat) (t0 : List (Int × Int)) (a1 : Option Addr) (len1 cap1 : Nat) (z1 : List Int) (w : World) (w0 : IsRowT w a0 len0 cap0 t0) (w1 : IsRowI w a1 len1 cap1 z1) :
    Calls Try.prog 4 #[.slice a0 len0 cap0, .slice a1 len1 cap1] w fun e w' => e = .returned (.bool true) ∧ Below w.heap.size w w' := by
  refine goes_core a0 a1 len0 cap0 len1 cap1 t0 z1 w (targ_of w0) ?_ ?_
  · intro h0
    rcases w1 with ⟨rfl, rfl, rfl, rfl⟩ | ⟨x, rfl, h1, h2, h3, h4, -⟩
    · exact absurd rfl h0
    · exact ⟨x, rfl, fun i hi => h4 i (by omega)⟩
  · rcases w1 with ⟨rfl, rfl, rfl, rfl⟩ | ⟨x, rfl, h1, h2, h3, h4, -⟩
    · omega
    · unfold maxLen at h2; omega

end Go.Proofs.Ytoglkellaliegaa
