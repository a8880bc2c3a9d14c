/- QueueBarrier: an ordered task is done behind all that stood ahead of it, and ahead of all but head ones that stood behind; for every input. -/
import Derived.Test.YtenkdpogdfcbgaaBarW
import Derived.Test.YtenkdpogdfcbgaaRgW8
import Derived.Test.YtenkdpogdfcbgaaArgs
import Derived.Test.YtenkdpogdfcbgaaArgsT
import Derived.Test.YtenkdpogdfcbgaaVoC
import Derived.Deep.AppendLies
import Derived.Deep.RegionHeld3
namespace Go.Proofs.Ytenkdpogdfcbgaa.Rs
open Go.RowKit

theorem bar_lit3 (w : World) (T : TypeId) (x0 y0 x1 y1 x2 y2 : Int) : TSl (w.alloc (.cells #[.int .i64 x0, .int .i64 y0, .int .i64 x1, .int .i64 y1, .int .i64 x2, .int .i64 y2] T)) (some ⟨w.heap.size, 0, none⟩) 3 3 [(x0, y0), (x1, y1), (x2, y2)] :=
  ⟨fun _ => ⟨w.heap.size, 0, rfl, by rw [World.size_alloc]; omega, fun j t hj => by
    rcases j with _ | _ | _ | j
    · obtain rfl : (x0, y0) = t := by simpa using hj
      exact ⟨cell_new w (k := 0) rfl, cell_new w (k := 1) rfl⟩
    · obtain rfl : (x1, y1) = t := by simpa using hj
      exact ⟨cell_new w (k := 2) rfl, cell_new w (k := 3) rfl⟩
    · obtain rfl : (x2, y2) = t := by simpa using hj
      exact ⟨cell_new w (k := 4) rfl, cell_new w (k := 5) rfl⟩
    · simp at hj⟩, rfl, Nat.le_refl _, by decide, fun h => nomatch h⟩

theorem bar_good {l : List Qu.T} (h : (decide (l.length ≤ 20) && l.all Qu.one && decide (l.map (·.1)).Nodup) = true) : Qu.Good l := by
  simp only [Bool.and_eq_true, decide_eq_true_eq, List.all_eq_true] at h
  exact ⟨h.1.1, h.1.2, h.2⟩

theorem bar_zlit (w : World) (T : TypeId) (x y : Int) : ZSl (w.alloc (.cells #[.int .i64 x, .int .i64 y] T)) (some ⟨w.heap.size, 0, none⟩) 2 2 [x, y] :=
  ⟨fun _ => ⟨w.heap.size, 0, rfl, by rw [World.size_alloc]; omega, fun j u hj => by
    rcases j with _ | _ | j
    · obtain rfl : x = u := by simpa using hj
      exact cell_new w (k := 0) rfl
    · obtain rfl : y = u := by simpa using hj
      exact cell_new w (k := 1) rfl
    · simp at hj⟩, rfl, Nat.le_refl _, by decide⟩

theorem bar_test (w : World) (T : TypeId) : Calls Try.prog 30 #[.slice (some ⟨w.heap.size, 0, none⟩) 3 3] (w.alloc (.cells #[.int .i64 2, .int .i64 1, .int .i64 3, .int .i64 0, .int .i64 4, .int .i64 2] T)) fun e w' =>
    ∃ b d, e = .returned (.tuple #[.slice b 2 d, .int .i64 0]) ∧ ZSl w' b 2 d [2, 4] ∧ Below w.heap.size w w' := by
  refine (May_T _ 3 3 _ _ (bar_good (by decide)) (bar_lit3 w T 2 1 3 0 4 2)).mono ?_
  rintro e w' ⟨b, m, d, rfl, hz, hb⟩
  have e1 : Qu.mayL [(2, 1), (3, 0), (4, 2)] = [2, 4] := by decide
  rw [e1] at hz
  obtain rfl : m = 2 := by rw [← hz.len]; rfl
  exact ⟨b, d, rfl, hz, ((Below.refl _ w).alloc (Nat.le_refl _) _).trans (hb.mono (by rw [World.size_alloc]; omega))⟩

theorem eg_bar : ∀ args w, (callFunc 34 args).run Try.prog w = .ok (.enter 34 args) w := enters_of Try.func34 (by kernel_rfl) rfl

/-- Cells of two tasks' boxes; what stands below. -/
abbrev BrS (w : World) (T U : Nat) (x y u v : Int) (V : World) : Prop := V.cell? ⟨T, 0, none⟩ = some (.int .i64 x) ∧ V.cell? ⟨T, 1, none⟩ = some (.int .i64 y) ∧ V.cell? ⟨U, 0, none⟩ = some (.int .i64 u) ∧ V.cell? ⟨U, 1, none⟩ = some (.int .i64 v) ∧ Below w.heap.size w V

theorem BrS.on {w : World} {T U : Nat} {x y u v : Int} {V V' : World} (h : BrS w T U x y u v V) (hb : Below V.heap.size V V') : BrS w T U x y u v V' := by
  have k : ∀ {p : Addr} {x : Value}, V.cell? p = some x → V'.cell? p = some x := fun h => by rw [hb.cell (World.block_lt_of_cell? V _ h)]; exact h
  exact ⟨k h.1, k h.2.1, k h.2.2.1, k h.2.2.2.1, h.2.2.2.2.trans (hb.mono h.2.2.2.2.size)⟩
theorem BrS.drew {w : World} {T U : Nat} {x y u v : Int} {V : World} (h : BrS w T U x y u v V) : BrS w T U x y u v V.drew := h.on (Below.refl _ V).drew

set_option maxRecDepth 100000 in
set_option maxHeartbeats 16000000 in
theorem barrier_core (a b : Option Addr) (n c np cp : Nat) (ts : List Qu.T) (zs : List Int) (w : World) (hT : TArg w a n c ts) (hz : np ≠ 0 → ∃ x, b = some x ∧ ∀ i, i < np → w.cell? (x.add i) = some (.int .i64 (zs.getD i 0))) (hnp : np ≤ 9223372036854775807) (hcp : np ≤ cp) :
    Calls Try.prog 5 #[.slice a n c, .slice b np cp] w fun e w' => e = .returned (.bool true) ∧ Below w.heap.size w w' := by
  obtain ⟨i0, hi, hz0, hz1, hz2⟩ := info_parts Try.infoTask
  have HZ := Lib.hid hz
  have HG := Lib.hid (Qu.good_queued ts)
  have HQ : Hid (∀ w', Below w.heap.size w w' → Calls Try.prog 32 #[.slice a n c] w' fun e w'' => ∃ b m d, e = .returned (.slice b m d) ∧ TSl w'' b m d (Qu.queued ts) ∧ Below w'.heap.size w' w'' ∧ w''.ownsRow w'.heap.size 74 2 (.slice b m d) m (tv (Qu.queued ts))) := Lib.hid fun w' hb => queued_F a n c ts w' (hT.keep hb)
  have P1 := bar_test w 74
  clear hz hT
  generalize Qu.queued ts = q at *
  go_enter Try.func5, Try.ntmps5
  go_wp2_with fail
  with_reducible refine P1.mono ?_
  rintro e w1 ⟨b1, d1, rfl, hz1', hb1⟩
  have HB1 : Hid (∀ o k, Below w.heap.size w ((w1.alloc o).drewN k)) := Lib.hid fun o k => below_drewN (hb1.alloc hb1.size o) k
  have E1 := fun T => Equal_Z b1 (some ⟨w1.heap.size, 0, none⟩) 2 d1 2 [2, 4] (w1.alloc (.cells #[.int .i64 2, .int .i64 4] T)) (hz1'.keep ((Below.refl _ _).alloc (Nat.le_refl _) _)) (bar_zlit w1 T 2 4) (by decide)
  clear hb1 hz1' P1
  go_wp2_with fail
  with_reducible refine (E1 _).mono ?_
  rintro e w2 ⟨rfl, k2, rfl⟩
  have Q1 := HQ.out _ (HB1.out (.cells #[.int .i64 2, .int .i64 4] 3) k2)
  clear E1
  go_wp2_with fail
  with_reducible refine Q1.mono ?_
  rintro e w3 ⟨a3, m3, d3, rfl, hq3, hb3, ho3⟩
  have HB3 := Lib.hid ((HB1.out (.cells #[.int .i64 2, .int .i64 4] 3) k2).trans (hb3.mono (HB1.out _ k2).size))
  have hm20 : m3 ≤ 20 := by rw [← hq3.len]; exact HG.out.len
  have HQ3 := Lib.hid hq3
  have HOL := Lib.hid (own_low ho3 (Nat.zero_le _))
  have HOB := Lib.hid (own_block_lt ho3)
  clear hb3 hq3 ho3 Q1 HQ HB1
  have hal := (Below.refl w3.heap.size w3).alloc (Nat.le_refl _) (.cells #[.slice none 0 0] 70)
  have HX0 := Lib.hid (bxs_new w3 70 #[.slice none 0 0] [.slice none 0 0] rfl)
  have HL0 := Lib.hid (own_keep HOL.out hal)
  have HAL := Lib.hid hal
  clear hal
  go_wp2_with fail
  go_loopw [9, 41] (fun v i wr => ∃ (k r : Nat) (b : Option Addr) (d : Nat) (oa : Option Addr) (oc : Nat) (L O : List Qu.T), Hid (m3 = k + r) ∧ k ≤ m3 ∧ r ≤ 20 ∧ i = .int .i64 k ∧ v = .slice b r d ∧ Hid (Bar q L O) ∧ Hid (wr.ownsRow 0 74 2 (.slice b r d) r (tv L)) ∧ Hid (Bxs wr w3.heap.size [.slice oa k oc]) ∧ Hid (wr.ownsRow (w3.heap.size + 1) 74 2 (.slice oa k oc) k (tv O)) ∧ Hid (∀ K, (Value.slice b r d).ownBlock = some K → K ≠ w3.heap.size ∧ (Value.slice oa k oc).ownBlock ≠ some K) ∧ Hid (Below w3.heap.size w3 wr)) (fun _ i _ => m3 - (intOf i).toNat)
  case atStart => exact ⟨0, m3, a3, d3, none, 0, q, [], Lib.hid (by omega), Nat.zero_le _, hm20, rfl, rfl, Lib.hid (bar_start q), HL0, HX0, Lib.hid (World.ownsRow_nil _ _ _ _), Lib.hid fun K hK => ⟨by have := HOB.out K hK; omega, fun h => nomatch h⟩, HAL⟩
  case round =>
    obtain ⟨k, r, b, d, oa, oc, L, O, hkr, hk, hr, rfl, rfl, HBA, HLO, HXB, HOO, HAP, HBW⟩ := hrel
    by_cases hlt : k < m3
    · have hr0 : 0 < r := by have := hkr.out; omega
      have hLl := own_len HLO.out
      have hne : L ≠ [] := by rintro rfl; simp at hLl; omega
      have hGL := HG.out.sub HBA.out.sub
      have M1 := May_T b r d L wr hGL (own_tsl HLO.out (Below.refl _ _))
      obtain ⟨s, hs⟩ := Qu.mayL_head hne
      have hml := Nat.le_trans (Qu.mayN_len L L.length) hGL.len
      have hmp : 0 < (Qu.mayL L).length := by rw [hs]; simp
      clear hs
      go_wp2_with fail
      with_reducible refine M1.mono ?_
      rintro e w4 ⟨b4, m4, d4, rfl, hz4, hb4⟩
      have hm4 : 0 < m4 := by rw [← hz4.len]; exact hmp
      have hm4' : m4 ≤ 20 := by rw [← hz4.len]; exact hml
      have e4 : ((m4 : Int) == 0) = false := beq_eq_false_iff_ne.2 (by omega)
      have hzne : Qu.mayL L ≠ [] := by intro h; rw [h] at hmp; simp at hmp
      obtain ⟨g4, o4, rfl, hg4, hc4⟩ := hz4.at_ hzne
      have hmc4 := hz4.cap
      have hmx4 := hz4.max
      unfold maxLen at hmx4
      have hW : Below w4.heap.size w4 ((w4.alloc (.cells #[.slice (some ⟨g4, o4, none⟩) m4 d4] 23)).alloc (.cells #[.int .i64 0] 3)) := ((Below.refl _ w4).alloc (Nat.le_refl _) _).alloc (by rw [World.size_alloc]; omega) _
      have hbw := hb4.trans (hW.mono hb4.size)
      -- which task it is
      have PK : Hid (∀ kk, kk < m4 → ∃ (x y : Int) (j i1 : Nat) (hj : j < L.length) (hi1 : i1 < q.length), L[j] = (x, y) ∧ q[i1] = (x, y) ∧ Qu.may L j = true ∧ w4.cell? ⟨g4, o4 + kk, none⟩ = some (.int .i64 x)) := Lib.hid fun kk hkk => by
        have hkl : kk < (Qu.mayL L).length := by rw [hz4.len]; exact hkk
        obtain ⟨j, h1, h2, h3⟩ := (Qu.mem_mayN (l := L) L.length).1 (List.getElem_mem hkl)
        obtain ⟨i1, hi1, he⟩ := List.getElem_of_mem (HBA.out.sub.subset (List.getElem_mem h1))
        refine ⟨L[j].1, L[j].2, j, i1, h1, hi1, rfl, he, h2, ?_⟩
        have e : L.getD j (0, 0) = L[j] := by simp [List.getD, h1]
        rw [e] at h3
        have h4 := hc4 kk _ (List.getElem?_eq_getElem hkl)
        rw [h3] at h4
        exact h4
      have HW := Lib.hid hW
      have HG4 := Lib.hid hg4
      have HXW := Lib.hid (HXB.out.on hbw)
      have HLW := Lib.hid (own_keep HLO.out hbw)
      have HOW := Lib.hid (own_keep HOO.out hbw)
      have HBX := Lib.hid (HBW.out.trans (hbw.mono HBW.out.size))
      have HSZ : Hid (w3.heap.size < w4.heap.size) := Lib.hid (Nat.lt_of_lt_of_le HXB.out.lt hb4.size)
      have HGL := Lib.hid hGL
      have HOK : Hid (∀ K, (Value.slice oa k oc).ownBlock = some K → K < w4.heap.size) := Lib.hid fun K hK => Nat.lt_of_lt_of_le (own_block_lt HOO.out K hK) hb4.size
      have HLK : Hid (∀ K, (Value.slice b r d).ownBlock = some K → K < w4.heap.size) := Lib.hid fun K hK => Nat.lt_of_lt_of_le (own_block_lt HLO.out K hK) hb4.size
      have HMB := Lib.hid ((bxs_new w4 23 #[.slice (some ⟨g4, o4, none⟩) m4 d4] [.slice (some ⟨g4, o4, none⟩) m4 d4] rfl).alloc (.cells #[.int .i64 0] 3))
      have HKB := Lib.hid (bxs_new (w4.alloc (.cells #[.slice (some ⟨g4, o4, none⟩) m4 d4] 23)) 3 #[.int .i64 0] [.int .i64 0] rfl)
      rw [World.size_alloc] at HKB
      clear hb4 hz4 hc4 M1 hzne hmp hml hne hW hbw hGL hLl hg4 HXB HLO HOO HBW
      by_cases hpk : k < np
      · obtain ⟨xp, rfl, hc⟩ := HZ.out (by omega)
        have hbz : Below w.heap.size w ((w4.alloc (.cells #[.slice (some ⟨g4, o4, none⟩) m4 d4] 23)).alloc (.cells #[.int .i64 0] 3)) := HB3.out.trans (HBX.out.mono HB3.out.size)
        have c1 := (hbz.cell (World.block_lt_of_cell? w _ (hc k hpk))).trans (hc k hpk)
        have hw := within_is (k := zs.getD k 0) (n := m4) (N := (m4 : Int)) rfl (by omega) (by omega) rfl
        have hqq := wi_lt (zs.getD k 0) m4 (by omega)
        have cM := HMB.out.c 0 _ rfl; have cK := HKB.out.c 0 _ rfl; have zK := HKB.out.z 0 (by decide)
        clear hc hbz
        generalize zs.getD k 0 = z at *
        generalize wi z m4 = kk at *
        have HW9 : Hid (Below w4.heap.size w4 (((w4.alloc (.cells #[.slice (some ⟨g4, o4, none⟩) m4 d4] 23)).alloc (.cells #[.int .i64 0] 3)).drew.setCell ⟨w4.heap.size + 1, 0, none⟩ (.int .i64 kk))) := Lib.hid ((HW.out.drew).setCell (p := ⟨w4.heap.size + 1, 0, none⟩) (Nat.le_succ _) _)
        have HMB9 : Hid (Bxs (((w4.alloc (.cells #[.slice (some ⟨g4, o4, none⟩) m4 d4] 23)).alloc (.cells #[.int .i64 0] 3)).drew.setCell ⟨w4.heap.size + 1, 0, none⟩ (.int .i64 kk)) w4.heap.size [.slice (some ⟨g4, o4, none⟩) m4 d4]) := Lib.hid (HMB.out.drew.other (by omega) _)
        have HKB9 : Hid (Bxs (((w4.alloc (.cells #[.slice (some ⟨g4, o4, none⟩) m4 d4] 23)).alloc (.cells #[.int .i64 0] 3)).drew.setCell ⟨w4.heap.size + 1, 0, none⟩ (.int .i64 kk)) (w4.heap.size + 1) [.int .i64 kk]) := Lib.hid (HKB.out.drew.set 0 (by decide) _ rfl)
        have HX9 : Hid (Bxs (((w4.alloc (.cells #[.slice (some ⟨g4, o4, none⟩) m4 d4] 23)).alloc (.cells #[.int .i64 0] 3)).drew.setCell ⟨w4.heap.size + 1, 0, none⟩ (.int .i64 kk)) w3.heap.size [.slice oa k oc]) := Lib.hid (HXW.out.drew.other (by have := HSZ.out; omega) _)
        have HLB : Hid ((Value.slice b r d).ownBlock ≠ some (w4.heap.size + 1)) := Lib.hid fun e => by have := HLK.out _ e; omega
        have HLW9 : Hid ((((w4.alloc (.cells #[.slice (some ⟨g4, o4, none⟩) m4 d4] 23)).alloc (.cells #[.int .i64 0] 3)).drew.setCell ⟨w4.heap.size + 1, 0, none⟩ (.int .i64 kk)).ownsRow 0 74 2 (.slice b r d) r (tv L)) := Lib.hid (own_other HLW.out.drew HLB.out _)
        have HOB9 : Hid ((Value.slice oa k oc).ownBlock ≠ some (w4.heap.size + 1)) := Lib.hid fun e => by have := HOK.out _ e; omega
        have HOW9 : Hid ((((w4.alloc (.cells #[.slice (some ⟨g4, o4, none⟩) m4 d4] 23)).alloc (.cells #[.int .i64 0] 3)).drew.setCell ⟨w4.heap.size + 1, 0, none⟩ (.int .i64 kk)).ownsRow (w3.heap.size + 1) 74 2 (.slice oa k oc) k (tv O)) := Lib.hid (own_other HOW.out.drew HOB9.out _)
        have HBX9 : Hid (Below w3.heap.size w3 (((w4.alloc (.cells #[.slice (some ⟨g4, o4, none⟩) m4 d4] 23)).alloc (.cells #[.int .i64 0] 3)).drew.setCell ⟨w4.heap.size + 1, 0, none⟩ (.int .i64 kk))) := Lib.hid (HBX.out.drew.setCell (p := ⟨w4.heap.size + 1, 0, none⟩) (by have := HSZ.out; show w3.heap.size ≤ w4.heap.size + 1; omega) _)
        obtain ⟨w9, hw9⟩ : ∃ w9, (((w4.alloc (.cells #[.slice (some ⟨g4, o4, none⟩) m4 d4] 23)).alloc (.cells #[.int .i64 0] 3)).drew.setCell ⟨w4.heap.size + 1, 0, none⟩ (.int .i64 kk)) = w9 := ⟨_, rfl⟩
        rw [hw9] at HMB9 HKB9 HX9 HLW9 HOW9 HBX9
        go_wp2_with fail
        go_region_with (go_at_call 17; with_reducible refine hw.use ?_; rintro e ws ⟨rfl, rfl⟩)
        all_goals
          clear cM cK zK c1 hw HW HMB HKB HXW HLW HOW HBX
          have hb9 : Below w4.heap.size w4 w9 := by rw [← hw9]; exact HW9.out
          have HB9 := Lib.hid hb9
          obtain ⟨x, y, j, i1, hj, hi1, hLj, hqi, hmay, hcx⟩ := PK.out kk (by omega)
          have hcx9 := (hb9.cell (p := ⟨g4, o4 + kk, none⟩) HG4.out).trans hcx
          have hQ9 := HQ3.out.keep HBX9.out
          have hPS := ps_at HG.out hi1
          have hx1 : (L.getD j (0, 0)).1 = x := by rw [List.getD_eq_getElem?_getD, List.getElem?_eq_getElem hj]; simp [hLj]
          rw [hqi] at hPS
          have I1 := IndexFunc_T a3 d3 q _ _ _ w9 (by have := HG.out.len; omega) eg_bar hQ9.at_ (pred_bar w9 w4.heap.size (w4.heap.size + 1) g4 o4 m4 d4 kk x HMB9.out.lt HKB9.out.lt (HMB9.out.c 0 _ rfl) (HKB9.out.c 0 _ rfl) (by omega) (by omega) (Nat.lt_of_lt_of_le HG4.out hb9.size) hcx9)
          have hI : idx (Qu.tg x) q = (i1 : Int) := hPS
          rw [hQ9.len, hI] at I1
          have hi1m : i1 < m3 := by rw [← HQ3.out.len]; exact hi1
          have hN : decide ((i1 : Int) < 0) = false := decide_eq_false (by omega)
          have HST := Lib.hid (HBA.out.step HG.out hj hmay)
          rw [hLj] at HST
          have HLN : Hid ((cut L j).length = r - 1 ∧ L.length = r) := Lib.hid ⟨by rw [cut_erase, List.length_eraseIdx, if_pos hj, own_len HLW9.out], own_len HLW9.out⟩
          have HMY : Hid (∃ hj : j < L.length, (L.getD j (0, 0)).1 = x ∧ Qu.may L j = true) := Lib.hid ⟨hj, hx1, hmay⟩
          have HCX := Lib.hid hcx9
          have HQI : Hid (∃ hi1 : i1 < q.length, q[i1] = (x, y)) := Lib.hid ⟨hi1, hqi⟩
          clear hb9 hcx9 hQ9 hPS hx1 hqi hmay hcx hI hLj hw9 HW9 PK HBA
          go_wp2_with fail
          with_reducible refine I1.mono ?_
          rintro e w10 ⟨rfl, hb⟩
          have HMB10 := Lib.hid (HMB9.out.on hb)
          have HKB10 := Lib.hid (HKB9.out.on hb)
          have HX10 := Lib.hid (HX9.out.on hb)
          have HLW10 := Lib.hid (own_keep HLW9.out hb)
          have HOW10 := Lib.hid (own_keep HOW9.out hb)
          have HBX10 := Lib.hid (HBX9.out.trans (hb.mono HBX9.out.size))
          have hs10 : w4.heap.size ≤ w10.heap.size := Nat.le_trans HB9.out.size hb.size
          have HS10 := Lib.hid hs10
          have hcx10 : w10.cell? ⟨g4, o4 + kk, none⟩ = some (.int .i64 x) := (hb.cell (p := ⟨g4, o4 + kk, none⟩) (Nat.lt_of_lt_of_le HG4.out HB9.out.size)).trans HCX.out
          have cM := HMB10.out.c 0 _ rfl; have cK := HKB10.out.c 0 _ rfl
          obtain ⟨hj, hx1, hmay⟩ := HMY.out
          have D1 := Done_B b r d j L x w10 HGL.out (own_tsl HLW10.out (Below.refl _ _)) hj hx1 hmay
          clear hb I1 hs10 HMB9 HKB9 HX9 HLW9 HOW9 HBX9 hj hx1 hmay HCX
          go_wp2_with fail
          with_reducible refine D1.mono ?_
          rintro e w11 ⟨b5, d5, rfl, ho5, hb⟩
          have HX11 := Lib.hid (HX10.out.on hb); have HO11 := Lib.hid (own_keep HOW10.out hb)
          have HBX11 := Lib.hid (HBX10.out.trans (hb.mono HBX10.out.size)); have HS11 : Hid (w10.heap.size ≤ w11.heap.size) := Lib.hid hb.size
          have HL11 := Lib.hid ho5
          obtain ⟨hi1, hqi⟩ := HQI.out
          have hqne : q ≠ [] := by rintro rfl; simp at hi1
          obtain ⟨ga, goo, he, -, hcq⟩ := (HQ3.out.keep HBX11.out).at_ hqne
          subst he
          obtain ⟨cq0, cq1⟩ := hcq i1 (x, y) (by rw [List.getElem?_eq_getElem hi1, hqi])
          have hd3 := HQ3.out.cap; have hd3m := HQ3.out.max; unfold maxLen at hd3m
          have cX := HX11.out.c 0 _ rfl; have zX := HX11.out.z 0 (show 0 < 1 by decide)
          clear hb ho5 D1 hcq hi1 hqi hqne cM cK hcx10 HMB10 HKB10 HX10 HLW10 HOW10 HBX10
          go_wp2_with fail
          have hb1 : k + 1 ≤ maxLen := by unfold maxLen; omega
          have hb22 : (k + 1) * 16 ≤ 140737488355328 := by omega
          have hb3 : w3.heap.size + 1 ≤ (w11.alloc (.cells #[.int .i64 x, .int .i64 y] 74)).heap.size := by rw [World.size_alloc]; have := HSZ.out; have := HS10.out; have := HS11.out; omega
          have HOA : Hid ((w11.alloc (.cells #[.int .i64 x, .int .i64 y] 74)).drew.ownsRow (w3.heap.size + 1) 74 2 (.slice oa k oc) k (tv O)) := Lib.hid (HO11.out.alloc _).drew
          have HCE : Hid (∀ (j : Nat) (u : Value), [Value.int .i64 x, .int .i64 y][j]? = some u → (w11.alloc (.cells #[.int .i64 x, .int .i64 y] 74)).drew.cell? ((⟨w11.heap.size, 0, none⟩ : Addr).add j) = some u) := Lib.hid (World.news_of_block (w := (w11.alloc (.cells #[.int .i64 x, .int .i64 y] 74)).drew) (B := w11.heap.size) (cs := #[.int .i64 x, .int .i64 y]) (t := 74) (fr := (0, 0)) (Go.Deep.blk_alloc_new w11 _))
          have HON : Hid (∀ u ∈ [Value.int .i64 x, .int .i64 y], u.oneCell' = true) := Lib.hid (by intro u hu; simp at hu; rcases hu with rfl | rfl <;> rfl)
          have HRB := Lib.hid (row_base HO11.out)
          have HYA := Lib.hid ((HX11.out.alloc (.cells #[.int .i64 x, .int .i64 y] 74)).drew)
          have uX := HYA.out.c 0 _ rfl
          go_region_law (refine step_append_lies _ (by rfl) (.tmp 85) (.tmp 90) 70 (by rfl) (w3.heap.size + 1) 74 i0 (.agg #[.int .i64 0, .int .i64 0]) 2 16 Try.underlying70 hi hz0 hz1 hz2 (by rfl) (by decide) (.slice oa k oc) k (tv O) (by rfl) HOA.out ⟨w11.heap.size, 0, none⟩ 1 1 [.int .i64 x, .int .i64 y] (by rfl) (by rfl) HCE.out HON.out (by decide) hb1 hb22 hb3 _ (by rfl) (fun g' cap' wq q1 q2 q3 q4 => ?_); have HYq := Lib.hid (HYA.out.grown q2 (fun e => by have := HRB.out _ e.symm; omega)); have yf0 := HYq.out.z 0 (show 0 < 1 by decide); have y0 := HYq.out.c 0 _ rfl)
          all_goals
            have HLA : Hid ((w11.alloc (.cells #[.int .i64 x, .int .i64 y] 74)).drew.ownsRow w10.heap.size 74 2 (.slice b5 (r - 1) d5) (r - 1) (tv (cut L j))) := Lib.hid (HL11.out.alloc _).drew
            have HLQ := Lib.hid (own_kept2 HLA.out q2 (fun K hK e => by have h1 := row_base HL11.out K hK; have h2 := HOK.out K e; have := HS10.out; omega))
            have HBQ := Lib.hid ((HBX11.out.alloc HBX11.out.size (.cells #[.int .i64 x, .int .i64 y] 74)).drew.grown q2 (HBX11.out.alloc HBX11.out.size (.cells #[.int .i64 x, .int .i64 y] 74)).size (fun K e => by have := HRB.out K e; omega))
            have hbq := row_base q1
            have HOQ : Hid (wq.ownsRow (w3.heap.size + 1) 74 2 (.slice (some ⟨g', 0, none⟩) (k + 1) cap') (k + 1) (tv (O ++ [(x, y)]))) := Lib.hid (by rw [tv_app]; exact q1)
            have HNB : Hid ((Value.slice (some ⟨g', 0, none⟩) (k + 1) cap').ownBlock ≠ some w3.heap.size) := Lib.hid fun e => by have := hbq _ e; omega
            have HNL : Hid ((Value.slice b5 (r - 1) d5).ownBlock ≠ some w3.heap.size) := Lib.hid fun e => by have := row_base HL11.out _ e; have := HSZ.out; have := HS10.out; omega
            have HAQ : Hid (∀ K, (Value.slice b5 (r - 1) d5).ownBlock = some K → K ≠ w3.heap.size ∧ (Value.slice (some ⟨g', 0, none⟩) (k + 1) cap').ownBlock ≠ some K) := Lib.hid fun K hK => by
              have h1 := row_base HL11.out K hK
              have h2 := own_block_lt HL11.out K hK
              refine ⟨by have := HSZ.out; have := HS10.out; omega, fun e => ?_⟩
              have e2 : g' = K := Option.some.inj e
              rcases q3 with h3 | h3
              · have := HOK.out g' h3; have := HS10.out; omega
              · have h5 : g' = (w11.alloc (.cells #[.int .i64 x, .int .i64 y] 74)).heap.size := h3
                rw [World.size_alloc] at h5
                omega
            clear q1 q2 q3 q4 hbq
            go_wp2_with fail
            go_roundw
            case rel => exact ⟨k + 1, r - 1, b5, d5, some ⟨g', 0, none⟩, cap', cut L j, O ++ [(x, y)], Lib.hid (by have := hkr.out; omega), hlt, by omega, by go_num, rfl, HST, Lib.hid (own_low (own_other HLQ.out HNL.out _) (Nat.zero_le _)), Lib.hid (HYq.out.set 0 (show 0 < 1 by decide) _ rfl), Lib.hid (own_other HOQ.out HNB.out _), HAQ, Lib.hid (HBQ.out.setCell (p := ⟨w3.heap.size, 0, none⟩) (Nat.le_refl _) _)⟩
            case measure => simp [intOf]; omega
      · skip
        have HW9 : Hid (Below w4.heap.size w4 (((w4.alloc (.cells #[.slice (some ⟨g4, o4, none⟩) m4 d4] 23)).alloc (.cells #[.int .i64 0] 3)).setCell ⟨w4.heap.size + 1, 0, none⟩ (.int .i64 0))) := Lib.hid ((HW.out).setCell (p := ⟨w4.heap.size + 1, 0, none⟩) (Nat.le_succ _) _)
        have HMB9 : Hid (Bxs (((w4.alloc (.cells #[.slice (some ⟨g4, o4, none⟩) m4 d4] 23)).alloc (.cells #[.int .i64 0] 3)).setCell ⟨w4.heap.size + 1, 0, none⟩ (.int .i64 0)) w4.heap.size [.slice (some ⟨g4, o4, none⟩) m4 d4]) := Lib.hid (HMB.out.other (by omega) _)
        have HKB9 : Hid (Bxs (((w4.alloc (.cells #[.slice (some ⟨g4, o4, none⟩) m4 d4] 23)).alloc (.cells #[.int .i64 0] 3)).setCell ⟨w4.heap.size + 1, 0, none⟩ (.int .i64 0)) (w4.heap.size + 1) [.int .i64 ((0 : Nat) : Int)]) := Lib.hid (HKB.out.set 0 (by decide) _ rfl)
        have HX9 : Hid (Bxs (((w4.alloc (.cells #[.slice (some ⟨g4, o4, none⟩) m4 d4] 23)).alloc (.cells #[.int .i64 0] 3)).setCell ⟨w4.heap.size + 1, 0, none⟩ (.int .i64 0)) w3.heap.size [.slice oa k oc]) := Lib.hid (HXW.out.other (by have := HSZ.out; omega) _)
        have HLB : Hid ((Value.slice b r d).ownBlock ≠ some (w4.heap.size + 1)) := Lib.hid fun e => by have := HLK.out _ e; omega
        have HLW9 : Hid ((((w4.alloc (.cells #[.slice (some ⟨g4, o4, none⟩) m4 d4] 23)).alloc (.cells #[.int .i64 0] 3)).setCell ⟨w4.heap.size + 1, 0, none⟩ (.int .i64 0)).ownsRow 0 74 2 (.slice b r d) r (tv L)) := Lib.hid (own_other HLW.out HLB.out _)
        have HOB9 : Hid ((Value.slice oa k oc).ownBlock ≠ some (w4.heap.size + 1)) := Lib.hid fun e => by have := HOK.out _ e; omega
        have HOW9 : Hid ((((w4.alloc (.cells #[.slice (some ⟨g4, o4, none⟩) m4 d4] 23)).alloc (.cells #[.int .i64 0] 3)).setCell ⟨w4.heap.size + 1, 0, none⟩ (.int .i64 0)).ownsRow (w3.heap.size + 1) 74 2 (.slice oa k oc) k (tv O)) := Lib.hid (own_other HOW.out HOB9.out _)
        have HBX9 : Hid (Below w3.heap.size w3 (((w4.alloc (.cells #[.slice (some ⟨g4, o4, none⟩) m4 d4] 23)).alloc (.cells #[.int .i64 0] 3)).setCell ⟨w4.heap.size + 1, 0, none⟩ (.int .i64 0))) := Lib.hid (HBX.out.setCell (p := ⟨w4.heap.size + 1, 0, none⟩) (by have := HSZ.out; show w3.heap.size ≤ w4.heap.size + 1; omega) _)
        obtain ⟨w9, hw9⟩ : ∃ w9, (((w4.alloc (.cells #[.slice (some ⟨g4, o4, none⟩) m4 d4] 23)).alloc (.cells #[.int .i64 0] 3)).setCell ⟨w4.heap.size + 1, 0, none⟩ (.int .i64 0)) = w9 := ⟨_, rfl⟩
        rw [hw9] at HMB9 HKB9 HX9 HLW9 HOW9 HBX9
        have cM := HMB.out.c 0 _ rfl; have cK := HKB.out.c 0 _ rfl; have zK := HKB.out.z 0 (by decide)
        go_wp2_with fail
        clear HW HMB HKB HXW HLW HOW HBX cM cK zK
        have hb9 : Below w4.heap.size w4 w9 := by rw [← hw9]; exact HW9.out
        have HB9 := Lib.hid hb9
        obtain ⟨x, y, j, i1, hj, hi1, hLj, hqi, hmay, hcx⟩ := PK.out 0 (by omega)
        have hcx9 := (hb9.cell (p := ⟨g4, o4 + 0, none⟩) HG4.out).trans hcx
        have hQ9 := HQ3.out.keep HBX9.out
        have hPS := ps_at HG.out hi1
        have hx1 : (L.getD j (0, 0)).1 = x := by rw [List.getD_eq_getElem?_getD, List.getElem?_eq_getElem hj]; simp [hLj]
        rw [hqi] at hPS
        have I1 := IndexFunc_T a3 d3 q _ _ _ w9 (by have := HG.out.len; omega) eg_bar hQ9.at_ (pred_bar w9 w4.heap.size (w4.heap.size + 1) g4 o4 m4 d4 0 x HMB9.out.lt HKB9.out.lt (HMB9.out.c 0 _ rfl) (HKB9.out.c 0 _ rfl) (by omega) (by omega) (Nat.lt_of_lt_of_le HG4.out hb9.size) hcx9)
        have hI : idx (Qu.tg x) q = (i1 : Int) := hPS
        rw [hQ9.len, hI] at I1
        have hi1m : i1 < m3 := by rw [← HQ3.out.len]; exact hi1
        have hN : decide ((i1 : Int) < 0) = false := decide_eq_false (by omega)
        have HST := Lib.hid (HBA.out.step HG.out hj hmay)
        rw [hLj] at HST
        have HLN : Hid ((cut L j).length = r - 1 ∧ L.length = r) := Lib.hid ⟨by rw [cut_erase, List.length_eraseIdx, if_pos hj, own_len HLW9.out], own_len HLW9.out⟩
        have HMY : Hid (∃ hj : j < L.length, (L.getD j (0, 0)).1 = x ∧ Qu.may L j = true) := Lib.hid ⟨hj, hx1, hmay⟩
        have HCX := Lib.hid hcx9
        have HQI : Hid (∃ hi1 : i1 < q.length, q[i1] = (x, y)) := Lib.hid ⟨hi1, hqi⟩
        clear hb9 hcx9 hQ9 hPS hx1 hqi hmay hcx hI hLj hw9 HW9 PK HBA
        with_reducible refine I1.mono ?_
        rintro e w10 ⟨rfl, hb⟩
        have HMB10 := Lib.hid (HMB9.out.on hb)
        have HKB10 := Lib.hid (HKB9.out.on hb)
        have HX10 := Lib.hid (HX9.out.on hb)
        have HLW10 := Lib.hid (own_keep HLW9.out hb)
        have HOW10 := Lib.hid (own_keep HOW9.out hb)
        have HBX10 := Lib.hid (HBX9.out.trans (hb.mono HBX9.out.size))
        have hs10 : w4.heap.size ≤ w10.heap.size := Nat.le_trans HB9.out.size hb.size
        have HS10 := Lib.hid hs10
        have hcx10 : w10.cell? ⟨g4, o4, none⟩ = some (.int .i64 x) := (hb.cell (p := ⟨g4, o4 + 0, none⟩) (Nat.lt_of_lt_of_le HG4.out HB9.out.size)).trans HCX.out
        have cM := HMB10.out.c 0 _ rfl; have cK := HKB10.out.c 0 _ rfl
        obtain ⟨hj, hx1, hmay⟩ := HMY.out
        have D1 := Done_B b r d j L x w10 HGL.out (own_tsl HLW10.out (Below.refl _ _)) hj hx1 hmay
        clear hb I1 hs10 HMB9 HKB9 HX9 HLW9 HOW9 HBX9 hj hx1 hmay HCX
        go_wp2_with fail
        with_reducible refine D1.mono ?_
        rintro e w11 ⟨b5, d5, rfl, ho5, hb⟩
        have HX11 := Lib.hid (HX10.out.on hb); have HO11 := Lib.hid (own_keep HOW10.out hb)
        have HBX11 := Lib.hid (HBX10.out.trans (hb.mono HBX10.out.size)); have HS11 : Hid (w10.heap.size ≤ w11.heap.size) := Lib.hid hb.size
        have HL11 := Lib.hid ho5
        obtain ⟨hi1, hqi⟩ := HQI.out
        have hqne : q ≠ [] := by rintro rfl; simp at hi1
        obtain ⟨ga, goo, he, -, hcq⟩ := (HQ3.out.keep HBX11.out).at_ hqne
        subst he
        obtain ⟨cq0, cq1⟩ := hcq i1 (x, y) (by rw [List.getElem?_eq_getElem hi1, hqi])
        have hd3 := HQ3.out.cap; have hd3m := HQ3.out.max; unfold maxLen at hd3m
        have cX := HX11.out.c 0 _ rfl; have zX := HX11.out.z 0 (show 0 < 1 by decide)
        clear hb ho5 D1 hcq hi1 hqi hqne cM cK hcx10 HMB10 HKB10 HX10 HLW10 HOW10 HBX10
        go_wp2_with fail
        have hb1 : k + 1 ≤ maxLen := by unfold maxLen; omega
        have hb22 : (k + 1) * 16 ≤ 140737488355328 := by omega
        have hb3 : w3.heap.size + 1 ≤ (w11.alloc (.cells #[.int .i64 x, .int .i64 y] 74)).heap.size := by rw [World.size_alloc]; have := HSZ.out; have := HS10.out; have := HS11.out; omega
        have HOA : Hid ((w11.alloc (.cells #[.int .i64 x, .int .i64 y] 74)).drew.ownsRow (w3.heap.size + 1) 74 2 (.slice oa k oc) k (tv O)) := Lib.hid (HO11.out.alloc _).drew
        have HCE : Hid (∀ (j : Nat) (u : Value), [Value.int .i64 x, .int .i64 y][j]? = some u → (w11.alloc (.cells #[.int .i64 x, .int .i64 y] 74)).drew.cell? ((⟨w11.heap.size, 0, none⟩ : Addr).add j) = some u) := Lib.hid (World.news_of_block (w := (w11.alloc (.cells #[.int .i64 x, .int .i64 y] 74)).drew) (B := w11.heap.size) (cs := #[.int .i64 x, .int .i64 y]) (t := 74) (fr := (0, 0)) (Go.Deep.blk_alloc_new w11 _))
        have HON : Hid (∀ u ∈ [Value.int .i64 x, .int .i64 y], u.oneCell' = true) := Lib.hid (by intro u hu; simp at hu; rcases hu with rfl | rfl <;> rfl)
        have HRB := Lib.hid (row_base HO11.out)
        have HYA := Lib.hid ((HX11.out.alloc (.cells #[.int .i64 x, .int .i64 y] 74)).drew)
        have uX := HYA.out.c 0 _ rfl
        go_region_law (refine step_append_lies _ (by rfl) (.tmp 85) (.tmp 90) 70 (by rfl) (w3.heap.size + 1) 74 i0 (.agg #[.int .i64 0, .int .i64 0]) 2 16 Try.underlying70 hi hz0 hz1 hz2 (by rfl) (by decide) (.slice oa k oc) k (tv O) (by rfl) HOA.out ⟨w11.heap.size, 0, none⟩ 1 1 [.int .i64 x, .int .i64 y] (by rfl) (by rfl) HCE.out HON.out (by decide) hb1 hb22 hb3 _ (by rfl) (fun g' cap' wq q1 q2 q3 q4 => ?_); have HYq := Lib.hid (HYA.out.grown q2 (fun e => by have := HRB.out _ e.symm; omega)); have yf0 := HYq.out.z 0 (show 0 < 1 by decide); have y0 := HYq.out.c 0 _ rfl)
        all_goals
          have HLA : Hid ((w11.alloc (.cells #[.int .i64 x, .int .i64 y] 74)).drew.ownsRow w10.heap.size 74 2 (.slice b5 (r - 1) d5) (r - 1) (tv (cut L j))) := Lib.hid (HL11.out.alloc _).drew
          have HLQ := Lib.hid (own_kept2 HLA.out q2 (fun K hK e => by have h1 := row_base HL11.out K hK; have h2 := HOK.out K e; have := HS10.out; omega))
          have HBQ := Lib.hid ((HBX11.out.alloc HBX11.out.size (.cells #[.int .i64 x, .int .i64 y] 74)).drew.grown q2 (HBX11.out.alloc HBX11.out.size (.cells #[.int .i64 x, .int .i64 y] 74)).size (fun K e => by have := HRB.out K e; omega))
          have hbq := row_base q1
          have HOQ : Hid (wq.ownsRow (w3.heap.size + 1) 74 2 (.slice (some ⟨g', 0, none⟩) (k + 1) cap') (k + 1) (tv (O ++ [(x, y)]))) := Lib.hid (by rw [tv_app]; exact q1)
          have HNB : Hid ((Value.slice (some ⟨g', 0, none⟩) (k + 1) cap').ownBlock ≠ some w3.heap.size) := Lib.hid fun e => by have := hbq _ e; omega
          have HNL : Hid ((Value.slice b5 (r - 1) d5).ownBlock ≠ some w3.heap.size) := Lib.hid fun e => by have := row_base HL11.out _ e; have := HSZ.out; have := HS10.out; omega
          have HAQ : Hid (∀ K, (Value.slice b5 (r - 1) d5).ownBlock = some K → K ≠ w3.heap.size ∧ (Value.slice (some ⟨g', 0, none⟩) (k + 1) cap').ownBlock ≠ some K) := Lib.hid fun K hK => by
            have h1 := row_base HL11.out K hK
            have h2 := own_block_lt HL11.out K hK
            refine ⟨by have := HSZ.out; have := HS10.out; omega, fun e => ?_⟩
            have e2 : g' = K := Option.some.inj e
            rcases q3 with h3 | h3
            · have := HOK.out g' h3; have := HS10.out; omega
            · have h5 : g' = (w11.alloc (.cells #[.int .i64 x, .int .i64 y] 74)).heap.size := h3
              rw [World.size_alloc] at h5
              omega
          clear q1 q2 q3 q4 hbq
          go_wp2_with fail
          go_roundw
          case rel => exact ⟨k + 1, r - 1, b5, d5, some ⟨g', 0, none⟩, cap', cut L j, O ++ [(x, y)], Lib.hid (by have := hkr.out; omega), hlt, by omega, by go_num, rfl, HST, Lib.hid (own_low (own_other HLQ.out HNL.out _) (Nat.zero_le _)), Lib.hid (HYq.out.set 0 (show 0 < 1 by decide) _ rfl), Lib.hid (own_other HOQ.out HNB.out _), HAQ, Lib.hid (HBQ.out.setCell (p := ⟨w3.heap.size, 0, none⟩) (Nat.le_refl _) _)⟩
          case measure => simp [intOf]; omega
    · obtain rfl : r = 0 := by have := hkr.out; omega
      have hkm : k = m3 := by omega
      subst hkm
      obtain rfl : L = [] := by have := own_len HLO.out; simpa using this
      clear HLO HAP
      generalize wr = W0 at *
      have HTO := Lib.hid (own_tsl HOO.out (Below.refl _ _))
      have HQR := Lib.hid (HQ3.out.keep HBW.out)
      have HBR := Lib.hid (HB3.out.trans (HBW.out.mono HB3.out.size))
      clear HOO HBW HQ3
      have PLC : Hid (∀ V p q', Below W0.heap.size W0 V → Calls Try.prog 36 #[.agg #[.int .i64 p, .int .i64 q'], .pointer (some ⟨w3.heap.size, 0, none⟩)] V fun e w' => e = .returned (.int .i64 (pl O (p, q'))) ∧ Below V.heap.size V w') := Lib.hid fun V p q' hb => by
        have hx := HXB.out.on hb
        exact place_bar V w3.heap.size k oc oa O p q' hx.lt (hx.c 0 _ rfl) (HTO.out.keep hb) (by omega)
      clear HXB HTO
      go_wp2_with fail
      go_loopw [96] (fun v V => ∃ i : Nat, i ≤ k ∧ v = .int .i64 i ∧ Hid (Below W0.heap.size W0 V)) (fun v _ => k - (intOf v).toNat)
      case atStart => exact ⟨0, Nat.zero_le _, rfl, Lib.hid (Below.refl _ _)⟩
      case round =>
        obtain ⟨i, hik, rfl, HBV⟩ := hrel
        generalize wr = V at *
        by_cases hlt : i < k
        · have hil : i < q.length := by rw [HQR.out.len]; exact hlt
          have hqne : q ≠ [] := by rintro rfl; simp at hil
          obtain ⟨ga, goo, he, -, hcq⟩ := (HQR.out.keep HBV.out).at_ hqne
          subst he
          obtain ⟨cq0, cq1⟩ := hcq i q[i] (List.getElem?_eq_getElem hil)
          have HTI : Hid (q[i] = (q[i].1, q[i].2)) := Lib.hid rfl
          have hd3 := HQR.out.cap; have hd3m := HQR.out.max; unfold maxLen at hd3m
          clear hcq hqne
          generalize q[i].1 = x at *
          generalize q[i].2 = y at *
          have hal := (Below.refl V.heap.size V).alloc (Nat.le_refl _) (.cells #[.int .i64 x, .int .i64 y] 74)
          have HTB := Lib.hid (bxs_new V 74 #[.int .i64 x, .int .i64 y] [.int .i64 x, .int .i64 y] rfl)
          have HBV2 := Lib.hid (HBV.out.trans (hal.mono HBV.out.size))
          clear hal
          by_cases hy : y = 1
          · subst hy
            go_wp2_with fail
            obtain ⟨TB, hTB⟩ : ∃ TB, V.heap.size = TB := ⟨_, rfl⟩
            rw [hTB] at HTB
            simp only [hTB]
            generalize V.alloc (.cells #[.int .i64 x, .int .i64 1] 74) = VA at *
            clear cq0 cq1 hTB
            go_loopw [106] (fun v U => ∃ j : Nat, j ≤ k ∧ v = .int .i64 j ∧ Hid (Bxs U TB [.int .i64 x, .int .i64 1]) ∧ Hid (Below W0.heap.size W0 U)) (fun v _ => k - (intOf v).toNat)
            case atStart => exact ⟨0, Nat.zero_le _, rfl, HTB, HBV2⟩
            case round =>
              obtain ⟨j, hjk', rfl, HTU, HBU⟩ := hrel
              generalize wr = U at *
              by_cases hjk : j < k
              · have hjl : j < q.length := by rw [HQR.out.len]; exact hjk
                have hqne : q ≠ [] := by rintro rfl; simp at hjl
                obtain ⟨ga', goo', he, -, hcq⟩ := (HQR.out.keep HBU.out).at_ hqne
                cases he
                obtain ⟨cq0, cq1⟩ := hcq j q[j] (List.getElem?_eq_getElem hjl)
                have LW : Hid ((i < j → q[j].2 ≠ 2 → pl O q[i] ≤ pl O q[j]) ∧ (j < i → pl O q[j] ≤ pl O q[i])) := Lib.hid ⟨fun h h2 => HBA.out.done HG.out hil hjl h (Or.inr ⟨by rw [HTI.out], h2⟩), fun h => HBA.out.done HG.out hjl hil h (Or.inl (by rw [HTI.out]))⟩
                have HUI : Hid (q[j] = (q[j].1, q[j].2)) := Lib.hid rfl
                have LW2 : Hid ((i < j → q[j].2 ≠ 2 → pl O (x, 1) ≤ pl O (q[j].1, q[j].2)) ∧ (j < i → pl O (q[j].1, q[j].2) ≤ pl O (x, 1))) := Lib.hid (by rw [← HTI.out]; exact LW.out)
                clear hcq hqne LW HUI
                generalize q[j].1 = u1 at *
                generalize q[j].2 = u2 at *
                have hal := (Below.refl U.heap.size U).alloc (Nat.le_refl _) (.cells #[.int .i64 u1, .int .i64 u2] 74)
                have HUB := Lib.hid (bxs_new U 74 #[.int .i64 u1, .int .i64 u2] [.int .i64 u1, .int .i64 u2] rfl)
                have HTW := Lib.hid (HTU.out.on hal)
                have HBW2 := Lib.hid (HBU.out.trans (hal.mono HBU.out.size))
                clear hal HTU
                go_wp2_with fail
                obtain ⟨UB, hUB⟩ : ∃ UB, U.heap.size = UB := ⟨_, rfl⟩
                rw [hUB] at HUB
                simp only [hUB]
                generalize U.alloc (.cells #[.int .i64 u1, .int .i64 u2] 74) = WS at *
                clear hUB cq0 cq1
                have PT : Hid (∀ W, Below WS.heap.size WS W → Calls Try.prog 36 #[.agg #[.int .i64 x, .int .i64 1], .pointer (some ⟨w3.heap.size, 0, none⟩)] W fun e w' => e = .returned (.int .i64 (pl O (x, 1))) ∧ Below W.heap.size W w') := Lib.hid fun W hb => PLC.out W x 1 (HBW2.out.trans (hb.mono HBW2.out.size))
                have PU : Hid (∀ W, Below WS.heap.size WS W → Calls Try.prog 36 #[.agg #[.int .i64 u1, .int .i64 u2], .pointer (some ⟨w3.heap.size, 0, none⟩)] W fun e w' => e = .returned (.int .i64 (pl O (u1, u2))) ∧ Below W.heap.size W w') := Lib.hid fun W hb => PLC.out W u1 u2 (HBW2.out.trans (hb.mono HBW2.out.size))
                have HS0 : Hid (BrS WS TB UB x 1 u1 u2 WS) := Lib.hid ⟨HTW.out.c 0 _ rfl, HTW.out.c 1 _ rfl, HUB.out.c 0 _ rfl, HUB.out.c 1 _ rfl, Below.refl _ _⟩
                obtain ⟨l1, l2⟩ := LW2.out
                generalize pl O (x, 1) = p1 at *
                generalize pl O (u1, u2) = p2 at *
                clear LW2
                obtain ⟨x0, x1, x2, x3, xb⟩ := HS0.out
                rcases Nat.lt_trichotomy j i with hji | rfl | hji
                · have hn1 : ¬ i < j := by omega
                  have hp : decide (p1 < p2) = false := decide_eq_false (by have := l2 hji; omega)
                  clear l1 l2
                  clear x0 x1 x2 x3 xb
                  refine wp_region_noPanic ?_
                  refine wp_region_held_drew (S := (fun V => V.cell? ⟨TB, 0, none⟩ = some (.int .i64 x) ∧ V.cell? ⟨TB, 1, none⟩ = some (.int .i64 1) ∧ V.cell? ⟨UB, 0, none⟩ = some (.int .i64 u1) ∧ V.cell? ⟨UB, 1, none⟩ = some (.int .i64 u2) ∧ Below WS.heap.size WS V)) (by kernel_rfl) (BrS.drew HS0.out) (fun hS => ?_)
                  refine wpAnyH_take (i := 0) (oi := _) (v := ?_) (by (try simp only [List.getElem?_toArray, List.getElem?_cons_zero]); rfl) (by kernel_rfl) (by kernel_rfl) (by kernel_rfl) (fun _ _ _ h => h) (Or.inl ⟨by rfl, ?_⟩) (by assumption) ?_
                  rotate_left
                  next => (rintro w' ⟨k0, k1, k2, k3, kb⟩; go_simp; (try with_reducible rfl))
                  (try simp only [Act.put, List.setIfInBounds_toArray, List.set_cons_zero, List.set_cons_succ])
                  refine wpAnyH_take (i := 1) (oi := _) (v := ?_) (by (try simp only [List.getElem?_toArray, List.getElem?_cons_succ, List.getElem?_cons_zero]); rfl) (by kernel_rfl) (by kernel_rfl) (by kernel_rfl) (fun _ _ _ h => h) (Or.inl ⟨by rfl, ?_⟩) (by assumption) ?_
                  rotate_left
                  next => (rintro w' ⟨k0, k1, k2, k3, kb⟩; go_simp; (try with_reducible rfl))
                  (try simp only [Act.put, List.setIfInBounds_toArray, List.set_cons_zero, List.set_cons_succ])
                  refine wpAnyH_take (i := 2) (oi := _) (v := ?_) (by (try simp only [List.getElem?_toArray, List.getElem?_cons_succ, List.getElem?_cons_zero]); rfl) (by kernel_rfl) (by kernel_rfl) (by kernel_rfl) (fun _ _ _ h => h) (Or.inl ⟨by rfl, ?_⟩) (by assumption) ?_
                  rotate_left
                  next => (rintro w' ⟨k0, k1, k2, k3, kb⟩; go_simp; (try with_reducible rfl))
                  (try simp only [Act.put, List.setIfInBounds_toArray, List.set_cons_zero, List.set_cons_succ])
                  refine wpAnyH_take (i := 3) (oi := _) (v := ?_) (by (try simp only [List.getElem?_toArray, List.getElem?_cons_succ, List.getElem?_cons_zero]); rfl) (by kernel_rfl) (by kernel_rfl) (by kernel_rfl) (fun _ _ _ h => h) (Or.inl ⟨by rfl, ?_⟩) (by assumption) ?_
                  rotate_left
                  next => (rintro w' ⟨k0, k1, k2, k3, kb⟩; go_simp; (try with_reducible rfl))
                  (try simp only [Act.put, List.setIfInBounds_toArray, List.set_cons_zero, List.set_cons_succ])
                  refine wpAnyH_take (i := 4) (oi := _) (v := ?_) (by (try simp only [List.getElem?_toArray, List.getElem?_cons_succ, List.getElem?_cons_zero]); rfl) (by kernel_rfl) (by kernel_rfl) (by kernel_rfl) (fun _ _ _ h => h) (Or.inl ⟨by rfl, ?_⟩) (by assumption) ?_
                  rotate_left
                  next => (rintro w' ⟨k0, k1, k2, k3, kb⟩; go_simp; (try with_reducible rfl))
                  (try simp only [Act.put, List.setIfInBounds_toArray, List.set_cons_zero, List.set_cons_succ])
                  refine wpAnyH_take (i := 5) (oi := _) (v := ?_) (by (try simp only [List.getElem?_toArray, List.getElem?_cons_succ, List.getElem?_cons_zero]); rfl) (by kernel_rfl) (by kernel_rfl) (by kernel_rfl) (fun _ _ _ h => h) (Or.inl ⟨by rfl, ?_⟩) (by assumption) ?_
                  rotate_left
                  next => (rintro w' ⟨k0, k1, k2, k3, kb⟩; go_simp; (try with_reducible rfl))
                  (try simp only [Act.put, List.setIfInBounds_toArray, List.set_cons_zero, List.set_cons_succ])
                  refine wpAnyH_take (i := 7) (oi := _) (v := ?_) (by (try simp only [List.getElem?_toArray, List.getElem?_cons_succ, List.getElem?_cons_zero]); rfl) (by kernel_rfl) (by kernel_rfl) (by kernel_rfl) (fun _ _ _ h => h) (Or.inl ⟨by rfl, ?_⟩) (by assumption) ?_
                  rotate_left
                  next => (rintro w' ⟨k0, k1, k2, k3, kb⟩; go_simp; (try with_reducible rfl))
                  (try simp only [Act.put, List.setIfInBounds_toArray, List.set_cons_zero, List.set_cons_succ])
                  refine wpAnyH_take (i := 8) (oi := _) (v := ?_) (by (try simp only [List.getElem?_toArray, List.getElem?_cons_succ, List.getElem?_cons_zero]); rfl) (by kernel_rfl) (by kernel_rfl) (by kernel_rfl) (fun _ _ _ h => h) (Or.inl ⟨by rfl, ?_⟩) (by assumption) ?_
                  rotate_left
                  next => (rintro w' ⟨k0, k1, k2, k3, kb⟩; go_simp; (try with_reducible rfl))
                  (try simp only [Act.put, List.setIfInBounds_toArray, List.set_cons_zero, List.set_cons_succ])
                  refine wpAnyH_ready (rs := [6]) (by kernel_rfl) (by simp) ?_
                  refine AllReadyH.cons (o := _) (by (try simp only [List.getElem?_toArray, List.getElem?_cons_succ, List.getElem?_cons_zero]); rfl) (fun K hK => ?_) AllReadyH.nil
                  go_simp
                  go_at_call 36
                  have rq := PU.out _ hS.2.2.2.2
                  with_reducible refine rq.mono ?_
                  clear rq
                  rintro e ws1 ⟨rfl, hbs⟩
                  have hX : (fun V => V.cell? ⟨TB, 0, none⟩ = some (.int .i64 x) ∧ V.cell? ⟨TB, 1, none⟩ = some (.int .i64 1) ∧ V.cell? ⟨UB, 0, none⟩ = some (.int .i64 u1) ∧ V.cell? ⟨UB, 1, none⟩ = some (.int .i64 u2) ∧ Below WS.heap.size WS V) ws1 := BrS.on hS hbs
                  refine hK.out _ _ hX (fun _ => ?_)
                  clear hK K hS hbs
                  (try simp only [Act.put, List.setIfInBounds_toArray, List.set_cons_zero, List.set_cons_succ])
                  have hS := hX
                  clear hX
                  refine wpAnyH_ready (rs := [9]) (by kernel_rfl) (by simp) ?_
                  refine AllReadyH.cons (o := _) (by (try simp only [List.getElem?_toArray, List.getElem?_cons_succ, List.getElem?_cons_zero]); rfl) (fun K hK => ?_) AllReadyH.nil
                  go_simp
                  go_at_call 36
                  have rq := PT.out _ hS.2.2.2.2
                  with_reducible refine rq.mono ?_
                  clear rq
                  rintro e ws2 ⟨rfl, hbs⟩
                  have hX : (fun V => V.cell? ⟨TB, 0, none⟩ = some (.int .i64 x) ∧ V.cell? ⟨TB, 1, none⟩ = some (.int .i64 1) ∧ V.cell? ⟨UB, 0, none⟩ = some (.int .i64 u1) ∧ V.cell? ⟨UB, 1, none⟩ = some (.int .i64 u2) ∧ Below WS.heap.size WS V) ws2 := BrS.on hS hbs
                  refine hK.out _ _ hX (fun _ => ?_)
                  clear hK K hS hbs
                  (try simp only [Act.put, List.setIfInBounds_toArray, List.set_cons_zero, List.set_cons_succ])
                  have hS := hX
                  clear hX
                  refine wpAnyH_take (i := 10) (oi := _) (v := ?_) (by (try simp only [List.getElem?_toArray, List.getElem?_cons_succ, List.getElem?_cons_zero]); rfl) (by kernel_rfl) (by kernel_rfl) (by kernel_rfl) (fun _ _ _ h => h) (Or.inl ⟨by rfl, ?_⟩) (by assumption) ?_
                  rotate_left
                  next => (rintro w' ⟨k0, k1, k2, k3, kb⟩; go_simp; (try with_reducible rfl))
                  (try simp only [Act.put, List.setIfInBounds_toArray, List.set_cons_zero, List.set_cons_succ])
                  refine wpAnyH_take (i := 11) (oi := _) (v := ?_) (by (try simp only [List.getElem?_toArray, List.getElem?_cons_succ, List.getElem?_cons_zero]); rfl) (by kernel_rfl) (by kernel_rfl) (by kernel_rfl) (fun _ _ _ h => h) (Or.inl ⟨by rfl, ?_⟩) (by assumption) ?_
                  rotate_left
                  next => (rintro w' ⟨k0, k1, k2, k3, kb⟩; go_simp; (try with_reducible rfl))
                  (try simp only [Act.put, List.setIfInBounds_toArray, List.set_cons_zero, List.set_cons_succ])
                  refine wpAnyH_take (i := 12) (oi := _) (v := ?_) (by (try simp only [List.getElem?_toArray, List.getElem?_cons_succ, List.getElem?_cons_zero]); rfl) (by kernel_rfl) (by kernel_rfl) (by kernel_rfl) (fun _ _ _ h => h) (Or.inl ⟨by rfl, ?_⟩) (by assumption) ?_
                  rotate_left
                  next => (rintro w' ⟨k0, k1, k2, k3, kb⟩; go_simp; (try with_reducible rfl))
                  (try simp only [Act.put, List.setIfInBounds_toArray, List.set_cons_zero, List.set_cons_succ])
                  refine wpAnyH_take (i := 13) (oi := _) (v := ?_) (by (try simp only [List.getElem?_toArray, List.getElem?_cons_succ, List.getElem?_cons_zero]); rfl) (by kernel_rfl) (by kernel_rfl) (by kernel_rfl) (fun _ _ _ h => h) (Or.inl ⟨by rfl, ?_⟩) (by assumption) ?_
                  rotate_left
                  next => (rintro w' ⟨k0, k1, k2, k3, kb⟩; go_simp; (try with_reducible rfl))
                  (try simp only [Act.put, List.setIfInBounds_toArray, List.set_cons_zero, List.set_cons_succ])
                  refine wpAnyH_take (i := 14) (oi := _) (v := ?_) (by (try simp only [List.getElem?_toArray, List.getElem?_cons_succ, List.getElem?_cons_zero]); rfl) (by kernel_rfl) (by kernel_rfl) (by kernel_rfl) (fun _ _ _ h => h) (Or.inl ⟨by rfl, ?_⟩) (by assumption) ?_
                  rotate_left
                  next => (rintro w' ⟨k0, k1, k2, k3, kb⟩; go_simp; (try with_reducible rfl))
                  (try simp only [Act.put, List.setIfInBounds_toArray, List.set_cons_zero, List.set_cons_succ])
                  refine wpAnyH_take (i := 15) (oi := _) (v := ?_) (by (try simp only [List.getElem?_toArray, List.getElem?_cons_succ, List.getElem?_cons_zero]); rfl) (by kernel_rfl) (by kernel_rfl) (by kernel_rfl) (fun _ _ _ h => h) (Or.inl ⟨by rfl, ?_⟩) (by assumption) ?_
                  rotate_left
                  next => (rintro w' ⟨k0, k1, k2, k3, kb⟩; go_simp; (try with_reducible rfl))
                  (try simp only [Act.put, List.setIfInBounds_toArray, List.set_cons_zero, List.set_cons_succ])
                  refine wpAnyH_take (i := 16) (oi := _) (v := ?_) (by (try simp only [List.getElem?_toArray, List.getElem?_cons_succ, List.getElem?_cons_zero]); rfl) (by kernel_rfl) (by kernel_rfl) (by kernel_rfl) (fun _ _ _ h => h) (Or.inl ⟨by rfl, ?_⟩) (by assumption) ?_
                  rotate_left
                  next => (rintro w' ⟨k0, k1, k2, k3, kb⟩; go_simp; (try with_reducible rfl))
                  (try simp only [Act.put, List.setIfInBounds_toArray, List.set_cons_zero, List.set_cons_succ])
                  refine wpAnyH_take (i := 17) (oi := _) (v := undef) (by (try simp only [List.getElem?_toArray, List.getElem?_cons_succ, List.getElem?_cons_zero]); rfl) (by kernel_rfl) (by kernel_rfl) (by kernel_rfl) (fun _ _ _ h => h) (Or.inr ⟨by first | with_unfolding_all rfl | kernel_rfl | (simp [Region.wanted, yielded]), rfl⟩) (by assumption) ?_
                  (try simp only [Act.put, List.setIfInBounds_toArray, List.set_cons_zero, List.set_cons_succ])
                  refine wpAnyH_take (i := 18) (oi := _) (v := undef) (by (try simp only [List.getElem?_toArray, List.getElem?_cons_succ, List.getElem?_cons_zero]); rfl) (by kernel_rfl) (by kernel_rfl) (by kernel_rfl) (fun _ _ _ h => h) (Or.inr ⟨by first | with_unfolding_all rfl | kernel_rfl | (simp [Region.wanted, yielded]), rfl⟩) (by assumption) ?_
                  (try simp only [Act.put, List.setIfInBounds_toArray, List.set_cons_zero, List.set_cons_succ])
                  refine wpAnyH_take (i := 19) (oi := _) (v := undef) (by (try simp only [List.getElem?_toArray, List.getElem?_cons_succ, List.getElem?_cons_zero]); rfl) (by kernel_rfl) (by kernel_rfl) (by kernel_rfl) (fun _ _ _ h => h) (Or.inr ⟨by first | with_unfolding_all rfl | kernel_rfl | (simp [Region.wanted, yielded]), rfl⟩) (by assumption) ?_
                  (try simp only [Act.put, List.setIfInBounds_toArray, List.set_cons_zero, List.set_cons_succ])
                  refine wpAnyH_take (i := 20) (oi := _) (v := ?_) (by (try simp only [List.getElem?_toArray, List.getElem?_cons_succ, List.getElem?_cons_zero]); rfl) (by kernel_rfl) (by kernel_rfl) (by kernel_rfl) (fun _ _ _ h => h) (Or.inl ⟨by rfl, ?_⟩) (by assumption) ?_
                  rotate_left
                  next => (rintro w' ⟨k0, k1, k2, k3, kb⟩; go_simp; (try with_reducible rfl))
                  (try simp only [Act.put, List.setIfInBounds_toArray, List.set_cons_zero, List.set_cons_succ])
                  refine wpAnyH_take (i := 21) (oi := _) (v := ?_) (by (try simp only [List.getElem?_toArray, List.getElem?_cons_succ, List.getElem?_cons_zero]); rfl) (by kernel_rfl) (by kernel_rfl) (by kernel_rfl) (fun _ _ _ h => h) (Or.inl ⟨by rfl, ?_⟩) (by assumption) ?_
                  rotate_left
                  next => (rintro w' ⟨k0, k1, k2, k3, kb⟩; go_simp; (try with_reducible rfl))
                  (try simp only [Act.put, List.setIfInBounds_toArray, List.set_cons_zero, List.set_cons_succ])
                  refine wpAnyH_take (i := 22) (oi := _) (v := undef) (by (try simp only [List.getElem?_toArray, List.getElem?_cons_succ, List.getElem?_cons_zero]); rfl) (by kernel_rfl) (by kernel_rfl) (by kernel_rfl) (fun _ _ _ h => h) (Or.inr ⟨by first | with_unfolding_all rfl | kernel_rfl | (simp [Region.wanted, yielded]), rfl⟩) (by assumption) ?_
                  (try simp only [Act.put, List.setIfInBounds_toArray, List.set_cons_zero, List.set_cons_succ])
                  refine wpAnyH_take (i := 23) (oi := _) (v := undef) (by (try simp only [List.getElem?_toArray, List.getElem?_cons_succ, List.getElem?_cons_zero]); rfl) (by kernel_rfl) (by kernel_rfl) (by kernel_rfl) (fun _ _ _ h => h) (Or.inr ⟨by first | with_unfolding_all rfl | kernel_rfl | (simp [Region.wanted, yielded]), rfl⟩) (by assumption) ?_
                  (try simp only [Act.put, List.setIfInBounds_toArray, List.set_cons_zero, List.set_cons_succ])
                  refine wpAnyH_take (i := 24) (oi := _) (v := undef) (by (try simp only [List.getElem?_toArray, List.getElem?_cons_succ, List.getElem?_cons_zero]); rfl) (by kernel_rfl) (by kernel_rfl) (by kernel_rfl) (fun _ _ _ h => h) (Or.inr ⟨by first | with_unfolding_all rfl | kernel_rfl | (simp [Region.wanted, yielded]), rfl⟩) (by assumption) ?_
                  (try simp only [Act.put, List.setIfInBounds_toArray, List.set_cons_zero, List.set_cons_succ])
                  refine wpAnyH_take (i := 25) (oi := _) (v := undef) (by (try simp only [List.getElem?_toArray, List.getElem?_cons_succ, List.getElem?_cons_zero]); rfl) (by kernel_rfl) (by kernel_rfl) (by kernel_rfl) (fun _ _ _ h => h) (Or.inr ⟨by first | with_unfolding_all rfl | kernel_rfl | (simp [Region.wanted, yielded]), rfl⟩) (by assumption) ?_
                  (try simp only [Act.put, List.setIfInBounds_toArray, List.set_cons_zero, List.set_cons_succ])
                  refine wpAnyH_take (i := 26) (oi := _) (v := undef) (by (try simp only [List.getElem?_toArray, List.getElem?_cons_succ, List.getElem?_cons_zero]); rfl) (by kernel_rfl) (by kernel_rfl) (by kernel_rfl) (fun _ _ _ h => h) (Or.inr ⟨by first | with_unfolding_all rfl | kernel_rfl | (simp [Region.wanted, yielded]), rfl⟩) (by assumption) ?_
                  (try simp only [Act.put, List.setIfInBounds_toArray, List.set_cons_zero, List.set_cons_succ])
                  refine wpAnyH_take (i := 27) (oi := _) (v := undef) (by (try simp only [List.getElem?_toArray, List.getElem?_cons_succ, List.getElem?_cons_zero]); rfl) (by kernel_rfl) (by kernel_rfl) (by kernel_rfl) (fun _ _ _ h => h) (Or.inr ⟨by first | with_unfolding_all rfl | kernel_rfl | (simp [Region.wanted, yielded]), rfl⟩) (by assumption) ?_
                  (try simp only [Act.put, List.setIfInBounds_toArray, List.set_cons_zero, List.set_cons_succ])
                  refine wpAnyH_take (i := 28) (oi := _) (v := undef) (by (try simp only [List.getElem?_toArray, List.getElem?_cons_succ, List.getElem?_cons_zero]); rfl) (by kernel_rfl) (by kernel_rfl) (by kernel_rfl) (fun _ _ _ h => h) (Or.inr ⟨by first | with_unfolding_all rfl | kernel_rfl | (simp [Region.wanted, yielded]), rfl⟩) (by assumption) ?_
                  (try simp only [Act.put, List.setIfInBounds_toArray, List.set_cons_zero, List.set_cons_succ])
                  refine wpAnyH_take (i := 29) (oi := _) (v := ?_) (by (try simp only [List.getElem?_toArray, List.getElem?_cons_succ, List.getElem?_cons_zero]); rfl) (by kernel_rfl) (by kernel_rfl) (by kernel_rfl) (fun _ _ _ h => h) (Or.inl ⟨by rfl, ?_⟩) (by assumption) ?_
                  rotate_left
                  next => (rintro w' ⟨k0, k1, k2, k3, kb⟩; go_simp; (try with_reducible rfl))
                  (try simp only [Act.put, List.setIfInBounds_toArray, List.set_cons_zero, List.set_cons_succ])
                  refine wpAnyH_take (i := 30) (oi := _) (v := ?_) (by (try simp only [List.getElem?_toArray, List.getElem?_cons_succ, List.getElem?_cons_zero]); rfl) (by kernel_rfl) (by kernel_rfl) (by kernel_rfl) (fun _ _ _ h => h) (Or.inl ⟨by rfl, ?_⟩) (by assumption) ?_
                  rotate_left
                  next => (rintro w' ⟨k0, k1, k2, k3, kb⟩; go_simp; (try with_reducible rfl))
                  (try simp only [Act.put, List.setIfInBounds_toArray, List.set_cons_zero, List.set_cons_succ])
                  refine wpAnyH_done (by kernel_rfl) ?_ _
                  refine NoPanic.normal ?_
                  have HS9 : Hid (BrS WS TB UB x 1 u1 u2 _) := Lib.hid hS
                  (try clear hS)
                  go_wp2_with fail
                  go_roundw
                  case rel => exact ⟨j + 1, hjk, by go_num, Lib.hid (HTW.out.on HS9.out.2.2.2.2), Lib.hid (HBW2.out.trans (HS9.out.2.2.2.2.mono HBW2.out.size))⟩
                  case measure => simp [intOf]; omega
                · clear l1 l2
                  clear x0 x1 x2 x3 xb
                  refine wp_region_noPanic ?_
                  refine wp_region_held_drew (S := (fun V => V.cell? ⟨TB, 0, none⟩ = some (.int .i64 x) ∧ V.cell? ⟨TB, 1, none⟩ = some (.int .i64 1) ∧ V.cell? ⟨UB, 0, none⟩ = some (.int .i64 u1) ∧ V.cell? ⟨UB, 1, none⟩ = some (.int .i64 u2) ∧ Below WS.heap.size WS V)) (by kernel_rfl) (BrS.drew HS0.out) (fun hS => ?_)
                  refine wpAnyH_take (i := 0) (oi := _) (v := ?_) (by (try simp only [List.getElem?_toArray, List.getElem?_cons_zero]); rfl) (by kernel_rfl) (by kernel_rfl) (by kernel_rfl) (fun _ _ _ h => h) (Or.inl ⟨by rfl, ?_⟩) (by assumption) ?_
                  rotate_left
                  next => (rintro w' ⟨k0, k1, k2, k3, kb⟩; go_simp; (try with_reducible rfl))
                  (try simp only [Act.put, List.setIfInBounds_toArray, List.set_cons_zero, List.set_cons_succ])
                  refine wpAnyH_take (i := 1) (oi := _) (v := ?_) (by (try simp only [List.getElem?_toArray, List.getElem?_cons_succ, List.getElem?_cons_zero]); rfl) (by kernel_rfl) (by kernel_rfl) (by kernel_rfl) (fun _ _ _ h => h) (Or.inl ⟨by rfl, ?_⟩) (by assumption) ?_
                  rotate_left
                  next => (rintro w' ⟨k0, k1, k2, k3, kb⟩; go_simp; (try with_reducible rfl))
                  (try simp only [Act.put, List.setIfInBounds_toArray, List.set_cons_zero, List.set_cons_succ])
                  refine wpAnyH_take (i := 2) (oi := _) (v := ?_) (by (try simp only [List.getElem?_toArray, List.getElem?_cons_succ, List.getElem?_cons_zero]); rfl) (by kernel_rfl) (by kernel_rfl) (by kernel_rfl) (fun _ _ _ h => h) (Or.inl ⟨by rfl, ?_⟩) (by assumption) ?_
                  rotate_left
                  next => (rintro w' ⟨k0, k1, k2, k3, kb⟩; go_simp; (try with_reducible rfl))
                  (try simp only [Act.put, List.setIfInBounds_toArray, List.set_cons_zero, List.set_cons_succ])
                  refine wpAnyH_take (i := 3) (oi := _) (v := ?_) (by (try simp only [List.getElem?_toArray, List.getElem?_cons_succ, List.getElem?_cons_zero]); rfl) (by kernel_rfl) (by kernel_rfl) (by kernel_rfl) (fun _ _ _ h => h) (Or.inl ⟨by rfl, ?_⟩) (by assumption) ?_
                  rotate_left
                  next => (rintro w' ⟨k0, k1, k2, k3, kb⟩; go_simp; (try with_reducible rfl))
                  (try simp only [Act.put, List.setIfInBounds_toArray, List.set_cons_zero, List.set_cons_succ])
                  refine wpAnyH_take (i := 4) (oi := _) (v := undef) (by (try simp only [List.getElem?_toArray, List.getElem?_cons_succ, List.getElem?_cons_zero]); rfl) (by kernel_rfl) (by kernel_rfl) (by kernel_rfl) (fun _ _ _ h => h) (Or.inr ⟨by first | with_unfolding_all rfl | kernel_rfl | (simp [Region.wanted, yielded]), rfl⟩) (by assumption) ?_
                  (try simp only [Act.put, List.setIfInBounds_toArray, List.set_cons_zero, List.set_cons_succ])
                  refine wpAnyH_take (i := 5) (oi := _) (v := undef) (by (try simp only [List.getElem?_toArray, List.getElem?_cons_succ, List.getElem?_cons_zero]); rfl) (by kernel_rfl) (by kernel_rfl) (by kernel_rfl) (fun _ _ _ h => h) (Or.inr ⟨by first | with_unfolding_all rfl | kernel_rfl | (simp [Region.wanted, yielded]), rfl⟩) (by assumption) ?_
                  (try simp only [Act.put, List.setIfInBounds_toArray, List.set_cons_zero, List.set_cons_succ])
                  refine wpAnyH_take (i := 6) (oi := _) (v := undef) (by (try simp only [List.getElem?_toArray, List.getElem?_cons_succ, List.getElem?_cons_zero]); rfl) (by kernel_rfl) (by kernel_rfl) (by kernel_rfl) (fun _ _ _ h => h) (Or.inr ⟨by first | with_unfolding_all rfl | kernel_rfl | (simp [Region.wanted, yielded]), rfl⟩) (by assumption) ?_
                  (try simp only [Act.put, List.setIfInBounds_toArray, List.set_cons_zero, List.set_cons_succ])
                  refine wpAnyH_take (i := 7) (oi := _) (v := undef) (by (try simp only [List.getElem?_toArray, List.getElem?_cons_succ, List.getElem?_cons_zero]); rfl) (by kernel_rfl) (by kernel_rfl) (by kernel_rfl) (fun _ _ _ h => h) (Or.inr ⟨by first | with_unfolding_all rfl | kernel_rfl | (simp [Region.wanted, yielded]), rfl⟩) (by assumption) ?_
                  (try simp only [Act.put, List.setIfInBounds_toArray, List.set_cons_zero, List.set_cons_succ])
                  refine wpAnyH_take (i := 8) (oi := _) (v := undef) (by (try simp only [List.getElem?_toArray, List.getElem?_cons_succ, List.getElem?_cons_zero]); rfl) (by kernel_rfl) (by kernel_rfl) (by kernel_rfl) (fun _ _ _ h => h) (Or.inr ⟨by first | with_unfolding_all rfl | kernel_rfl | (simp [Region.wanted, yielded]), rfl⟩) (by assumption) ?_
                  (try simp only [Act.put, List.setIfInBounds_toArray, List.set_cons_zero, List.set_cons_succ])
                  refine wpAnyH_take (i := 9) (oi := _) (v := undef) (by (try simp only [List.getElem?_toArray, List.getElem?_cons_succ, List.getElem?_cons_zero]); rfl) (by kernel_rfl) (by kernel_rfl) (by kernel_rfl) (fun _ _ _ h => h) (Or.inr ⟨by first | with_unfolding_all rfl | kernel_rfl | (simp [Region.wanted, yielded]), rfl⟩) (by assumption) ?_
                  (try simp only [Act.put, List.setIfInBounds_toArray, List.set_cons_zero, List.set_cons_succ])
                  refine wpAnyH_take (i := 10) (oi := _) (v := undef) (by (try simp only [List.getElem?_toArray, List.getElem?_cons_succ, List.getElem?_cons_zero]); rfl) (by kernel_rfl) (by kernel_rfl) (by kernel_rfl) (fun _ _ _ h => h) (Or.inr ⟨by first | with_unfolding_all rfl | kernel_rfl | (simp [Region.wanted, yielded]), rfl⟩) (by assumption) ?_
                  (try simp only [Act.put, List.setIfInBounds_toArray, List.set_cons_zero, List.set_cons_succ])
                  refine wpAnyH_take (i := 11) (oi := _) (v := ?_) (by (try simp only [List.getElem?_toArray, List.getElem?_cons_succ, List.getElem?_cons_zero]); rfl) (by kernel_rfl) (by kernel_rfl) (by kernel_rfl) (fun _ _ _ h => h) (Or.inl ⟨by rfl, ?_⟩) (by assumption) ?_
                  rotate_left
                  next => (rintro w' ⟨k0, k1, k2, k3, kb⟩; go_simp; (try with_reducible rfl))
                  (try simp only [Act.put, List.setIfInBounds_toArray, List.set_cons_zero, List.set_cons_succ])
                  refine wpAnyH_take (i := 12) (oi := _) (v := ?_) (by (try simp only [List.getElem?_toArray, List.getElem?_cons_succ, List.getElem?_cons_zero]); rfl) (by kernel_rfl) (by kernel_rfl) (by kernel_rfl) (fun _ _ _ h => h) (Or.inl ⟨by rfl, ?_⟩) (by assumption) ?_
                  rotate_left
                  next => (rintro w' ⟨k0, k1, k2, k3, kb⟩; go_simp; (try with_reducible rfl))
                  (try simp only [Act.put, List.setIfInBounds_toArray, List.set_cons_zero, List.set_cons_succ])
                  refine wpAnyH_take (i := 13) (oi := _) (v := ?_) (by (try simp only [List.getElem?_toArray, List.getElem?_cons_succ, List.getElem?_cons_zero]); rfl) (by kernel_rfl) (by kernel_rfl) (by kernel_rfl) (fun _ _ _ h => h) (Or.inl ⟨by rfl, ?_⟩) (by assumption) ?_
                  rotate_left
                  next => (rintro w' ⟨k0, k1, k2, k3, kb⟩; go_simp; (try with_reducible rfl))
                  (try simp only [Act.put, List.setIfInBounds_toArray, List.set_cons_zero, List.set_cons_succ])
                  refine wpAnyH_take (i := 14) (oi := _) (v := ?_) (by (try simp only [List.getElem?_toArray, List.getElem?_cons_succ, List.getElem?_cons_zero]); rfl) (by kernel_rfl) (by kernel_rfl) (by kernel_rfl) (fun _ _ _ h => h) (Or.inl ⟨by rfl, ?_⟩) (by assumption) ?_
                  rotate_left
                  next => (rintro w' ⟨k0, k1, k2, k3, kb⟩; go_simp; (try with_reducible rfl))
                  (try simp only [Act.put, List.setIfInBounds_toArray, List.set_cons_zero, List.set_cons_succ])
                  refine wpAnyH_take (i := 15) (oi := _) (v := ?_) (by (try simp only [List.getElem?_toArray, List.getElem?_cons_succ, List.getElem?_cons_zero]); rfl) (by kernel_rfl) (by kernel_rfl) (by kernel_rfl) (fun _ _ _ h => h) (Or.inl ⟨by rfl, ?_⟩) (by assumption) ?_
                  rotate_left
                  next => (rintro w' ⟨k0, k1, k2, k3, kb⟩; go_simp; (try with_reducible rfl))
                  (try simp only [Act.put, List.setIfInBounds_toArray, List.set_cons_zero, List.set_cons_succ])
                  refine wpAnyH_take (i := 16) (oi := _) (v := ?_) (by (try simp only [List.getElem?_toArray, List.getElem?_cons_succ, List.getElem?_cons_zero]); rfl) (by kernel_rfl) (by kernel_rfl) (by kernel_rfl) (fun _ _ _ h => h) (Or.inl ⟨by rfl, ?_⟩) (by assumption) ?_
                  rotate_left
                  next => (rintro w' ⟨k0, k1, k2, k3, kb⟩; go_simp; (try with_reducible rfl))
                  (try simp only [Act.put, List.setIfInBounds_toArray, List.set_cons_zero, List.set_cons_succ])
                  refine wpAnyH_take (i := 17) (oi := _) (v := undef) (by (try simp only [List.getElem?_toArray, List.getElem?_cons_succ, List.getElem?_cons_zero]); rfl) (by kernel_rfl) (by kernel_rfl) (by kernel_rfl) (fun _ _ _ h => h) (Or.inr ⟨by first | with_unfolding_all rfl | kernel_rfl | (simp [Region.wanted, yielded]), rfl⟩) (by assumption) ?_
                  (try simp only [Act.put, List.setIfInBounds_toArray, List.set_cons_zero, List.set_cons_succ])
                  refine wpAnyH_take (i := 18) (oi := _) (v := undef) (by (try simp only [List.getElem?_toArray, List.getElem?_cons_succ, List.getElem?_cons_zero]); rfl) (by kernel_rfl) (by kernel_rfl) (by kernel_rfl) (fun _ _ _ h => h) (Or.inr ⟨by first | with_unfolding_all rfl | kernel_rfl | (simp [Region.wanted, yielded]), rfl⟩) (by assumption) ?_
                  (try simp only [Act.put, List.setIfInBounds_toArray, List.set_cons_zero, List.set_cons_succ])
                  refine wpAnyH_take (i := 19) (oi := _) (v := undef) (by (try simp only [List.getElem?_toArray, List.getElem?_cons_succ, List.getElem?_cons_zero]); rfl) (by kernel_rfl) (by kernel_rfl) (by kernel_rfl) (fun _ _ _ h => h) (Or.inr ⟨by first | with_unfolding_all rfl | kernel_rfl | (simp [Region.wanted, yielded]), rfl⟩) (by assumption) ?_
                  (try simp only [Act.put, List.setIfInBounds_toArray, List.set_cons_zero, List.set_cons_succ])
                  refine wpAnyH_take (i := 20) (oi := _) (v := ?_) (by (try simp only [List.getElem?_toArray, List.getElem?_cons_succ, List.getElem?_cons_zero]); rfl) (by kernel_rfl) (by kernel_rfl) (by kernel_rfl) (fun _ _ _ h => h) (Or.inl ⟨by rfl, ?_⟩) (by assumption) ?_
                  rotate_left
                  next => (rintro w' ⟨k0, k1, k2, k3, kb⟩; go_simp; (try with_reducible rfl))
                  (try simp only [Act.put, List.setIfInBounds_toArray, List.set_cons_zero, List.set_cons_succ])
                  refine wpAnyH_take (i := 21) (oi := _) (v := ?_) (by (try simp only [List.getElem?_toArray, List.getElem?_cons_succ, List.getElem?_cons_zero]); rfl) (by kernel_rfl) (by kernel_rfl) (by kernel_rfl) (fun _ _ _ h => h) (Or.inl ⟨by rfl, ?_⟩) (by assumption) ?_
                  rotate_left
                  next => (rintro w' ⟨k0, k1, k2, k3, kb⟩; go_simp; (try with_reducible rfl))
                  (try simp only [Act.put, List.setIfInBounds_toArray, List.set_cons_zero, List.set_cons_succ])
                  refine wpAnyH_take (i := 22) (oi := _) (v := undef) (by (try simp only [List.getElem?_toArray, List.getElem?_cons_succ, List.getElem?_cons_zero]); rfl) (by kernel_rfl) (by kernel_rfl) (by kernel_rfl) (fun _ _ _ h => h) (Or.inr ⟨by first | with_unfolding_all rfl | kernel_rfl | (simp [Region.wanted, yielded]), rfl⟩) (by assumption) ?_
                  (try simp only [Act.put, List.setIfInBounds_toArray, List.set_cons_zero, List.set_cons_succ])
                  refine wpAnyH_take (i := 23) (oi := _) (v := undef) (by (try simp only [List.getElem?_toArray, List.getElem?_cons_succ, List.getElem?_cons_zero]); rfl) (by kernel_rfl) (by kernel_rfl) (by kernel_rfl) (fun _ _ _ h => h) (Or.inr ⟨by first | with_unfolding_all rfl | kernel_rfl | (simp [Region.wanted, yielded]), rfl⟩) (by assumption) ?_
                  (try simp only [Act.put, List.setIfInBounds_toArray, List.set_cons_zero, List.set_cons_succ])
                  refine wpAnyH_take (i := 24) (oi := _) (v := undef) (by (try simp only [List.getElem?_toArray, List.getElem?_cons_succ, List.getElem?_cons_zero]); rfl) (by kernel_rfl) (by kernel_rfl) (by kernel_rfl) (fun _ _ _ h => h) (Or.inr ⟨by first | with_unfolding_all rfl | kernel_rfl | (simp [Region.wanted, yielded]), rfl⟩) (by assumption) ?_
                  (try simp only [Act.put, List.setIfInBounds_toArray, List.set_cons_zero, List.set_cons_succ])
                  refine wpAnyH_take (i := 25) (oi := _) (v := undef) (by (try simp only [List.getElem?_toArray, List.getElem?_cons_succ, List.getElem?_cons_zero]); rfl) (by kernel_rfl) (by kernel_rfl) (by kernel_rfl) (fun _ _ _ h => h) (Or.inr ⟨by first | with_unfolding_all rfl | kernel_rfl | (simp [Region.wanted, yielded]), rfl⟩) (by assumption) ?_
                  (try simp only [Act.put, List.setIfInBounds_toArray, List.set_cons_zero, List.set_cons_succ])
                  refine wpAnyH_take (i := 26) (oi := _) (v := undef) (by (try simp only [List.getElem?_toArray, List.getElem?_cons_succ, List.getElem?_cons_zero]); rfl) (by kernel_rfl) (by kernel_rfl) (by kernel_rfl) (fun _ _ _ h => h) (Or.inr ⟨by first | with_unfolding_all rfl | kernel_rfl | (simp [Region.wanted, yielded]), rfl⟩) (by assumption) ?_
                  (try simp only [Act.put, List.setIfInBounds_toArray, List.set_cons_zero, List.set_cons_succ])
                  refine wpAnyH_take (i := 27) (oi := _) (v := undef) (by (try simp only [List.getElem?_toArray, List.getElem?_cons_succ, List.getElem?_cons_zero]); rfl) (by kernel_rfl) (by kernel_rfl) (by kernel_rfl) (fun _ _ _ h => h) (Or.inr ⟨by first | with_unfolding_all rfl | kernel_rfl | (simp [Region.wanted, yielded]), rfl⟩) (by assumption) ?_
                  (try simp only [Act.put, List.setIfInBounds_toArray, List.set_cons_zero, List.set_cons_succ])
                  refine wpAnyH_take (i := 28) (oi := _) (v := undef) (by (try simp only [List.getElem?_toArray, List.getElem?_cons_succ, List.getElem?_cons_zero]); rfl) (by kernel_rfl) (by kernel_rfl) (by kernel_rfl) (fun _ _ _ h => h) (Or.inr ⟨by first | with_unfolding_all rfl | kernel_rfl | (simp [Region.wanted, yielded]), rfl⟩) (by assumption) ?_
                  (try simp only [Act.put, List.setIfInBounds_toArray, List.set_cons_zero, List.set_cons_succ])
                  refine wpAnyH_take (i := 29) (oi := _) (v := ?_) (by (try simp only [List.getElem?_toArray, List.getElem?_cons_succ, List.getElem?_cons_zero]); rfl) (by kernel_rfl) (by kernel_rfl) (by kernel_rfl) (fun _ _ _ h => h) (Or.inl ⟨by rfl, ?_⟩) (by assumption) ?_
                  rotate_left
                  next => (rintro w' ⟨k0, k1, k2, k3, kb⟩; go_simp; (try with_reducible rfl))
                  (try simp only [Act.put, List.setIfInBounds_toArray, List.set_cons_zero, List.set_cons_succ])
                  refine wpAnyH_take (i := 30) (oi := _) (v := ?_) (by (try simp only [List.getElem?_toArray, List.getElem?_cons_succ, List.getElem?_cons_zero]); rfl) (by kernel_rfl) (by kernel_rfl) (by kernel_rfl) (fun _ _ _ h => h) (Or.inl ⟨by rfl, ?_⟩) (by assumption) ?_
                  rotate_left
                  next => (rintro w' ⟨k0, k1, k2, k3, kb⟩; go_simp; (try with_reducible rfl))
                  (try simp only [Act.put, List.setIfInBounds_toArray, List.set_cons_zero, List.set_cons_succ])
                  refine wpAnyH_done (by kernel_rfl) ?_ _
                  refine NoPanic.normal ?_
                  have HS9 : Hid (BrS WS TB UB x 1 u1 u2 _) := Lib.hid hS
                  (try clear hS)
                  go_wp2_with fail
                  go_roundw
                  case rel => exact ⟨j + 1, hjk, by go_num, Lib.hid (HTW.out.on HS9.out.2.2.2.2), Lib.hid (HBW2.out.trans (HS9.out.2.2.2.2.mono HBW2.out.size))⟩
                  case measure => simp [intOf]; omega
                · have hn1 : ¬ j < i := by omega
                  by_cases hu : u2 = 2
                  · have hu2 : (u2 != 2) = false := by rw [hu]; rfl
                    clear l1 l2 hu
                    clear x0 x1 x2 x3 xb
                    refine wp_region_noPanic ?_
                    refine wp_region_held_drew (S := (fun V => V.cell? ⟨TB, 0, none⟩ = some (.int .i64 x) ∧ V.cell? ⟨TB, 1, none⟩ = some (.int .i64 1) ∧ V.cell? ⟨UB, 0, none⟩ = some (.int .i64 u1) ∧ V.cell? ⟨UB, 1, none⟩ = some (.int .i64 u2) ∧ Below WS.heap.size WS V)) (by kernel_rfl) (BrS.drew HS0.out) (fun hS => ?_)
                    refine wpAnyH_take (i := 0) (oi := _) (v := ?_) (by (try simp only [List.getElem?_toArray, List.getElem?_cons_zero]); rfl) (by kernel_rfl) (by kernel_rfl) (by kernel_rfl) (fun _ _ _ h => h) (Or.inl ⟨by rfl, ?_⟩) (by assumption) ?_
                    rotate_left
                    next => (rintro w' ⟨k0, k1, k2, k3, kb⟩; go_simp; (try with_reducible rfl))
                    (try simp only [Act.put, List.setIfInBounds_toArray, List.set_cons_zero, List.set_cons_succ])
                    refine wpAnyH_take (i := 1) (oi := _) (v := ?_) (by (try simp only [List.getElem?_toArray, List.getElem?_cons_succ, List.getElem?_cons_zero]); rfl) (by kernel_rfl) (by kernel_rfl) (by kernel_rfl) (fun _ _ _ h => h) (Or.inl ⟨by rfl, ?_⟩) (by assumption) ?_
                    rotate_left
                    next => (rintro w' ⟨k0, k1, k2, k3, kb⟩; go_simp; (try with_reducible rfl))
                    (try simp only [Act.put, List.setIfInBounds_toArray, List.set_cons_zero, List.set_cons_succ])
                    refine wpAnyH_take (i := 2) (oi := _) (v := ?_) (by (try simp only [List.getElem?_toArray, List.getElem?_cons_succ, List.getElem?_cons_zero]); rfl) (by kernel_rfl) (by kernel_rfl) (by kernel_rfl) (fun _ _ _ h => h) (Or.inl ⟨by rfl, ?_⟩) (by assumption) ?_
                    rotate_left
                    next => (rintro w' ⟨k0, k1, k2, k3, kb⟩; go_simp; (try with_reducible rfl))
                    (try simp only [Act.put, List.setIfInBounds_toArray, List.set_cons_zero, List.set_cons_succ])
                    refine wpAnyH_take (i := 3) (oi := _) (v := ?_) (by (try simp only [List.getElem?_toArray, List.getElem?_cons_succ, List.getElem?_cons_zero]); rfl) (by kernel_rfl) (by kernel_rfl) (by kernel_rfl) (fun _ _ _ h => h) (Or.inl ⟨by rfl, ?_⟩) (by assumption) ?_
                    rotate_left
                    next => (rintro w' ⟨k0, k1, k2, k3, kb⟩; go_simp; (try with_reducible rfl))
                    (try simp only [Act.put, List.setIfInBounds_toArray, List.set_cons_zero, List.set_cons_succ])
                    refine wpAnyH_take (i := 4) (oi := _) (v := undef) (by (try simp only [List.getElem?_toArray, List.getElem?_cons_succ, List.getElem?_cons_zero]); rfl) (by kernel_rfl) (by kernel_rfl) (by kernel_rfl) (fun _ _ _ h => h) (Or.inr ⟨by first | with_unfolding_all rfl | kernel_rfl | (simp [Region.wanted, yielded]), rfl⟩) (by assumption) ?_
                    (try simp only [Act.put, List.setIfInBounds_toArray, List.set_cons_zero, List.set_cons_succ])
                    refine wpAnyH_take (i := 5) (oi := _) (v := undef) (by (try simp only [List.getElem?_toArray, List.getElem?_cons_succ, List.getElem?_cons_zero]); rfl) (by kernel_rfl) (by kernel_rfl) (by kernel_rfl) (fun _ _ _ h => h) (Or.inr ⟨by first | with_unfolding_all rfl | kernel_rfl | (simp [Region.wanted, yielded]), rfl⟩) (by assumption) ?_
                    (try simp only [Act.put, List.setIfInBounds_toArray, List.set_cons_zero, List.set_cons_succ])
                    refine wpAnyH_take (i := 6) (oi := _) (v := undef) (by (try simp only [List.getElem?_toArray, List.getElem?_cons_succ, List.getElem?_cons_zero]); rfl) (by kernel_rfl) (by kernel_rfl) (by kernel_rfl) (fun _ _ _ h => h) (Or.inr ⟨by first | with_unfolding_all rfl | kernel_rfl | (simp [Region.wanted, yielded]), rfl⟩) (by assumption) ?_
                    (try simp only [Act.put, List.setIfInBounds_toArray, List.set_cons_zero, List.set_cons_succ])
                    refine wpAnyH_take (i := 7) (oi := _) (v := undef) (by (try simp only [List.getElem?_toArray, List.getElem?_cons_succ, List.getElem?_cons_zero]); rfl) (by kernel_rfl) (by kernel_rfl) (by kernel_rfl) (fun _ _ _ h => h) (Or.inr ⟨by first | with_unfolding_all rfl | kernel_rfl | (simp [Region.wanted, yielded]), rfl⟩) (by assumption) ?_
                    (try simp only [Act.put, List.setIfInBounds_toArray, List.set_cons_zero, List.set_cons_succ])
                    refine wpAnyH_take (i := 8) (oi := _) (v := undef) (by (try simp only [List.getElem?_toArray, List.getElem?_cons_succ, List.getElem?_cons_zero]); rfl) (by kernel_rfl) (by kernel_rfl) (by kernel_rfl) (fun _ _ _ h => h) (Or.inr ⟨by first | with_unfolding_all rfl | kernel_rfl | (simp [Region.wanted, yielded]), rfl⟩) (by assumption) ?_
                    (try simp only [Act.put, List.setIfInBounds_toArray, List.set_cons_zero, List.set_cons_succ])
                    refine wpAnyH_take (i := 9) (oi := _) (v := undef) (by (try simp only [List.getElem?_toArray, List.getElem?_cons_succ, List.getElem?_cons_zero]); rfl) (by kernel_rfl) (by kernel_rfl) (by kernel_rfl) (fun _ _ _ h => h) (Or.inr ⟨by first | with_unfolding_all rfl | kernel_rfl | (simp [Region.wanted, yielded]), rfl⟩) (by assumption) ?_
                    (try simp only [Act.put, List.setIfInBounds_toArray, List.set_cons_zero, List.set_cons_succ])
                    refine wpAnyH_take (i := 10) (oi := _) (v := undef) (by (try simp only [List.getElem?_toArray, List.getElem?_cons_succ, List.getElem?_cons_zero]); rfl) (by kernel_rfl) (by kernel_rfl) (by kernel_rfl) (fun _ _ _ h => h) (Or.inr ⟨by first | with_unfolding_all rfl | kernel_rfl | (simp [Region.wanted, yielded]), rfl⟩) (by assumption) ?_
                    (try simp only [Act.put, List.setIfInBounds_toArray, List.set_cons_zero, List.set_cons_succ])
                    refine wpAnyH_take (i := 11) (oi := _) (v := ?_) (by (try simp only [List.getElem?_toArray, List.getElem?_cons_succ, List.getElem?_cons_zero]); rfl) (by kernel_rfl) (by kernel_rfl) (by kernel_rfl) (fun _ _ _ h => h) (Or.inl ⟨by rfl, ?_⟩) (by assumption) ?_
                    rotate_left
                    next => (rintro w' ⟨k0, k1, k2, k3, kb⟩; go_simp; (try with_reducible rfl))
                    (try simp only [Act.put, List.setIfInBounds_toArray, List.set_cons_zero, List.set_cons_succ])
                    refine wpAnyH_take (i := 12) (oi := _) (v := ?_) (by (try simp only [List.getElem?_toArray, List.getElem?_cons_succ, List.getElem?_cons_zero]); rfl) (by kernel_rfl) (by kernel_rfl) (by kernel_rfl) (fun _ _ _ h => h) (Or.inl ⟨by rfl, ?_⟩) (by assumption) ?_
                    rotate_left
                    next => (rintro w' ⟨k0, k1, k2, k3, kb⟩; go_simp; (try with_reducible rfl))
                    (try simp only [Act.put, List.setIfInBounds_toArray, List.set_cons_zero, List.set_cons_succ])
                    refine wpAnyH_take (i := 13) (oi := _) (v := ?_) (by (try simp only [List.getElem?_toArray, List.getElem?_cons_succ, List.getElem?_cons_zero]); rfl) (by kernel_rfl) (by kernel_rfl) (by kernel_rfl) (fun _ _ _ h => h) (Or.inl ⟨by rfl, ?_⟩) (by assumption) ?_
                    rotate_left
                    next => (rintro w' ⟨k0, k1, k2, k3, kb⟩; go_simp; (try with_reducible rfl))
                    (try simp only [Act.put, List.setIfInBounds_toArray, List.set_cons_zero, List.set_cons_succ])
                    refine wpAnyH_take (i := 14) (oi := _) (v := ?_) (by (try simp only [List.getElem?_toArray, List.getElem?_cons_succ, List.getElem?_cons_zero]); rfl) (by kernel_rfl) (by kernel_rfl) (by kernel_rfl) (fun _ _ _ h => h) (Or.inl ⟨by rfl, ?_⟩) (by assumption) ?_
                    rotate_left
                    next => (rintro w' ⟨k0, k1, k2, k3, kb⟩; go_simp; (try with_reducible rfl))
                    (try simp only [Act.put, List.setIfInBounds_toArray, List.set_cons_zero, List.set_cons_succ])
                    refine wpAnyH_take (i := 15) (oi := _) (v := ?_) (by (try simp only [List.getElem?_toArray, List.getElem?_cons_succ, List.getElem?_cons_zero]); rfl) (by kernel_rfl) (by kernel_rfl) (by kernel_rfl) (fun _ _ _ h => h) (Or.inl ⟨by rfl, ?_⟩) (by assumption) ?_
                    rotate_left
                    next => (rintro w' ⟨k0, k1, k2, k3, kb⟩; go_simp; (try with_reducible rfl))
                    (try simp only [Act.put, List.setIfInBounds_toArray, List.set_cons_zero, List.set_cons_succ])
                    refine wpAnyH_take (i := 16) (oi := _) (v := ?_) (by (try simp only [List.getElem?_toArray, List.getElem?_cons_succ, List.getElem?_cons_zero]); rfl) (by kernel_rfl) (by kernel_rfl) (by kernel_rfl) (fun _ _ _ h => h) (Or.inl ⟨by rfl, ?_⟩) (by assumption) ?_
                    rotate_left
                    next => (rintro w' ⟨k0, k1, k2, k3, kb⟩; go_simp; (try with_reducible rfl))
                    (try simp only [Act.put, List.setIfInBounds_toArray, List.set_cons_zero, List.set_cons_succ])
                    refine wpAnyH_take (i := 17) (oi := _) (v := ?_) (by (try simp only [List.getElem?_toArray, List.getElem?_cons_succ, List.getElem?_cons_zero]); rfl) (by kernel_rfl) (by kernel_rfl) (by kernel_rfl) (fun _ _ _ h => h) (Or.inl ⟨by rfl, ?_⟩) (by assumption) ?_
                    rotate_left
                    next => (rintro w' ⟨k0, k1, k2, k3, kb⟩; go_simp; (try with_reducible rfl))
                    (try simp only [Act.put, List.setIfInBounds_toArray, List.set_cons_zero, List.set_cons_succ])
                    refine wpAnyH_take (i := 18) (oi := _) (v := ?_) (by (try simp only [List.getElem?_toArray, List.getElem?_cons_succ, List.getElem?_cons_zero]); rfl) (by kernel_rfl) (by kernel_rfl) (by kernel_rfl) (fun _ _ _ h => h) (Or.inl ⟨by rfl, ?_⟩) (by assumption) ?_
                    rotate_left
                    next => (rintro w' ⟨k0, k1, k2, k3, kb⟩; go_simp; (try with_reducible rfl))
                    (try simp only [Act.put, List.setIfInBounds_toArray, List.set_cons_zero, List.set_cons_succ])
                    refine wpAnyH_take (i := 19) (oi := _) (v := ?_) (by (try simp only [List.getElem?_toArray, List.getElem?_cons_succ, List.getElem?_cons_zero]); rfl) (by kernel_rfl) (by kernel_rfl) (by kernel_rfl) (fun _ _ _ h => h) (Or.inl ⟨by rfl, ?_⟩) (by assumption) ?_
                    rotate_left
                    next => (rintro w' ⟨k0, k1, k2, k3, kb⟩; go_simp; (try with_reducible rfl))
                    (try simp only [Act.put, List.setIfInBounds_toArray, List.set_cons_zero, List.set_cons_succ])
                    refine wpAnyH_take (i := 20) (oi := _) (v := ?_) (by (try simp only [List.getElem?_toArray, List.getElem?_cons_succ, List.getElem?_cons_zero]); rfl) (by kernel_rfl) (by kernel_rfl) (by kernel_rfl) (fun _ _ _ h => h) (Or.inl ⟨by rfl, ?_⟩) (by assumption) ?_
                    rotate_left
                    next => (rintro w' ⟨k0, k1, k2, k3, kb⟩; go_simp; (try with_reducible rfl))
                    (try simp only [Act.put, List.setIfInBounds_toArray, List.set_cons_zero, List.set_cons_succ])
                    refine wpAnyH_take (i := 21) (oi := _) (v := ?_) (by (try simp only [List.getElem?_toArray, List.getElem?_cons_succ, List.getElem?_cons_zero]); rfl) (by kernel_rfl) (by kernel_rfl) (by kernel_rfl) (fun _ _ _ h => h) (Or.inl ⟨by rfl, ?_⟩) (by assumption) ?_
                    rotate_left
                    next => (rintro w' ⟨k0, k1, k2, k3, kb⟩; go_simp; (try with_reducible rfl))
                    (try simp only [Act.put, List.setIfInBounds_toArray, List.set_cons_zero, List.set_cons_succ])
                    refine wpAnyH_take (i := 22) (oi := _) (v := undef) (by (try simp only [List.getElem?_toArray, List.getElem?_cons_succ, List.getElem?_cons_zero]); rfl) (by kernel_rfl) (by kernel_rfl) (by kernel_rfl) (fun _ _ _ h => h) (Or.inr ⟨by first | with_unfolding_all rfl | kernel_rfl | (simp [Region.wanted, yielded]), rfl⟩) (by assumption) ?_
                    (try simp only [Act.put, List.setIfInBounds_toArray, List.set_cons_zero, List.set_cons_succ])
                    refine wpAnyH_take (i := 23) (oi := _) (v := undef) (by (try simp only [List.getElem?_toArray, List.getElem?_cons_succ, List.getElem?_cons_zero]); rfl) (by kernel_rfl) (by kernel_rfl) (by kernel_rfl) (fun _ _ _ h => h) (Or.inr ⟨by first | with_unfolding_all rfl | kernel_rfl | (simp [Region.wanted, yielded]), rfl⟩) (by assumption) ?_
                    (try simp only [Act.put, List.setIfInBounds_toArray, List.set_cons_zero, List.set_cons_succ])
                    refine wpAnyH_take (i := 24) (oi := _) (v := undef) (by (try simp only [List.getElem?_toArray, List.getElem?_cons_succ, List.getElem?_cons_zero]); rfl) (by kernel_rfl) (by kernel_rfl) (by kernel_rfl) (fun _ _ _ h => h) (Or.inr ⟨by first | with_unfolding_all rfl | kernel_rfl | (simp [Region.wanted, yielded]), rfl⟩) (by assumption) ?_
                    (try simp only [Act.put, List.setIfInBounds_toArray, List.set_cons_zero, List.set_cons_succ])
                    refine wpAnyH_take (i := 25) (oi := _) (v := undef) (by (try simp only [List.getElem?_toArray, List.getElem?_cons_succ, List.getElem?_cons_zero]); rfl) (by kernel_rfl) (by kernel_rfl) (by kernel_rfl) (fun _ _ _ h => h) (Or.inr ⟨by first | with_unfolding_all rfl | kernel_rfl | (simp [Region.wanted, yielded]), rfl⟩) (by assumption) ?_
                    (try simp only [Act.put, List.setIfInBounds_toArray, List.set_cons_zero, List.set_cons_succ])
                    refine wpAnyH_take (i := 26) (oi := _) (v := undef) (by (try simp only [List.getElem?_toArray, List.getElem?_cons_succ, List.getElem?_cons_zero]); rfl) (by kernel_rfl) (by kernel_rfl) (by kernel_rfl) (fun _ _ _ h => h) (Or.inr ⟨by first | with_unfolding_all rfl | kernel_rfl | (simp [Region.wanted, yielded]), rfl⟩) (by assumption) ?_
                    (try simp only [Act.put, List.setIfInBounds_toArray, List.set_cons_zero, List.set_cons_succ])
                    refine wpAnyH_take (i := 27) (oi := _) (v := undef) (by (try simp only [List.getElem?_toArray, List.getElem?_cons_succ, List.getElem?_cons_zero]); rfl) (by kernel_rfl) (by kernel_rfl) (by kernel_rfl) (fun _ _ _ h => h) (Or.inr ⟨by first | with_unfolding_all rfl | kernel_rfl | (simp [Region.wanted, yielded]), rfl⟩) (by assumption) ?_
                    (try simp only [Act.put, List.setIfInBounds_toArray, List.set_cons_zero, List.set_cons_succ])
                    refine wpAnyH_take (i := 28) (oi := _) (v := undef) (by (try simp only [List.getElem?_toArray, List.getElem?_cons_succ, List.getElem?_cons_zero]); rfl) (by kernel_rfl) (by kernel_rfl) (by kernel_rfl) (fun _ _ _ h => h) (Or.inr ⟨by first | with_unfolding_all rfl | kernel_rfl | (simp [Region.wanted, yielded]), rfl⟩) (by assumption) ?_
                    (try simp only [Act.put, List.setIfInBounds_toArray, List.set_cons_zero, List.set_cons_succ])
                    refine wpAnyH_take (i := 29) (oi := _) (v := ?_) (by (try simp only [List.getElem?_toArray, List.getElem?_cons_succ, List.getElem?_cons_zero]); rfl) (by kernel_rfl) (by kernel_rfl) (by kernel_rfl) (fun _ _ _ h => h) (Or.inl ⟨by rfl, ?_⟩) (by assumption) ?_
                    rotate_left
                    next => (rintro w' ⟨k0, k1, k2, k3, kb⟩; go_simp; (try with_reducible rfl))
                    (try simp only [Act.put, List.setIfInBounds_toArray, List.set_cons_zero, List.set_cons_succ])
                    refine wpAnyH_take (i := 30) (oi := _) (v := ?_) (by (try simp only [List.getElem?_toArray, List.getElem?_cons_succ, List.getElem?_cons_zero]); rfl) (by kernel_rfl) (by kernel_rfl) (by kernel_rfl) (fun _ _ _ h => h) (Or.inl ⟨by rfl, ?_⟩) (by assumption) ?_
                    rotate_left
                    next => (rintro w' ⟨k0, k1, k2, k3, kb⟩; go_simp; (try with_reducible rfl))
                    (try simp only [Act.put, List.setIfInBounds_toArray, List.set_cons_zero, List.set_cons_succ])
                    refine wpAnyH_done (by kernel_rfl) ?_ _
                    refine NoPanic.normal ?_
                    have HS9 : Hid (BrS WS TB UB x 1 u1 u2 _) := Lib.hid hS
                    (try clear hS)
                    go_wp2_with fail
                    go_roundw
                    case rel => exact ⟨j + 1, hjk, by go_num, Lib.hid (HTW.out.on HS9.out.2.2.2.2), Lib.hid (HBW2.out.trans (HS9.out.2.2.2.2.mono HBW2.out.size))⟩
                    case measure => simp [intOf]; omega
                  · have hu2 : (u2 != 2) = true := bne_iff_ne.2 hu
                    have hp : decide (p2 < p1) = false := decide_eq_false (by have := l1 hji hu; omega)
                    clear l1 l2
                    clear x0 x1 x2 x3 xb
                    refine wp_region_noPanic ?_
                    refine wp_region_held_drew (S := (fun V => V.cell? ⟨TB, 0, none⟩ = some (.int .i64 x) ∧ V.cell? ⟨TB, 1, none⟩ = some (.int .i64 1) ∧ V.cell? ⟨UB, 0, none⟩ = some (.int .i64 u1) ∧ V.cell? ⟨UB, 1, none⟩ = some (.int .i64 u2) ∧ Below WS.heap.size WS V)) (by kernel_rfl) (BrS.drew HS0.out) (fun hS => ?_)
                    refine wpAnyH_take (i := 0) (oi := _) (v := ?_) (by (try simp only [List.getElem?_toArray, List.getElem?_cons_zero]); rfl) (by kernel_rfl) (by kernel_rfl) (by kernel_rfl) (fun _ _ _ h => h) (Or.inl ⟨by rfl, ?_⟩) (by assumption) ?_
                    rotate_left
                    next => (rintro w' ⟨k0, k1, k2, k3, kb⟩; go_simp; (try with_reducible rfl))
                    (try simp only [Act.put, List.setIfInBounds_toArray, List.set_cons_zero, List.set_cons_succ])
                    refine wpAnyH_take (i := 1) (oi := _) (v := ?_) (by (try simp only [List.getElem?_toArray, List.getElem?_cons_succ, List.getElem?_cons_zero]); rfl) (by kernel_rfl) (by kernel_rfl) (by kernel_rfl) (fun _ _ _ h => h) (Or.inl ⟨by rfl, ?_⟩) (by assumption) ?_
                    rotate_left
                    next => (rintro w' ⟨k0, k1, k2, k3, kb⟩; go_simp; (try with_reducible rfl))
                    (try simp only [Act.put, List.setIfInBounds_toArray, List.set_cons_zero, List.set_cons_succ])
                    refine wpAnyH_take (i := 2) (oi := _) (v := ?_) (by (try simp only [List.getElem?_toArray, List.getElem?_cons_succ, List.getElem?_cons_zero]); rfl) (by kernel_rfl) (by kernel_rfl) (by kernel_rfl) (fun _ _ _ h => h) (Or.inl ⟨by rfl, ?_⟩) (by assumption) ?_
                    rotate_left
                    next => (rintro w' ⟨k0, k1, k2, k3, kb⟩; go_simp; (try with_reducible rfl))
                    (try simp only [Act.put, List.setIfInBounds_toArray, List.set_cons_zero, List.set_cons_succ])
                    refine wpAnyH_take (i := 3) (oi := _) (v := ?_) (by (try simp only [List.getElem?_toArray, List.getElem?_cons_succ, List.getElem?_cons_zero]); rfl) (by kernel_rfl) (by kernel_rfl) (by kernel_rfl) (fun _ _ _ h => h) (Or.inl ⟨by rfl, ?_⟩) (by assumption) ?_
                    rotate_left
                    next => (rintro w' ⟨k0, k1, k2, k3, kb⟩; go_simp; (try with_reducible rfl))
                    (try simp only [Act.put, List.setIfInBounds_toArray, List.set_cons_zero, List.set_cons_succ])
                    refine wpAnyH_take (i := 4) (oi := _) (v := undef) (by (try simp only [List.getElem?_toArray, List.getElem?_cons_succ, List.getElem?_cons_zero]); rfl) (by kernel_rfl) (by kernel_rfl) (by kernel_rfl) (fun _ _ _ h => h) (Or.inr ⟨by first | with_unfolding_all rfl | kernel_rfl | (simp [Region.wanted, yielded]), rfl⟩) (by assumption) ?_
                    (try simp only [Act.put, List.setIfInBounds_toArray, List.set_cons_zero, List.set_cons_succ])
                    refine wpAnyH_take (i := 5) (oi := _) (v := undef) (by (try simp only [List.getElem?_toArray, List.getElem?_cons_succ, List.getElem?_cons_zero]); rfl) (by kernel_rfl) (by kernel_rfl) (by kernel_rfl) (fun _ _ _ h => h) (Or.inr ⟨by first | with_unfolding_all rfl | kernel_rfl | (simp [Region.wanted, yielded]), rfl⟩) (by assumption) ?_
                    (try simp only [Act.put, List.setIfInBounds_toArray, List.set_cons_zero, List.set_cons_succ])
                    refine wpAnyH_take (i := 6) (oi := _) (v := undef) (by (try simp only [List.getElem?_toArray, List.getElem?_cons_succ, List.getElem?_cons_zero]); rfl) (by kernel_rfl) (by kernel_rfl) (by kernel_rfl) (fun _ _ _ h => h) (Or.inr ⟨by first | with_unfolding_all rfl | kernel_rfl | (simp [Region.wanted, yielded]), rfl⟩) (by assumption) ?_
                    (try simp only [Act.put, List.setIfInBounds_toArray, List.set_cons_zero, List.set_cons_succ])
                    refine wpAnyH_take (i := 7) (oi := _) (v := undef) (by (try simp only [List.getElem?_toArray, List.getElem?_cons_succ, List.getElem?_cons_zero]); rfl) (by kernel_rfl) (by kernel_rfl) (by kernel_rfl) (fun _ _ _ h => h) (Or.inr ⟨by first | with_unfolding_all rfl | kernel_rfl | (simp [Region.wanted, yielded]), rfl⟩) (by assumption) ?_
                    (try simp only [Act.put, List.setIfInBounds_toArray, List.set_cons_zero, List.set_cons_succ])
                    refine wpAnyH_take (i := 8) (oi := _) (v := undef) (by (try simp only [List.getElem?_toArray, List.getElem?_cons_succ, List.getElem?_cons_zero]); rfl) (by kernel_rfl) (by kernel_rfl) (by kernel_rfl) (fun _ _ _ h => h) (Or.inr ⟨by first | with_unfolding_all rfl | kernel_rfl | (simp [Region.wanted, yielded]), rfl⟩) (by assumption) ?_
                    (try simp only [Act.put, List.setIfInBounds_toArray, List.set_cons_zero, List.set_cons_succ])
                    refine wpAnyH_take (i := 9) (oi := _) (v := undef) (by (try simp only [List.getElem?_toArray, List.getElem?_cons_succ, List.getElem?_cons_zero]); rfl) (by kernel_rfl) (by kernel_rfl) (by kernel_rfl) (fun _ _ _ h => h) (Or.inr ⟨by first | with_unfolding_all rfl | kernel_rfl | (simp [Region.wanted, yielded]), rfl⟩) (by assumption) ?_
                    (try simp only [Act.put, List.setIfInBounds_toArray, List.set_cons_zero, List.set_cons_succ])
                    refine wpAnyH_take (i := 10) (oi := _) (v := undef) (by (try simp only [List.getElem?_toArray, List.getElem?_cons_succ, List.getElem?_cons_zero]); rfl) (by kernel_rfl) (by kernel_rfl) (by kernel_rfl) (fun _ _ _ h => h) (Or.inr ⟨by first | with_unfolding_all rfl | kernel_rfl | (simp [Region.wanted, yielded]), rfl⟩) (by assumption) ?_
                    (try simp only [Act.put, List.setIfInBounds_toArray, List.set_cons_zero, List.set_cons_succ])
                    refine wpAnyH_take (i := 11) (oi := _) (v := ?_) (by (try simp only [List.getElem?_toArray, List.getElem?_cons_succ, List.getElem?_cons_zero]); rfl) (by kernel_rfl) (by kernel_rfl) (by kernel_rfl) (fun _ _ _ h => h) (Or.inl ⟨by rfl, ?_⟩) (by assumption) ?_
                    rotate_left
                    next => (rintro w' ⟨k0, k1, k2, k3, kb⟩; go_simp; (try with_reducible rfl))
                    (try simp only [Act.put, List.setIfInBounds_toArray, List.set_cons_zero, List.set_cons_succ])
                    refine wpAnyH_take (i := 12) (oi := _) (v := ?_) (by (try simp only [List.getElem?_toArray, List.getElem?_cons_succ, List.getElem?_cons_zero]); rfl) (by kernel_rfl) (by kernel_rfl) (by kernel_rfl) (fun _ _ _ h => h) (Or.inl ⟨by rfl, ?_⟩) (by assumption) ?_
                    rotate_left
                    next => (rintro w' ⟨k0, k1, k2, k3, kb⟩; go_simp; (try with_reducible rfl))
                    (try simp only [Act.put, List.setIfInBounds_toArray, List.set_cons_zero, List.set_cons_succ])
                    refine wpAnyH_take (i := 13) (oi := _) (v := ?_) (by (try simp only [List.getElem?_toArray, List.getElem?_cons_succ, List.getElem?_cons_zero]); rfl) (by kernel_rfl) (by kernel_rfl) (by kernel_rfl) (fun _ _ _ h => h) (Or.inl ⟨by rfl, ?_⟩) (by assumption) ?_
                    rotate_left
                    next => (rintro w' ⟨k0, k1, k2, k3, kb⟩; go_simp; (try with_reducible rfl))
                    (try simp only [Act.put, List.setIfInBounds_toArray, List.set_cons_zero, List.set_cons_succ])
                    refine wpAnyH_take (i := 14) (oi := _) (v := ?_) (by (try simp only [List.getElem?_toArray, List.getElem?_cons_succ, List.getElem?_cons_zero]); rfl) (by kernel_rfl) (by kernel_rfl) (by kernel_rfl) (fun _ _ _ h => h) (Or.inl ⟨by rfl, ?_⟩) (by assumption) ?_
                    rotate_left
                    next => (rintro w' ⟨k0, k1, k2, k3, kb⟩; go_simp; (try with_reducible rfl))
                    (try simp only [Act.put, List.setIfInBounds_toArray, List.set_cons_zero, List.set_cons_succ])
                    refine wpAnyH_take (i := 15) (oi := _) (v := ?_) (by (try simp only [List.getElem?_toArray, List.getElem?_cons_succ, List.getElem?_cons_zero]); rfl) (by kernel_rfl) (by kernel_rfl) (by kernel_rfl) (fun _ _ _ h => h) (Or.inl ⟨by rfl, ?_⟩) (by assumption) ?_
                    rotate_left
                    next => (rintro w' ⟨k0, k1, k2, k3, kb⟩; go_simp; (try with_reducible rfl))
                    (try simp only [Act.put, List.setIfInBounds_toArray, List.set_cons_zero, List.set_cons_succ])
                    refine wpAnyH_take (i := 16) (oi := _) (v := ?_) (by (try simp only [List.getElem?_toArray, List.getElem?_cons_succ, List.getElem?_cons_zero]); rfl) (by kernel_rfl) (by kernel_rfl) (by kernel_rfl) (fun _ _ _ h => h) (Or.inl ⟨by rfl, ?_⟩) (by assumption) ?_
                    rotate_left
                    next => (rintro w' ⟨k0, k1, k2, k3, kb⟩; go_simp; (try with_reducible rfl))
                    (try simp only [Act.put, List.setIfInBounds_toArray, List.set_cons_zero, List.set_cons_succ])
                    refine wpAnyH_take (i := 17) (oi := _) (v := ?_) (by (try simp only [List.getElem?_toArray, List.getElem?_cons_succ, List.getElem?_cons_zero]); rfl) (by kernel_rfl) (by kernel_rfl) (by kernel_rfl) (fun _ _ _ h => h) (Or.inl ⟨by rfl, ?_⟩) (by assumption) ?_
                    rotate_left
                    next => (rintro w' ⟨k0, k1, k2, k3, kb⟩; go_simp; (try with_reducible rfl))
                    (try simp only [Act.put, List.setIfInBounds_toArray, List.set_cons_zero, List.set_cons_succ])
                    refine wpAnyH_take (i := 18) (oi := _) (v := ?_) (by (try simp only [List.getElem?_toArray, List.getElem?_cons_succ, List.getElem?_cons_zero]); rfl) (by kernel_rfl) (by kernel_rfl) (by kernel_rfl) (fun _ _ _ h => h) (Or.inl ⟨by rfl, ?_⟩) (by assumption) ?_
                    rotate_left
                    next => (rintro w' ⟨k0, k1, k2, k3, kb⟩; go_simp; (try with_reducible rfl))
                    (try simp only [Act.put, List.setIfInBounds_toArray, List.set_cons_zero, List.set_cons_succ])
                    refine wpAnyH_take (i := 19) (oi := _) (v := ?_) (by (try simp only [List.getElem?_toArray, List.getElem?_cons_succ, List.getElem?_cons_zero]); rfl) (by kernel_rfl) (by kernel_rfl) (by kernel_rfl) (fun _ _ _ h => h) (Or.inl ⟨by rfl, ?_⟩) (by assumption) ?_
                    rotate_left
                    next => (rintro w' ⟨k0, k1, k2, k3, kb⟩; go_simp; (try with_reducible rfl))
                    (try simp only [Act.put, List.setIfInBounds_toArray, List.set_cons_zero, List.set_cons_succ])
                    refine wpAnyH_take (i := 20) (oi := _) (v := ?_) (by (try simp only [List.getElem?_toArray, List.getElem?_cons_succ, List.getElem?_cons_zero]); rfl) (by kernel_rfl) (by kernel_rfl) (by kernel_rfl) (fun _ _ _ h => h) (Or.inl ⟨by rfl, ?_⟩) (by assumption) ?_
                    rotate_left
                    next => (rintro w' ⟨k0, k1, k2, k3, kb⟩; go_simp; (try with_reducible rfl))
                    (try simp only [Act.put, List.setIfInBounds_toArray, List.set_cons_zero, List.set_cons_succ])
                    refine wpAnyH_take (i := 21) (oi := _) (v := ?_) (by (try simp only [List.getElem?_toArray, List.getElem?_cons_succ, List.getElem?_cons_zero]); rfl) (by kernel_rfl) (by kernel_rfl) (by kernel_rfl) (fun _ _ _ h => h) (Or.inl ⟨by rfl, ?_⟩) (by assumption) ?_
                    rotate_left
                    next => (rintro w' ⟨k0, k1, k2, k3, kb⟩; go_simp; (try with_reducible rfl))
                    (try simp only [Act.put, List.setIfInBounds_toArray, List.set_cons_zero, List.set_cons_succ])
                    refine wpAnyH_take (i := 22) (oi := _) (v := ?_) (by (try simp only [List.getElem?_toArray, List.getElem?_cons_succ, List.getElem?_cons_zero]); rfl) (by kernel_rfl) (by kernel_rfl) (by kernel_rfl) (fun _ _ _ h => h) (Or.inl ⟨by rfl, ?_⟩) (by assumption) ?_
                    rotate_left
                    next => (rintro w' ⟨k0, k1, k2, k3, kb⟩; go_simp; (try with_reducible rfl))
                    (try simp only [Act.put, List.setIfInBounds_toArray, List.set_cons_zero, List.set_cons_succ])
                    refine wpAnyH_take (i := 23) (oi := _) (v := ?_) (by (try simp only [List.getElem?_toArray, List.getElem?_cons_succ, List.getElem?_cons_zero]); rfl) (by kernel_rfl) (by kernel_rfl) (by kernel_rfl) (fun _ _ _ h => h) (Or.inl ⟨by rfl, ?_⟩) (by assumption) ?_
                    rotate_left
                    next => (rintro w' ⟨k0, k1, k2, k3, kb⟩; go_simp; (try with_reducible rfl))
                    (try simp only [Act.put, List.setIfInBounds_toArray, List.set_cons_zero, List.set_cons_succ])
                    refine wpAnyH_take (i := 25) (oi := _) (v := ?_) (by (try simp only [List.getElem?_toArray, List.getElem?_cons_succ, List.getElem?_cons_zero]); rfl) (by kernel_rfl) (by kernel_rfl) (by kernel_rfl) (fun _ _ _ h => h) (Or.inl ⟨by rfl, ?_⟩) (by assumption) ?_
                    rotate_left
                    next => (rintro w' ⟨k0, k1, k2, k3, kb⟩; go_simp; (try with_reducible rfl))
                    (try simp only [Act.put, List.setIfInBounds_toArray, List.set_cons_zero, List.set_cons_succ])
                    refine wpAnyH_take (i := 26) (oi := _) (v := ?_) (by (try simp only [List.getElem?_toArray, List.getElem?_cons_succ, List.getElem?_cons_zero]); rfl) (by kernel_rfl) (by kernel_rfl) (by kernel_rfl) (fun _ _ _ h => h) (Or.inl ⟨by rfl, ?_⟩) (by assumption) ?_
                    rotate_left
                    next => (rintro w' ⟨k0, k1, k2, k3, kb⟩; go_simp; (try with_reducible rfl))
                    (try simp only [Act.put, List.setIfInBounds_toArray, List.set_cons_zero, List.set_cons_succ])
                    refine wpAnyH_ready (rs := [24]) (by kernel_rfl) (by simp) ?_
                    refine AllReadyH.cons (o := _) (by (try simp only [List.getElem?_toArray, List.getElem?_cons_succ, List.getElem?_cons_zero]); rfl) (fun K hK => ?_) AllReadyH.nil
                    go_simp
                    go_at_call 36
                    have rq := PU.out _ hS.2.2.2.2
                    with_reducible refine rq.mono ?_
                    clear rq
                    rintro e ws1 ⟨rfl, hbs⟩
                    have hX : (fun V => V.cell? ⟨TB, 0, none⟩ = some (.int .i64 x) ∧ V.cell? ⟨TB, 1, none⟩ = some (.int .i64 1) ∧ V.cell? ⟨UB, 0, none⟩ = some (.int .i64 u1) ∧ V.cell? ⟨UB, 1, none⟩ = some (.int .i64 u2) ∧ Below WS.heap.size WS V) ws1 := BrS.on hS hbs
                    refine hK.out _ _ hX (fun _ => ?_)
                    clear hK K hS hbs
                    (try simp only [Act.put, List.setIfInBounds_toArray, List.set_cons_zero, List.set_cons_succ])
                    have hS := hX
                    clear hX
                    refine wpAnyH_ready (rs := [27]) (by kernel_rfl) (by simp) ?_
                    refine AllReadyH.cons (o := _) (by (try simp only [List.getElem?_toArray, List.getElem?_cons_succ, List.getElem?_cons_zero]); rfl) (fun K hK => ?_) AllReadyH.nil
                    go_simp
                    go_at_call 36
                    have rq := PT.out _ hS.2.2.2.2
                    with_reducible refine rq.mono ?_
                    clear rq
                    rintro e ws2 ⟨rfl, hbs⟩
                    have hX : (fun V => V.cell? ⟨TB, 0, none⟩ = some (.int .i64 x) ∧ V.cell? ⟨TB, 1, none⟩ = some (.int .i64 1) ∧ V.cell? ⟨UB, 0, none⟩ = some (.int .i64 u1) ∧ V.cell? ⟨UB, 1, none⟩ = some (.int .i64 u2) ∧ Below WS.heap.size WS V) ws2 := BrS.on hS hbs
                    refine hK.out _ _ hX (fun _ => ?_)
                    clear hK K hS hbs
                    (try simp only [Act.put, List.setIfInBounds_toArray, List.set_cons_zero, List.set_cons_succ])
                    have hS := hX
                    clear hX
                    refine wpAnyH_take (i := 28) (oi := _) (v := ?_) (by (try simp only [List.getElem?_toArray, List.getElem?_cons_succ, List.getElem?_cons_zero]); rfl) (by kernel_rfl) (by kernel_rfl) (by kernel_rfl) (fun _ _ _ h => h) (Or.inl ⟨by rfl, ?_⟩) (by assumption) ?_
                    rotate_left
                    next => (rintro w' ⟨k0, k1, k2, k3, kb⟩; go_simp; (try with_reducible rfl))
                    (try simp only [Act.put, List.setIfInBounds_toArray, List.set_cons_zero, List.set_cons_succ])
                    refine wpAnyH_take (i := 29) (oi := _) (v := ?_) (by (try simp only [List.getElem?_toArray, List.getElem?_cons_succ, List.getElem?_cons_zero]); rfl) (by kernel_rfl) (by kernel_rfl) (by kernel_rfl) (fun _ _ _ h => h) (Or.inl ⟨by rfl, ?_⟩) (by assumption) ?_
                    rotate_left
                    next => (rintro w' ⟨k0, k1, k2, k3, kb⟩; go_simp; (try with_reducible rfl))
                    (try simp only [Act.put, List.setIfInBounds_toArray, List.set_cons_zero, List.set_cons_succ])
                    refine wpAnyH_take (i := 30) (oi := _) (v := ?_) (by (try simp only [List.getElem?_toArray, List.getElem?_cons_succ, List.getElem?_cons_zero]); rfl) (by kernel_rfl) (by kernel_rfl) (by kernel_rfl) (fun _ _ _ h => h) (Or.inl ⟨by rfl, ?_⟩) (by assumption) ?_
                    rotate_left
                    next => (rintro w' ⟨k0, k1, k2, k3, kb⟩; go_simp; (try with_reducible rfl))
                    (try simp only [Act.put, List.setIfInBounds_toArray, List.set_cons_zero, List.set_cons_succ])
                    refine wpAnyH_done (by kernel_rfl) ?_ _
                    refine NoPanic.normal ?_
                    have HS9 : Hid (BrS WS TB UB x 1 u1 u2 _) := Lib.hid hS
                    (try clear hS)
                    go_wp2_with fail
                    go_roundw
                    case rel => exact ⟨j + 1, hjk, by go_num, Lib.hid (HTW.out.on HS9.out.2.2.2.2), Lib.hid (HBW2.out.trans (HS9.out.2.2.2.2.mono HBW2.out.size))⟩
                    case measure => simp [intOf]; omega
              · obtain rfl : j = k := by omega
                go_wp2_with fail
                go_roundw
                case rel => exact ⟨i + 1, hlt, by go_num, HBU⟩
                case measure => simp [intOf]; omega
          · have ey : (y != 1) = true := bne_iff_ne.2 hy
            go_wp2_with fail
            go_roundw
            case rel => exact ⟨i + 1, hlt, by go_num, HBV2⟩
            case measure => simp [intOf]; omega
        · obtain rfl : i = k := by omega
          go_wp2_with fail
          go_ret
          exact ⟨rfl, HBR.out.trans (HBV.out.mono HBR.out.size)⟩

end Go.Proofs.Ytenkdpogdfcbgaa.Rs
namespace Go.Proofs.Ytenkdpogdfcbgaa
open Go.RowKit Go.Proofs.Ytenkdpogdfcbgaa.Rs

theorem queueBarrier_walk (a0 : Option Addr) (len0 cap0 : Nat) (t0 : List (Int × Int)) (a1 : Option Addr) (len1 cap1 : Nat) (z1 : List Int) (w : World) (w0 : IsRowT w a0 len0 cap0 t0) (w1 : IsRowI w a1 len1 cap1 z1) :
    Calls Try.prog 5 #[.slice a0 len0 cap0, .slice a1 len1 cap1] w fun e w' => e = .returned (.bool true) ∧ Below w.heap.size w w' := by
  refine barrier_core a0 a1 len0 cap0 len1 cap1 t0 z1 w (targ_of w0) ?_ ?_ ?_
  · intro h0
    rcases w1 with ⟨rfl, rfl, rfl, rfl⟩ | ⟨x, rfl, h1, h2, h3, h4, -⟩
    · exact absurd rfl h0
    · exact ⟨x, rfl, fun i hi => h4 i (by omega)⟩
  · rcases w1 with ⟨rfl, rfl, rfl, rfl⟩ | ⟨x, rfl, h1, h2, h3, h4, -⟩
    · omega
    · unfold maxLen at h2; omega
  · rcases w1 with ⟨rfl, rfl, rfl, rfl⟩ | ⟨x, rfl, h1, h2, h3, h4, -⟩
    · omega
    · exact h1

end Go.Proofs.Ytenkdpogdfcbgaa

