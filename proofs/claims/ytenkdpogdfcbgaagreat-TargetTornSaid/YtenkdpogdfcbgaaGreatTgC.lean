/- Walks: what a crash leaves of a target. -/
import Derived.Test.YtenkdpogdfcbgaaGreatTgW2
namespace Go.Proofs.YtenkdpogdfcbgaaGreat
open Go.RowKit

theorem st_set8 {w : World} {base : Nat} {a : Option Addr} {n c : Nat} {b : Option Addr} {m d : Nat} {rs : List Rw} {s : Vo.St} (h : StW w base a n c b m d rs s) {B : Nat} (hB : B < base) (u0 u1 u2 u3 u4 u5 u6 u7 : Value) :
    StW ((((((((w.setCell ⟨B, 0, none⟩ u0).setCell ⟨B, 1, none⟩ u1).setCell ⟨B, 2, none⟩ u2).setCell ⟨B, 3, none⟩ u3).setCell ⟨B, 4, none⟩ u4).setCell ⟨B, 5, none⟩ u5).setCell ⟨B, 6, none⟩ u6).setCell ⟨B, 7, none⟩ u7) base a n c b m d rs s :=
  st_set4 (st_set4 h hB u0 u1 u2 u3) hB u4 u5 u6 u7

theorem bxs_set8 {W : World} {B : Nat} {v0 v1 v2 v3 v4 v5 v6 v7 : Value} (h : Bxs W B [v0, v1, v2, v3, v4, v5, v6, v7]) (u0 u1 u2 u3 u4 u5 u6 u7 : Value) :
    Bxs ((((((((W.setCell ⟨B, 0, none⟩ u0).setCell ⟨B, 1, none⟩ u1).setCell ⟨B, 2, none⟩ u2).setCell ⟨B, 3, none⟩ u3).setCell ⟨B, 4, none⟩ u4).setCell ⟨B, 5, none⟩ u5).setCell ⟨B, 6, none⟩ u6).setCell ⟨B, 7, none⟩ u7) B [u0, u1, u2, u3, u4, u5, u6, u7] :=
  (((((((h.set 0 (by decide : 0 < 8) u0 rfl).set 1 (by decide : 1 < 8) u1 rfl).set 2 (by decide : 2 < 8) u2 rfl).set 3 (by decide : 3 < 8) u3 rfl).set 4 (by decide : 4 < 8) u4 rfl).set 5 (by decide : 5 < 8) u5 rfl).set 6 (by decide : 6 < 8) u6 rfl).set 7 (by decide : 7 < 8) u7 rfl

theorem tgw_crashed {wN : World} {B base : Nat} {v0 v1 v2 v3 v4 v5 v6 v7 : Value} {a6 : Option Addr} {n6 c6 : Nat} {b6 : Option Addr} {m6 d6 : Nat} {rs6 : List Rw} {st : Vo.St} {l : List Lg.Op} {T : ByteArray} {K : Int}
    (hX : Bxs wN B [v0, v1, v2, v3, v4, v5, v6, v7]) (hlt : B < base) (hle : base ≤ wN.heap.size) (hS : StW wN base a6 n6 c6 b6 m6 d6 rs6 st) (hT : T = Tg.text ⟨st, Rg.zero, l⟩) (hK : K = (l.length : Int)) (hG : Tg.Good ⟨st, Rg.zero, l⟩ 0) :
    TgW ((((((((wN.setCell ⟨B, 0, none⟩ (.slice a6 n6 c6)).setCell ⟨B, 1, none⟩ (.slice b6 m6 d6)).setCell ⟨B, 2, none⟩ (.int .i64 0)).setCell ⟨B, 3, none⟩ (.slice none 0 0)).setCell ⟨B, 4, none⟩ (.int .i64 0)).setCell ⟨B, 5, none⟩ (.int .i64 0)).setCell ⟨B, 6, none⟩ (.string T)).setCell ⟨B, 7, none⟩ (.int .i64 K)) B base ⟨st, Rg.zero, l⟩ 0 := by
  subst hT; subst hK
  exact ⟨hlt, by simp only [World.size_setCell]; exact hle, ⟨_, _, _, _, _, _, _, none, 0, 0, bxs_set8 hX _ _ _ _ _ _ _ _, st_set8 hS hlt _ _ _ _ _ _ _ _, World.ownsRow_nil _ _ _ _⟩, hG⟩

theorem gb_set8 {w W : World} {B : Nat} {u0 u1 u2 u3 u4 u5 u6 u7 : Value} (h : w.grownBy W (some B)) : w.grownBy ((((((((W.setCell ⟨B, 0, none⟩ u0).setCell ⟨B, 1, none⟩ u1).setCell ⟨B, 2, none⟩ u2).setCell ⟨B, 3, none⟩ u3).setCell ⟨B, 4, none⟩ u4).setCell ⟨B, 5, none⟩ u5).setCell ⟨B, 6, none⟩ u6).setCell ⟨B, 7, none⟩ u7) (some B) := gb_set4 (gb_set4 h)

set_option maxRecDepth 100000 in
set_option maxHeartbeats 8000000 in
theorem Crash_T (B base G : Nat) (t : Tg.S) (n : Int) (w : World) (h : TgW w B base t G) :
    Calls Tryz.prog 25 #[.pointer (some ⟨B, 0, none⟩), .int .i64 n] w (TgTo w B base (Tg.crashR t n) 0 (.returned (.int .i64 (Tg.crashN t n : Nat)))) := by
  obtain ⟨a, na, c, b, m, d, rs, rx, ry, rz, hX, hS, hR⟩ := h.ex
  have hG := h.good
  have hltB := h.lt; have hle := h.le
  have HCG := Lib.hid (Tg.crash_good hG n)
  have hsz := hG.size
  have hpl := Tg.crash_p (t := t) n
  obtain ⟨rest, hc1, hc2, hc3⟩ := Tg.cut_spec hG.chk (Tg.crashP t n)
  have hrun := Tg.run_take hG (Tg.crashN t n)
  have hlen := Tg.crash_len (t := t) n
  have hl200 := hG.len
  have hmm : max 0 (min n ((Tg.text t).size : Int)) = (Tg.crashP t n : Int) := by unfold Tg.crashP; omega
  have hchk : ∀ o ∈ t.l.take (Tg.crashN t n), Lg.chkE o = 0 := fun o ho => hG.chk o (List.mem_of_mem_take ho)
  have htx : Tg.text (Tg.crashR t n) = ⟨(Lr.log (t.l.take (Tg.crashN t n))).toArray⟩ := rfl
  have HCR : Hid (Tg.crashR t n = ⟨(Lr.run Vo.st0 (t.l.take (Tg.crashN t n))).s, Rg.zero, t.l.take (Tg.crashN t n)⟩) := Lib.hid rfl
  have hks : Tg.cutN t.l (Tg.crashP t n) = Tg.crashN t n := rfl
  rw [hks] at hc1 hc3
  have hdl : (Tg.text t).data.toList = Lr.log t.l := rfl
  unfold tgc at hX
  have HX := Lib.hid hX
  have c6 := hX.c 6 _ rfl
  obtain ⟨TX, hTX⟩ : ∃ TX, Tg.text t = TX := ⟨_, rfl⟩
  rw [hTX] at hsz hpl hmm hdl c6
  obtain ⟨p, hp⟩ : ∃ p, Tg.crashP t n = p := ⟨_, rfl⟩
  rw [hp] at hpl hc1 hc3 hmm
  obtain ⟨K, hK⟩ : ∃ K, Tg.crashN t n = K := ⟨_, rfl⟩
  rw [hK] at hc1 hc3 hrun hlen hchk htx HCR ⊢
  obtain ⟨L, hL⟩ : ∃ L, t.l.take K = L := ⟨_, rfl⟩
  rw [hL] at hc1 hc3 hrun hlen hchk htx HCR
  obtain ⟨R, hR⟩ : ∃ R, Lr.run Vo.st0 L = R := ⟨_, rfl⟩
  have hK200 : K ≤ 200 := by
    have : (t.l.take K).length = K := by rw [hL]; exact hlen
    rw [List.length_take] at this
    omega
  -- what is replayed
  have hs1 : (TX.extract 0 p).data.toList = Lr.log L ++ rest := by rw [ext_data, List.drop_zero, Nat.sub_zero, hdl, hc1]
  have hs1z : (TX.extract 0 p).size = p := by rw [ByteArray.size_extract]; omega
  have RP : Hid (∀ W, Calls Tryz.prog 22 #[.string (TX.extract 0 p)] W (RepTo W R.s K 0)) := Lib.hid fun W => by
    have h1 := Replay_L (TX.extract 0 p) L rest 0 W hs1 (by rw [hs1z]; omega) (by omega) hrun (by
      rcases hc2 with h2 | ⟨h2, h4⟩
      · exact Or.inl ⟨h2, rfl⟩
      · exact Or.inr (Or.inl ⟨h2, h4, rfl⟩))
    rw [if_pos rfl, if_pos rfl, hlen, hR] at h1
    exact h1
  have hsl := sl_to'' Tryz.underlying9 (s := TX) (y := (p : Int)) (b := p) rfl hpl
  have HCK := Lib.hid hchk
  have HLN := Lib.hid hlen
  have HS1 := Lib.hid hs1
  have HGN : Hid (Tg.crashR t n = ⟨R.s, Rg.zero, L⟩) := Lib.hid (by rw [HCR.out, hR])
  have HTT : Hid ((⟨(Lr.log L).toArray⟩ : ByteArray) = Tg.text ⟨R.s, Rg.zero, L⟩) := Lib.hid rfl
  have HM : Hid ((Lr.log L).length + rest.length = p) := Lib.hid (by
    have := congrArg List.length hs1
    rw [Lr.size_list, hs1z, List.length_append] at this
    omega)
  have HEX : Hid ((TX.extract 0 p).extract 0 (Lr.log L).length = ⟨(Lr.log L).toArray⟩) := Lib.hid (by
    apply ByteArray.ext
    apply Array.toList_inj.1
    rw [ext_data, hs1, List.drop_zero, Nat.sub_zero, List.take_left])
  rw [HGN.out] at HCG ⊢
  have h0p : (0 : Int) ≤ (p : Int) := by omega
  have hpT : (p : Int) ≤ (TX.size : Int) := by omega
  clear h hX hS hR hG hrun hlen hl200 hchk htx hks hdl hc1 hc2 hc3 HCR hs1
  generalize TX.extract 0 p = s1 at *
  go_enter Tryz.func25, Tryz.ntmps25
  go_wp2_with fail
  go_region
  all_goals
    go_wp2_with fail
    with_reducible refine (RP.out _).mono ?_
    rintro e w1 ⟨a5, n5, c5, b5, m5, d5, rs5, rfl, hs5, hb1⟩
    have hal := hb1.alloc hb1.size (.cells #[.slice a5 n5 c5, .slice b5 m5 d5] 33)
    have hbw : Below w.heap.size w (w1.alloc (.cells #[.slice a5 n5 c5, .slice b5 m5 d5] 33)) := (show Below w.heap.size w w.drew from (Below.refl _ w).drew).trans hal
    have HB2 := Lib.hid hbw
    have HX2 := Lib.hid (HX.out.on hbw)
    have HS2 := Lib.hid ((hs5.keep ((Below.refl _ w1).alloc (Nat.le_refl _) (.cells #[.slice a5 n5 c5, .slice b5 m5 d5] 33))).low (show base ≤ _ from hle))
    have HY2 := Lib.hid (bxs_new w1 33 #[.slice a5 n5 c5, .slice b5 m5 d5] [.slice a5 n5 c5, .slice b5 m5 d5] rfl)
    clear hs5 hb1 hal hbw c6 RP
    go_wp2_with fail
    obtain ⟨YB, hYB⟩ : ∃ YB, w1.heap.size = YB := ⟨_, rfl⟩
    rw [hYB] at HY2
    simp only [hYB]
    generalize w1.alloc (.cells #[.slice a5 n5 c5, .slice b5 m5 d5] 33) = wS at *
    clear hYB
    go_loopw [9, 34] (fun v x wr => ∃ (k : Nat) (T : ByteArray), k ≤ K ∧ v = .string T ∧ x = .int .i64 k ∧ Hid (T.data.toList = Lr.log (L.drop k) ++ rest ∧ T.size ≤ p) ∧ Hid (Below wS.heap.size wS wr)) (fun _ x _ => K - (intOf x).toNat)
    case atStart => exact ⟨0, s1, Nat.zero_le _, rfl, rfl, Lib.hid ⟨HS1.out, by rw [hs1z]; exact Nat.le_refl _⟩, Lib.hid (Below.refl _ _)⟩
    case round =>
      obtain ⟨k, T, hk, rfl, rfl, ET, BW⟩ := hrel
      by_cases hlt : k < K
      · have hkl : k < L.length := by rw [HLN.out]; exact hlt
        have hd : L.drop k = L[k] :: L.drop (k + 1) := List.drop_eq_getElem_cons hkl
        have hch := HCK.out L[k] (List.getElem_mem hkl)
        have ET2 : Hid (T.data.toList = Lr.frm L[k] ++ (Lr.log (L.drop (k + 1)) ++ rest)) := Lib.hid (by rw [ET.out.1, hd, Lr.log_cons, List.append_assoc])
        have GA : GetAns T 1 ⟨(Lr.body L[k]).toArray⟩ ((Lr.body L[k]).length + 7) 0 := getAns (by have := ET.out.2; unfold maxLen; omega) (by rw [ET2.out]; exact Lr.get_frm hch _)
        have hU : (Lr.body L[k]).length + 7 ≤ T.size := by
          rw [← Lr.size_list, ET2.out, List.length_append, Lr.frm_length hch]
          omega
        have HU : Hid (T.data.toList.drop ((Lr.body L[k]).length + 7) = Lr.log (L.drop (k + 1)) ++ rest) := Lib.hid (by
          rw [ET2.out, ← Lr.frm_length hch, List.drop_left])
        obtain ⟨U, hUe⟩ : ∃ U, (Lr.body L[k]).length + 7 = U := ⟨_, rfl⟩
        rw [hUe] at hU HU GA
        have HDB := Lib.hid (drop_bytes T U)
        have HTs := Lib.hid ET.out.2
        generalize (⟨(Lr.body L[k]).toArray⟩ : ByteArray) = BD at *
        clear hd hUe hch ET2
        unfold GetAns at GA
        go_wp2_with fail
        with_reducible refine (GA _).mono ?_
        rintro e w2 ⟨rfl, hb2⟩
        have BW2 := Lib.hid (BW.out.trans ((hb2.alloc hb2.size (.cells #[.int .i64 1, .string BD] 61)).mono BW.out.size))
        clear hb2 GA
        go_wp2_with fail
        go_roundw
        case rel => exact ⟨k + 1, T.extract U T.size, hlt, rfl, by go_num, Lib.hid ⟨by rw [HDB.out]; exact HU.out, by rw [ByteArray.size_extract]; have := HTs.out; omega⟩, BW2⟩
        case measure => simp [intOf]; omega
      · obtain rfl : k = K := by omega
        have hTr : T.size = rest.length := by
          have h1 := congrArg List.length ET.out.1
          rw [Lr.size_list, List.length_append, List.drop_of_length_le (by rw [HLN.out]; exact Nat.le_refl _)] at h1
          simpa [Lr.log_nil] using h1
        obtain ⟨M, hM⟩ : ∃ M, (Lr.log L).length = M := ⟨_, rfl⟩
        have hMp := HM.out
        rw [hM] at hMp HEX
        have hdiff : (s1.size : Int) - (T.size : Int) = (M : Int) := by omega
        have hsl2 := sl_to'' Tryz.underlying9 (s := s1) (y := (M : Int)) (b := M) rfl (by omega)
        rw [HEX.out, HTT.out] at hsl2
        have HX3 := Lib.hid (HX2.out.on BW.out); have HY3 := Lib.hid (HY2.out.on BW.out); have HS3 := Lib.hid (HS2.out.keep BW.out); have HB3 := Lib.hid (HB2.out.trans (BW.out.mono HB2.out.size))
        have y0 := HY3.out.c 0 _ rfl; have y1 := HY3.out.c 1 _ rfl
        have x0 := HX3.out.c 0 _ rfl; have x1 := HX3.out.c 1 _ rfl; have x2 := HX3.out.c 2 _ rfl; have x3 := HX3.out.c 3 _ rfl; have x4 := HX3.out.c 4 _ rfl; have x5 := HX3.out.c 5 _ rfl; have x6 := HX3.out.c 6 _ rfl; have x7 := HX3.out.c 7 _ rfl
        have z0 := HX3.out.z 0 (show 0 < 8 by decide); have z1 := HX3.out.z 1 (show 1 < 8 by decide); have z2 := HX3.out.z 2 (show 2 < 8 by decide); have z3 := HX3.out.z 3 (show 3 < 8 by decide)
        have z4 := HX3.out.z 4 (show 4 < 8 by decide); have z5 := HX3.out.z 5 (show 5 < 8 by decide); have z6 := HX3.out.z 6 (show 6 < 8 by decide); have z7 := HX3.out.z 7 (show 7 < 8 by decide)
        have h0M : (0 : Int) ≤ (M : Int) := by omega
        have hMs : (M : Int) ≤ (s1.size : Int) := by omega
        have HLK : Hid ((k : Int) = (L.length : Int)) := Lib.hid (by rw [HLN.out])
        have HPM : Hid (p - T.size = M) := Lib.hid (by omega)
        clear hTr hMp hM
        generalize Tg.text ⟨R.s, Rg.zero, L⟩ = TT at *
        go_wp2_with fail
        go_region
        all_goals
          go_wp2_with fail
          go_ret
          exact ⟨rfl, (tgw_crashed HX3.out hltB (Nat.le_trans hle HB3.out.size) HS3.out (by rw [HPM.out, HEX.out]; rfl) HLK.out HCG.out).keep (Below.refl _ _).drew, gb_drew (gb_set8 (gb_below HB3.out))⟩

end Go.Proofs.YtenkdpogdfcbgaaGreat
