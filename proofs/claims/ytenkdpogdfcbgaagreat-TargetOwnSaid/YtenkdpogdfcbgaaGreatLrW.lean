import Derived.Test.YtenkdpogdfcbgaaGreatLrP
import Derived.Test.YtenkdpogdfcbgaaGreatArgsO
import Derived.Test.YtenkdpogdfcbgaaGreatVoH
import Derived.Test.YtenkdpogdfcbgaaGreatMdW
import Derived.Deep.AppendLies
/- log.Log of deeds that are right. -/
namespace Go.Proofs.YtenkdpogdfcbgaaGreat
open Go.RowKit

theorem Encode_op {o : Lg.Op} (h : Lg.chkE o = 0) (w : World) :
    Calls Tryz.prog 28 #[.agg #[.int .i64 o.k, .string o.nm, .string o.tn, .int .i64 o.a, .string o.tx]] w fun e w' => e = .returned (.tuple #[.string ⟨(Lr.body o).toArray⟩, .int .i64 0]) ∧ Below w.heap.size w w' := by
  obtain ⟨k, a, hk, ha, k1, k5, a32, hn, ht, hx⟩ := Lr.chk_parts h
  have h' := h
  unfold Lg.chkE at h'
  rw [hk, ha] at h' ⊢
  exact Encode_ok k a o.nm o.tn o.tx _ w h' hn ht hx k5 a32 (by unfold Lr.body; rw [hk, ha, Int.toNat_natCast, Int.toNat_natCast])

theorem Decode_op {o : Lg.Op} (h : Lg.chkE o = 0) (w : World) :
    Calls Tryz.prog 48 #[.string ⟨(Lr.body o).toArray⟩] w fun e w' => e = .returned (.tuple #[.agg #[.int .i64 o.k, .string o.nm, .string o.tn, .int .i64 o.a, .string o.tx], .int .i64 0]) ∧ Below w.heap.size w w' := by
  obtain ⟨k, a, hk, ha, k1, k5, a32, hn, ht, hx⟩ := Lr.chk_parts h
  have h' := h
  unfold Lg.chkE at h'
  rw [hk, ha] at h' ⊢
  exact Decode_ok k a o.nm o.tn o.tx _ w h' hn ht hx k5 a32 (by unfold Lr.body; rw [hk, ha, Int.toNat_natCast, Int.toNat_natCast])

theorem Put_frm {o : Lg.Op} (h : Lg.chkE o = 0) (w : World) :
    Calls Tryz.prog 29 #[.agg #[.int .i64 1, .string ⟨(Lr.body o).toArray⟩]] w fun e w' => e = .returned (.tuple #[.string ⟨(Lr.frm o).toArray⟩, .int .i64 0]) ∧ Below w.heap.size w w' := by
  have hl := Lr.body_length h
  exact putAns (k := 1) (b := ⟨(Lr.body o).toArray⟩) (t := ⟨(Lr.frm o).toArray⟩) (by decide) (by decide) (by show (Lr.body o).toArray.size ≤ 700; rw [List.size_toArray]; omega) rfl w

end Go.Proofs.YtenkdpogdfcbgaaGreat

/- log.Replay of a log with a rest behind it that is no whole frame, or a wrong one. -/
namespace Go.Proofs.YtenkdpogdfcbgaaGreat
open Go.RowKit

/-- A state that lies apart from two boxes. -/
def StR (w : World) (base A B : Nat) (a : Option Addr) (n c : Nat) (b : Option Addr) (m d : Nat) (rs : List Rw) (s : Vo.St) : Prop :=
  StW w base a n c b m d rs s ∧ (∀ v ∈ sls a n c b m d rs, v.ownBlock ≠ some A) ∧ ∀ v ∈ sls a n c b m d rs, v.ownBlock ≠ some B

section
variable {w w' : World} {base base' A B : Nat} {a b : Option Addr} {n c m d : Nat} {rs : List Rw} {s : Vo.St}
theorem StR.keep (h : StR w base A B a n c b m d rs s) (hb : Below w.heap.size w w') : StR w' base A B a n c b m d rs s := ⟨h.1.keep hb, h.2⟩
theorem StR.setA (h : StR w base A B a n c b m d rs s) (u0 u1 : Value) : StR ((w.setCell ⟨A, 0, none⟩ u0).setCell ⟨A, 1, none⟩ u1) base A B a n c b m d rs s := ⟨(h.1.other h.2.1 u0).other h.2.1 u1, h.2⟩
theorem StR.setB (h : StR w base A B a n c b m d rs s) (u0 u1 : Value) : StR ((w.setCell ⟨B, 0, none⟩ u0).setCell ⟨B, 1, none⟩ u1) base A B a n c b m d rs s := ⟨(h.1.other h.2.2 u0).other h.2.2 u1, h.2⟩
theorem StR.new (h : StW w base' a n c b m d rs s) (hA : A < base') (hB : B < base') (hb : base ≤ base') : StR w base A B a n c b m d rs s := ⟨h.low hb, h.off hA, h.off hB⟩
theorem stR0 (w : World) (base A B : Nat) : StR w base A B none 0 0 none 0 0 [] Vo.st0 := by
  have h : ∀ v ∈ sls none 0 0 none 0 0 [], ∀ K, v.ownBlock ≠ some K := fun v hv K e => by
    have hv2 : v = .slice none 0 0 := by simpa [sls] using hv
    subst hv2
    cases e
  exact ⟨stW0 _ _, fun v hv => h v hv A, fun v hv => h v hv B⟩
end

/-- What a replay leaves. -/
def RepTo (w : World) (s : Vo.St) (k E : Nat) (e : Ending) (w' : World) : Prop :=
  ∃ a n c b m d rs, e = .returned (.tuple #[.agg #[.slice a n c, .slice b m d], .int .i64 k, .int .i64 E]) ∧ StW w' w.heap.size a n c b m d rs s ∧ Below w.heap.size w w'

theorem replay_result {tmps : Array Value} {W : World} {B : Nat} {v0 v1 x e : Value} (h2 : tmps.getD 2 undef = .pointer (some ⟨B, 0, none⟩)) (h3 : tmps.getD 3 undef = x) (h4 : tmps.getD 4 undef = e) (h : Bxs W B [v0, v1]) :
    (results Tryz.f22 tmps).run Tryz.prog W = .ok (.tuple #[.agg #[v0, v1], x, e]) W := by
  have c0 := h.c 0 _ rfl; have c1 := h.c 1 _ rfl
  have hq : tmps[2]?.getD undef = .pointer (some ⟨B, 0, none⟩) := by simpa using h2
  have hr : tmps[3]?.getD undef = x := by simpa using h3
  have ht : tmps[4]?.getD undef = e := by simpa using h4
  simp [results, Tryz.results22, hq, hr, ht, go_sem, c0, c1]

theorem drop_bytes (T : ByteArray) (U : Nat) : (T.extract U T.size).data.toList = T.data.toList.drop U := by
  rw [← ByteArray.toList_eq, ext_list]
  exact List.take_of_length_le (by rw [List.length_drop, Lr.size_list]; exact Nat.le_refl _)

set_option maxRecDepth 100000 in
set_option maxHeartbeats 8000000 in
theorem Replay_L (s : ByteArray) (ops : List Lg.Op) (rest : List UInt8) (E : Nat) (w : World) (hs : s.data.toList = Lr.log ops ++ rest) (hz : s.size ≤ 9223372036854775807) (hl : ops.length ≤ 200) (hr : (Lr.run Vo.st0 ops).e = 0)
    (hrest : rest = [] ∧ E = 0 ∨ rest ≠ [] ∧ Fr.get rest = (7, 0, [], 0) ∧ E = 0 ∨ rest ≠ [] ∧ Fr.get rest = (6, 0, [], 0) ∧ E = 6) :
    Calls Tryz.prog 22 #[.string s] w (RepTo w (if E = 0 then (Lr.run Vo.st0 ops).s else Vo.st0) (if E = 0 then ops.length else 0) E) := by
  obtain ⟨w0, hw0⟩ : ∃ w0, w0 = (w.alloc (.cells #[.slice none 0 0, .slice none 0 0] 33)).alloc (.cells #[.slice none 0 0, .slice none 0 0] 33) := ⟨_, rfl⟩
  have hB : Below w.heap.size w w0 := by
    rw [hw0]
    exact ((Below.refl _ w).alloc (Nat.le_refl _) _).alloc (by rw [World.size_alloc]; omega) _
  have hX : Bxs w0 w.heap.size [.slice none 0 0, .slice none 0 0] := by rw [hw0]; exact (bxs_new w 33 _ _ rfl).alloc _
  have hY : Bxs w0 (w.heap.size + 1) [.slice none 0 0, .slice none 0 0] := by
    rw [hw0]
    have := bxs_new (w.alloc (.cells #[.slice none 0 0, .slice none 0 0] 33)) 33 #[.slice none 0 0, .slice none 0 0] _ rfl
    rw [World.size_alloc] at this
    exact this
  have HB := Lib.hid hB; have HX := Lib.hid hX; have HY := Lib.hid hY
  have HS := Lib.hid hs; have HE := Lib.hid hrest
  have HKK := Lib.hid (Lr.run_chk hr)
  obtain ⟨R, hR⟩ : ∃ R, Lr.run Vo.st0 ops = R := ⟨_, rfl⟩
  rw [hR] at hr ⊢
  obtain ⟨F, hF⟩ : ∃ F, (if E = 0 then R.s else Vo.st0) = F := ⟨_, rfl⟩
  obtain ⟨K, hK⟩ : ∃ K, (if E = 0 then ops.length else 0) = K := ⟨_, rfl⟩
  rw [hF, hK]
  have HF := Lib.hid hF; have HK := Lib.hid hK
  clear hF hK
  have HR := Lib.hid hR; have HR0 := Lib.hid hr
  have hw0' := hw0.symm
  clear hB hX hY hs hrest hR hr hw0
  go_enter Tryz.func22, Tryz.ntmps22
  go_wp2_with fail
  go_loopw [0, 6] (fun v y wr => ∃ (k : Nat) (T : ByteArray) (a5 : Option Addr) (n5 c5 : Nat) (b5 : Option Addr) (m5 d5 : Nat) (rs5 : List Rw) (s5 : Vo.St), k ≤ ops.length ∧ v = .string T ∧ y = .int .i64 k ∧ Hid (T.data.toList = Lr.log (ops.drop k) ++ rest ∧ T.size ≤ 9223372036854775807) ∧ Hid (Lr.run s5 (ops.drop k) = R ∧ Vo.Right s5) ∧
      Hid (Below w.heap.size w wr) ∧ Hid (Bxs wr w.heap.size [.slice none 0 0, .slice none 0 0]) ∧ Hid (Bxs wr (w.heap.size + 1) [.slice a5 n5 c5, .slice b5 m5 d5]) ∧ Hid (StR wr w.heap.size w.heap.size (w.heap.size + 1) a5 n5 c5 b5 m5 d5 rs5 s5)) (fun _ y _ => ops.length - (intOf y).toNat)
  case atStart => exact ⟨0, s, _, _, _, _, _, _, [], Vo.st0, Nat.zero_le _, rfl, rfl, Lib.hid ⟨HS.out, hz⟩, Lib.hid ⟨HR.out, Vo.right0⟩, HB, HX, HY, Lib.hid (stR0 _ _ _ _)⟩
  case round =>
    obtain ⟨k, T, a5, n5, c5, b5, m5, d5, rs5, s5, hk, rfl, rfl, ET, ER, BW, XW, YW, SW⟩ := hrel
    have hsz := BW.out.size
    have hyl := YW.out.lt
    by_cases hlt : k < ops.length
    · have hd : ops.drop k = ops[k] :: ops.drop (k + 1) := List.drop_eq_getElem_cons hlt
      have hch := HKK.out ops[k] (List.getElem_mem hlt)
      have ET2 : Hid (T.data.toList = Lr.frm ops[k] ++ (Lr.log (ops.drop (k + 1)) ++ rest)) := Lib.hid (by rw [ET.out.1, hd, Lr.log_cons, List.append_assoc])
      have hrun := ER.out.1
      rw [hd] at hrun
      have hr0 : (Lr.run s5 (ops[k] :: ops.drop (k + 1))).e = 0 := by rw [hrun]; exact HR0.out
      obtain ⟨hdo, hrc⟩ := Lr.run_cons hr0
      have HRC : Hid (Lr.run (Vo.doR s5 ops[k]).s (ops.drop (k + 1)) = R) := Lib.hid (by rw [← hrc]; exact hrun)
      have hDR := Vo.do_right ER.out.2 ops[k]
      have GA : GetAns T 1 ⟨(Lr.body ops[k]).toArray⟩ ((Lr.body ops[k]).length + 7) 0 := getAns (by unfold maxLen; exact ET.out.2) (by rw [ET2.out]; exact Lr.get_frm hch _)
      obtain ⟨kk, aa, hkk, haa, -, -, -, hn1, hn2, hn3⟩ := Lr.chk_parts hch
      have DE := fun W => Decode_op hch W
      have DO := fun (W : World) (h : StW W w.heap.size a5 n5 c5 b5 m5 d5 rs5 s5) => Do_V a5 b5 n5 c5 m5 d5 w.heap.size rs5 s5 ops[k] W h ER.out.2 (by unfold maxLen; omega) (by unfold maxLen; omega) (by unfold maxLen; omega)
      have hU : (Lr.body ops[k]).length + 7 ≤ T.size := by
        rw [← Lr.size_list, ET2.out, List.length_append, Lr.frm_length hch]
        omega
      have HU : Hid (T.data.toList.drop ((Lr.body ops[k]).length + 7) = Lr.log (ops.drop (k + 1)) ++ rest) := Lib.hid (by
        rw [ET2.out, ← Lr.frm_length hch, List.drop_left])
      obtain ⟨RD, hRD⟩ : ∃ R, Vo.doR s5 ops[k] = R := ⟨_, rfl⟩
      rw [hRD] at DO HRC hDR hdo
      obtain ⟨RS, RE⟩ := RD
      dsimp only at HRC hDR hdo
      subst hdo
      have HDR := Lib.hid hDR
      have hne : T.toList.isEmpty = false := by
        rw [List.isEmpty_eq_false_iff]
        intro e
        rw [ByteArray.toList_eq, ET2.out] at e
        have := congrArg List.length e
        rw [List.length_append, Lr.frm_length hch] at this
        simp at this
      have hk200 : ((k : Int) == 200) = false := beq_eq_false_iff_ne.2 (by omega)
      obtain ⟨U, hUe⟩ : ∃ U, (Lr.body ops[k]).length + 7 = U := ⟨_, rfl⟩
      rw [hUe] at hU HU GA
      have HDB := Lib.hid (drop_bytes T U)
      have HTs := Lib.hid ET.out.2
      have hTs := HTs.out
      generalize (⟨(Lr.body ops[k]).toArray⟩ : ByteArray) = BD at *
      generalize ops[k].k = f1 at *
      generalize ops[k].nm = f2 at *
      generalize ops[k].tn = f3 at *
      generalize ops[k].a = f4 at *
      generalize ops[k].tx = f5 at *
      clear hd hrun hr0 hrc hDR hRD hUe hkk haa hn1 hn2 hn3 hch ET2
      unfold GetAns at GA
      go_wp2_with fail
      with_reducible refine (GA _).mono ?_
      rintro e w1 ⟨rfl, hb1⟩
      have hc1 := hb1.alloc hb1.size (.cells #[.int .i64 1, .string BD] 61)
      have B1 := Lib.hid (BW.out.trans (hc1.mono hsz)); have X1 := Lib.hid (XW.out.on hc1); have Y1 := Lib.hid (YW.out.on hc1); have S1 := Lib.hid (SW.out.keep hc1)
      have F1 := Lib.hid (bxs_new w1 61 #[.int .i64 1, .string BD] [.int .i64 1, .string BD] rfl)
      have g0 := F1.out.c 0 _ rfl; have g1 := F1.out.c 1 _ rfl
      have hz1 := B1.out.size
      clear hb1 hc1 GA
      go_wp2_with fail
      with_reducible refine (DE _).mono ?_
      rintro e w2 ⟨rfl, hb2⟩
      have hc2 := hb2.alloc hb2.size (.cells #[.int .i64 f1, .string f2, .string f3, .int .i64 f4, .string f5] 29)
      have B2 := Lib.hid (B1.out.trans (hc2.mono hz1)); have X2 := Lib.hid (X1.out.on hc2); have Y2 := Lib.hid (Y1.out.on hc2); have S2 := Lib.hid (S1.out.keep hc2); have F2 := Lib.hid (F1.out.on hc2)
      have O2 := Lib.hid (bxs_new w2 29 #[.int .i64 f1, .string f2, .string f3, .int .i64 f4, .string f5] [.int .i64 f1, .string f2, .string f3, .int .i64 f4, .string f5] rfl)
      clear hb2 hc2 DE g0 g1
      have g0 := F2.out.c 0 _ rfl
      have y0 := Y2.out.c 0 _ rfl; have y1 := Y2.out.c 1 _ rfl
      have o0 := O2.out.c 0 _ rfl; have o1 := O2.out.c 1 _ rfl; have o2 := O2.out.c 2 _ rfl; have o3 := O2.out.c 3 _ rfl; have o4 := O2.out.c 4 _ rfl
      have hz2 := B2.out.size
      have hyl2 := Y2.out.lt
      have hxl2 := X2.out.lt
      have DQ := DO _ S2.out.1
      go_wp2_with fail
      with_reducible refine DQ.mono ?_
      rintro e w3 ⟨a6, n6, c6, b6, m6, d6, rs6, rfl, hs6, hb3⟩
      dsimp only at hs6
      have B3 := Lib.hid (B2.out.trans (hb3.mono hz2)); have X3 := Lib.hid (X2.out.on hb3); have Y3 := Lib.hid (Y2.out.on hb3)
      have S3 : Hid (StR w3 w.heap.size w.heap.size (w.heap.size + 1) a6 n6 c6 b6 m6 d6 rs6 RS) := Lib.hid (StR.new hs6 hxl2 hyl2 hz2)
      clear hs6 hb3 DQ DO y0 y1 o0 o1 o2 o3 o4 g0
      have y0 := Y3.out.c 0 _ rfl; have y1 := Y3.out.c 1 _ rfl; have yf0 := Y3.out.z 0 (show 0 < 2 by decide); have yf1 := Y3.out.z 1 (show 1 < 2 by decide)
      have hne2 : w.heap.size + 1 ≠ w.heap.size := by omega
      go_wp2_with fail
      go_roundw
      case rel => exact ⟨k + 1, T.extract U T.size, _, _, _, _, _, _, _, _, hlt, rfl, by go_num, Lib.hid ⟨by rw [HDB.out]; exact HU.out, by rw [ByteArray.size_extract]; have := HTs.out; omega⟩, Lib.hid ⟨HRC.out, HDR.out⟩, Lib.hid (below_set2 B3.out (Nat.le_succ _) _ _), Lib.hid ((X3.out.other (i := 0) hne2 _).other (i := 1) hne2 _), Lib.hid (Y3.out.set2 _ _), Lib.hid (S3.out.setB _ _)⟩
      case measure => simp [intOf]; omega
    · obtain rfl : k = ops.length := by omega
      have hTr : T.data.toList = rest := by rw [ET.out.1, List.drop_length, Lr.log_nil, List.nil_append]
      have hRs : s5 = R.s := by
        have := ER.out.1
        rw [List.drop_length] at this
        rw [← this]
        rfl
      have HRs := Lib.hid hRs
      have y0 := YW.out.c 0 _ rfl; have y1 := YW.out.c 1 _ rfl
      have x0 := XW.out.c 0 _ rfl; have x1 := XW.out.c 1 _ rfl; have xf0 := XW.out.z 0 (show 0 < 2 by decide); have xf1 := XW.out.z 1 (show 1 < 2 by decide)
      clear hRs
      rcases HE.out with ⟨h1, h2⟩ | ⟨h1, h2, h3⟩ | ⟨h1, h2, h3⟩
      · have hT0 : T.toList.isEmpty = true := by rw [ByteArray.toList_eq, hTr, h1]; rfl
        subst h2
        have E1 : Hid (s5 = F) := Lib.hid (by rw [← HF.out, if_pos rfl, HRs.out])
        have E2 : Hid (ops.length = K) := Lib.hid (by rw [← HK.out, if_pos rfl])
        clear HF HK
        clear hTr h1
        go_wp2_with fail
        refine bodyPost_ret (replay_result (B := w.heap.size) rfl rfl rfl (XW.out.set2 _ _)) rfl ?_
        rw [← E1.out, ← E2.out]
        exact ⟨_, _, _, _, _, _, _, rfl, (SW.out.setA _ _).1, below_set2 BW.out (Nat.le_refl _) _ _⟩
      · have hT0 : T.toList.isEmpty = false := by
          rw [List.isEmpty_eq_false_iff, ByteArray.toList_eq, hTr]
          exact h1
        have GA : GetAns T 0 ⟨#[]⟩ 0 7 := getAns (b := []) (by unfold maxLen; exact ET.out.2) (by rw [hTr]; exact h2)
        subst h3
        have E1 : Hid (s5 = F) := Lib.hid (by rw [← HF.out, if_pos rfl, HRs.out])
        have E2 : Hid (ops.length = K) := Lib.hid (by rw [← HK.out, if_pos rfl])
        clear HF HK
        clear hTr h1 h2 y0 y1 x0 x1 xf0 xf1
        unfold GetAns at GA
        go_wp2_with fail
        with_reducible refine (GA _).mono ?_
        rintro e w1 ⟨rfl, hb1⟩
        have hc1 := hb1.alloc hb1.size (.cells #[.int .i64 0, .string ⟨#[]⟩] 61)
        have B1 := Lib.hid (BW.out.trans (hc1.mono hsz)); have X1 := Lib.hid (XW.out.on hc1); have Y1 := Lib.hid (YW.out.on hc1); have S1 := Lib.hid (SW.out.keep hc1)
        have y0 := Y1.out.c 0 _ rfl; have y1 := Y1.out.c 1 _ rfl
        have x0 := X1.out.c 0 _ rfl; have x1 := X1.out.c 1 _ rfl; have xf0 := X1.out.z 0 (show 0 < 2 by decide); have xf1 := X1.out.z 1 (show 1 < 2 by decide)
        clear hb1 hc1 GA
        go_wp2_with fail
        refine bodyPost_ret (replay_result (B := w.heap.size) rfl rfl rfl (X1.out.set2 _ _)) rfl ?_
        rw [← E1.out, ← E2.out]
        exact ⟨_, _, _, _, _, _, _, rfl, (S1.out.setA _ _).1, below_set2 B1.out (Nat.le_refl _) _ _⟩
      · have hT0 : T.toList.isEmpty = false := by
          rw [List.isEmpty_eq_false_iff, ByteArray.toList_eq, hTr]
          exact h1
        have GA : GetAns T 0 ⟨#[]⟩ 0 6 := getAns (b := []) (by unfold maxLen; exact ET.out.2) (by rw [hTr]; exact h2)
        subst h3
        have E1 : Hid (Vo.st0 = F) := Lib.hid (by rw [← HF.out, if_neg (by decide)])
        have E2 : Hid (0 = K) := Lib.hid (by rw [← HK.out, if_neg (by decide)])
        clear HF HK
        clear hTr h1 h2 y0 y1 x0 x1 xf0 xf1
        unfold GetAns at GA
        go_wp2_with fail
        with_reducible refine (GA _).mono ?_
        rintro e w1 ⟨rfl, hb1⟩
        have hc1 := hb1.alloc hb1.size (.cells #[.int .i64 0, .string ⟨#[]⟩] 61)
        have B1 := Lib.hid (BW.out.trans (hc1.mono hsz)); have X1 := Lib.hid (XW.out.on hc1)
        have x0 := X1.out.c 0 _ rfl; have x1 := X1.out.c 1 _ rfl; have xf0 := X1.out.z 0 (show 0 < 2 by decide); have xf1 := X1.out.z 1 (show 1 < 2 by decide)
        clear hb1 hc1 GA
        go_wp2_with fail
        refine bodyPost_ret (replay_result (B := w.heap.size) rfl rfl rfl (X1.out.set2 _ _)) rfl ?_
        rw [← E1.out, ← E2.out]
        exact ⟨none, 0, 0, none, 0, 0, [], rfl, stW0 _ _, below_set2 B1.out (Nat.le_refl _) _ _⟩

end Go.Proofs.YtenkdpogdfcbgaaGreat

/- woolkeep.kept: the deeds that are done, and the state that they leave. -/
namespace Go.Proofs.YtenkdpogdfcbgaaGreat
open Go.RowKit

theorem kp_infoOp : (Tryz.prog.info? 29).map (fun i => (i.zero, i.size, i.bytes)) = some (some (.agg #[.int .i64 0, .string ⟨#[]⟩, .string ⟨#[]⟩, .int .i64 0, .string ⟨#[]⟩]), 5, 64) := by kernel_rfl

/-- Deeds as values. -/
def ov : List Lg.Op → List Value
  | [] => []
  | o :: l => .int .i64 o.k :: .string o.nm :: .string o.tn :: .int .i64 o.a :: .string o.tx :: ov l

theorem ov_app (l m : List Lg.Op) : ov (l ++ m) = ov l ++ ov m := by
  induction l with
  | nil => rfl
  | cons t l ih => rw [List.cons_append, ov, ih]; rfl

theorem ov_length (l : List Lg.Op) : (ov l).length = l.length * 5 := by
  induction l with
  | nil => rfl
  | cons t l ih => rw [ov, List.length_cons, List.length_cons, List.length_cons, List.length_cons, List.length_cons, ih, List.length_cons]; omega

theorem ov_get {l : List Lg.Op} {j : Nat} {t : Lg.Op} (h : l[j]? = some t) : (ov l)[j * 5]? = some (.int .i64 t.k) ∧ (ov l)[j * 5 + 1]? = some (.string t.nm) ∧ (ov l)[j * 5 + 2]? = some (.string t.tn) ∧ (ov l)[j * 5 + 3]? = some (.int .i64 t.a) ∧ (ov l)[j * 5 + 4]? = some (.string t.tx) := by
  induction l generalizing j with
  | nil => simp at h
  | cons x l ih =>
    cases j with
    | zero =>
      obtain rfl : x = t := by simpa using h
      exact ⟨rfl, rfl, rfl, rfl, rfl⟩
    | succ j =>
      obtain ⟨h1, h2, h3, h4, h5⟩ := ih (by simpa using h)
      rw [show (j + 1) * 5 = j * 5 + 5 from by omega]
      exact ⟨h1, h2, h3, h4, h5⟩

theorem own_osl {w : World} {base n c : Nat} {a : Option Addr} {ts : List Lg.Op} (h : w.ownsRow base 29 5 (.slice a n c) n (ov ts)) (hn : ts.length = n) : OSl w a n c ts := by
  refine ⟨fun h0 => ?_, hn, (own_cap h).1, (own_cap h).2.1, fun h0 => ?_⟩
  · have hp : 0 < n := by
      rcases Nat.eq_zero_or_pos n with e | e
      · exact absurd (List.eq_nil_of_length_eq_zero (hn.trans e)) h0
      · exact e
    obtain ⟨g, cap, hv, -, -⟩ := h.form hp
    cases hv
    refine ⟨_, rfl, fun j t hj => ?_⟩
    have hjl : j < ts.length := (List.getElem?_eq_some_iff.1 hj).1
    obtain ⟨q0, q1, q2, q3, q4⟩ := ov_get hj
    have ad : ∀ i, (⟨g, 0, none⟩ : Addr).add i = ⟨g, i, none⟩ := fun i => by unfold Addr.add; split <;> simp_all
    rw [ad, ad, ad, ad, ad]
    exact ⟨by rw [h.cellAt _ (by omega), q0], by rw [h.cellAt _ (by omega), q1], by rw [h.cellAt _ (by omega), q2], by rw [h.cellAt _ (by omega), q3], by rw [h.cellAt _ (by omega), q4]⟩
  · subst h0
    rcases h.2 with ⟨hv, h0⟩ | ⟨g, cap, cur, hv, -⟩
    · cases hv; exact ⟨rfl, rfl⟩
    · cases hv

/-- What a call of kept leaves. -/
def KeptTo (w : World) (p : Vo.St × List Lg.Op) (e : Ending) (w' : World) : Prop :=
  ∃ a' n' c' a n c b m d rs, e = .returned (.tuple #[.slice a' n' c', .agg #[.slice a n c, .slice b m d]]) ∧ w'.ownsRow w.heap.size 29 5 (.slice a' n' c') n' (ov p.2) ∧ p.2.length = n' ∧ StW w' w.heap.size a n c b m d rs p.1 ∧ Below w.heap.size w w'

end Go.Proofs.YtenkdpogdfcbgaaGreat
