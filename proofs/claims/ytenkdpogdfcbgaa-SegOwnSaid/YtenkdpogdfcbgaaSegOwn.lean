/- SegOwn: segments that are handed in stay as they are, and what is answered shares nothing with them; for every input. -/
import Derived.Test.YtenkdpogdfcbgaaSgN2
import Derived.Test.YtenkdpogdfcbgaaSgS
import Derived.Test.YtenkdpogdfcbgaaOwnE
import Derived.Test.YtenkdpogdfcbgaaOwnV
import Derived.Test.YtenkdpogdfcbgaaArgsR
namespace Go.Proofs.Ytenkdpogdfcbgaa
open Go.RowKit

theorem fits_r0' : Sg.fits [⟨⟨true, 0, 0⟩, ⟨#[97]⟩⟩] = [[⟨⟨true, 0, 0⟩, ⟨#[97]⟩⟩]] := by kernel_rfl

/-- A row of records with marks behind it. -/
def RmE (W : World) (z : Rl) : Prop := ∃ g xs, z.a = some ⟨g, 0, none⟩ ∧ z.c = z.n + 3 ∧ xs.length = z.n * 4 ∧ RoomRec W g z.c xs [.bool false, .int .i64 0, .int .i64 0, .string ⟨#[109, 97, 114, 107]⟩]
theorem RmE.on {W W' : World} {z : Rl} (h : RmE W z) (hb : Below W.heap.size W W') : RmE W' z := by
  obtain ⟨g, xs, h1, h2, h3, h4⟩ := h
  exact ⟨g, xs, h1, h2, h3, h4.on hb⟩
/-- It stands while a row of rows grows. -/
theorem RmE.grow {W W' : World} {z : Rl} (h : RmE W z) (hz : z.c ≤ maxLen) {b n : Nat} {v : Value} {xs : List Value} (ho : W.ownsRow b 45 1 v n xs) (hg : W.grownBy W' v.ownBlock) : RmE W' z := by
  obtain ⟨g, xs, h1, h2, h3, h4⟩ := h
  have hr := h4.own (base := 0) (n := z.n) h3 h2 (Nat.zero_le _) hz
  exact ⟨g, xs, h1, h2, h3, h4.blk (hg.block g h4.lt fun e => own_unlike hr ho (by decide) g rfl e.symm)⟩

theorem SgW.betw {w : World} {base n c : Nat} {a : Option Addr} {rs : List Rl} {l : List (List Sg.R)} (h : SgW w base a n c rs l) : Betw base w.heap.size (rs.map Rl.v) := fun v hv k hk => by
  obtain ⟨r, hr, rfl⟩ := List.mem_map.1 hv
  obtain ⟨s, -, ho⟩ := h.rows hr
  exact ⟨row_base ho k hk, own_block_lt ho k hk⟩
theorem Betw.sub {lo hi : Nat} {vs us : List Value} (h : Betw lo hi vs) (hs : ∀ v ∈ us, v ∈ vs) : Betw lo hi us := fun v hv => h v (hs v hv)
theorem SgW.sp {w w' : World} {base n c lo hi : Nat} {a : Option Addr} {rs : List Rl} {l : List (List Sg.R)} {vs : List Value} (h : SgW w base a n c rs l) (hs : SpTo w w' vs) (hv : Betw lo hi vs) (hr : hi ≤ base) : SgW w' base a n c rs l :=
  ⟨hs.row hv h.row (own_betw h.row) (Or.inl hr), h.len, fun i r s h1 h2 => hs.row hv (h.seg i r s h1 h2) (own_betw (h.seg i r s h1 h2)) (Or.inl hr), h.apart⟩
/-- The next row stands when those before it were spoilt. -/
theorem SgW.spNext {w w' : World} {base n c k : Nat} {a : Option Addr} {rs : List Rl} {l : List (List Sg.R)} (h : SgW w base a n c rs l) (hs : SpTo w w' ((rs.take k).map Rl.v)) (hk : k < n) :
    ∃ (g : Nat) (r : Rl) (s : List Sg.R), a = some ⟨g, 0, none⟩ ∧ w'.cell? ⟨g, k, none⟩ = some (.slice r.a r.n r.c) ∧ w'.ownsRow base 36 4 (.slice r.a r.n r.c) r.n (ev s) ∧ (rs.take (k + 1)).map Rl.v = (rs.take k).map Rl.v ++ [r.v] := by
  have hkr : k < rs.length := by rw [h.rlen]; exact hk
  have hkl : k < l.length := by rw [h.len]; exact hk
  have ho := h.seg k rs[k] l[k] (List.getElem?_eq_getElem hkr) (List.getElem?_eq_getElem hkl)
  have hrow : w'.ownsRow base 45 1 (.slice a n c) n (sv rs) := hs.own h.row fun j hj u hu e => by
    obtain ⟨r, hr, rfl⟩ := List.mem_map.1 hu
    obtain ⟨s, -, h2⟩ := h.rows (List.mem_of_mem_take hr)
    exact own_unlike h2 h.row (by decide) j e hj
  obtain ⟨g, e1, -, -, e4⟩ := sv_at hrow hkr
  refine ⟨g, rs[k], l[k], e1, e4, hs.own ho fun j hj u hu e => ?_, by rw [List.take_succ_eq_append_getElem hkr, List.map_append]; rfl⟩
  obtain ⟨r, hr, rfl⟩ := List.mem_map.1 hu
  obtain ⟨i, hi, he⟩ := List.mem_take_iff_getElem.1 hr
  have hp := List.pairwise_iff_getElem.1 h.apart i k (by rw [List.length_map]; omega) (by rw [List.length_map]; exact hkr) (by omega)
  rw [List.getElem_map, List.getElem_map, he] at hp
  exact hp j e hj

set_option maxRecDepth 100000 in
set_option maxHeartbeats 16000000 in
theorem segOwn_core (a0 : Option Addr) (len0 cap0 : Nat) (t0 : List Sg.R) (f1 : Bool) (f2 f3 : Int) (f4 : ByteArray) (ba : Option Addr) (bn bc : Nat) (bl : List Bg.It) (w : World) (w0 : RArg w a0 len0 cap0 t0) (hI : IArg w ba bn bc bl) :
    Calls Try.prog 8 #[.slice a0 len0 cap0, .agg #[.bool f1, .int .i64 f2, .int .i64 f3, .string f4], .slice ba bn bc] w fun e w' => e = .returned (.bool true) ∧ Below w.heap.size w w' := by
  obtain ⟨u0, hu0⟩ : ∃ u0, w.alloc (.cells #[.bool f1, .int .i64 f2, .int .i64 f3, .string f4] 36) = u0 := ⟨_, rfl⟩
  have hal : Below w.heap.size w u0 := by rw [← hu0]; exact (Below.refl w.heap.size w).alloc (Nat.le_refl _) _
  have XR : Hid (Bxs u0 w.heap.size [.bool f1, .int .i64 f2, .int .i64 f3, .string f4]) := Lib.hid (by rw [← hu0]; exact bxs_new w _ _ _ rfl)
  have hal2 : Below u0.heap.size u0 (u0.alloc (.cells #[.bool true, .int .i64 0, .int .i64 0, .string ⟨#[97]⟩] 36)) := (Below.refl u0.heap.size u0).alloc (Nat.le_refl _) _
  have K1 := fits_E (some ⟨u0.heap.size, 0, none⟩) 1 1 [⟨⟨true, 0, 0⟩, ⟨#[97]⟩⟩] (u0.alloc (.cells #[.bool true, .int .i64 0, .int .i64 0, .string ⟨#[97]⟩] 36)) (rsl_own (base := u0.heap.size) (World.ownsRow_lit u0 #[.bool true, .int .i64 0, .int .i64 0, .string ⟨#[97]⟩] 1 (Nat.le_refl _) (by unfold maxLen; decide) rfl)) (by omega)
  rw [fits_r0'] at K1
  have HA := Lib.hid w0; have HI := Lib.hid hI
  have HB := Lib.hid (hal.trans (hal2.mono hal.size))
  replace XR := Lib.hid (XR.out.on hal2)
  clear hal hal2 w0 hI
  go_enter Try.func8, Try.ntmps8
  go_wp2_with fail
  with_reducible refine K1.mono ?_
  rintro e v1 ⟨b1, m1, d1, z1, rfl, hs, hb⟩
  obtain rfl : m1 = 1 := hs.len.symm
  replace HB := Lib.hid (HB.out.trans (hb.mono HB.out.size))
  replace XR := Lib.hid (XR.out.on hb)
  clear K1 hs hb hu0
  have K2 := fits_E a0 len0 cap0 t0 v1 (HA.out.1.keep HB.out) (by have := HA.out.2.1; unfold maxLen at this; exact this)
  have HGL := Lib.hid (Sg.fits_good t0)
  generalize Sg.fits t0 = Lr at *
  go_wp2_with fail
  with_reducible refine K2.mono ?_
  rintro e v2 ⟨bL, mL, dL, zL, rfl, hs, hb⟩
  have hmL : mL ≤ 16 := by rw [← hs.len]; exact HGL.out.len
  have H25 : Hid (∀ s ∈ Lr, s.length ≤ 25) := Lib.hid fun s hs => Sg.sok_short (HGL.out.seg s hs)
  have HZ1 : Hid (w.heap.size ≤ v1.heap.size) := Lib.hid HB.out.size
  replace HB := Lib.hid (HB.out.trans (hb.mono HB.out.size))
  replace XR := Lib.hid (XR.out.on hb)
  have SL := Lib.hid hs
  have HZ2 : Hid (v1.heap.size ≤ v2.heap.size) := Lib.hid hb.size
  clear K2 hs hb
  have hal := (Below.refl v2.heap.size v2).alloc (Nat.le_refl _) (.cells #[.bool false, .int .i64 0, .int .i64 0, .string ⟨#[109, 97, 114, 107]⟩] 36)
  replace HB := Lib.hid (HB.out.trans (hal.mono HB.out.size))
  replace XR := Lib.hid (XR.out.on hal)
  replace SL := Lib.hid (SL.out.keep hal)
  have XM := Lib.hid (bxs_new v2 36 #[.bool false, .int .i64 0, .int .i64 0, .string ⟨#[109, 97, 114, 107]⟩] [.bool false, .int .i64 0, .int .i64 0, .string ⟨#[109, 97, 114, 107]⟩] rfl)
  clear hal
  go_wp2_with fail
  obtain ⟨V3, hV3⟩ : ∃ V3, v2.alloc (.cells #[.bool false, .int .i64 0, .int .i64 0, .string ⟨#[109, 97, 114, 107]⟩] 36) = V3 := ⟨_, rfl⟩
  rw [hV3] at HB XR SL XM
  have HZ3 : Hid (v2.heap.size < V3.heap.size) := Lib.hid (by rw [← hV3, World.size_alloc]; omega)
  (try rw [hV3])
  clear hV3
  obtain ⟨i0, hi0, hz0, hz1, hz2⟩ := info_parts Try.infoRecs
  go_loopw [10, 41] (fun v x wr => ∃ (k : Nat) (b : Option Addr) (d : Nat) (zs : List Rl), k ≤ mL ∧ x = .int .i64 k ∧ v = .slice b k d ∧ Hid (Below V3.heap.size V3 wr) ∧ Hid (SgW wr V3.heap.size b k d zs (Lr.take k)) ∧ Hid (∀ z ∈ zs, RmE wr z ∧ z.c ≤ maxLen)) (fun _ x _ => mL - (intOf x).toNat)
  case atStart => exact ⟨0, none, 0, [], Nat.zero_le _, rfl, rfl, Lib.hid (Below.refl _ _), Lib.hid (sgW0 _ _), Lib.hid (fun z hz => by cases hz)⟩
  case round =>
    obtain ⟨k, b, d, zs, hk, rfl, rfl, HP, HW, HM⟩ := hrel
    by_cases hlt : k < mL
    · obtain ⟨g, r, s, rfl, hg, -, c0, hr, hls, ho⟩ := (SL.out.keep HP.out).at hlt
      have hsn : r.n ≤ 25 := by rw [← own_len4 ho]; exact H25.out s (List.mem_of_getElem? hls)
      have K3 := roomy_Rec r.a r.n r.c false 0 0 ⟨#[109, 97, 114, 107]⟩ (ev s) wr (by rw [ev_length, own_len4 ho]) (fun h => by
        rcases ho.2 with ⟨hv, h0⟩ | ⟨g, cap, cur, hv, -⟩
        · injection hv with h1 h2 h3; exact ⟨h2, h3⟩
        · injection hv with h1 h2 h3; rw [h] at h1; cases h1) (fun ad h j u hj => by
        rw [h] at ho
        obtain ⟨g, cap, hv, -⟩ := ho.form (by have := (List.getElem?_eq_some_iff.1 hj).1; have := ho.1; omega)
        injection hv with h1 h2 h3
        injection h1 with h1
        subst h1
        rw [addr_lit, Nat.zero_add, ho.cellAt _ (by have := (List.getElem?_eq_some_iff.1 hj).1; have := ho.1; omega)]
        exact hj) (ev_one s) (by omega)
      have HT : Hid (Lr.take (k + 1) = Lr.take k ++ [s]) := Lib.hid (by
        obtain ⟨h1, rfl⟩ := List.getElem?_eq_some_iff.1 hls
        exact List.take_succ_eq_append_getElem h1)
      have HZ := Lib.hid HP.out.size
      have HSL := Lib.hid (own_len4 ho)
      have x0 := (XM.out.on HP.out).c 0 _ rfl; have x1 := (XM.out.on HP.out).c 1 _ rfl; have x2 := (XM.out.on HP.out).c 2 _ rfl; have x3 := (XM.out.on HP.out).c 3 _ rfl
      clear hg hr hls ho
      generalize r.a = ra at *
      generalize r.n = rn at *
      generalize r.c = rc at *
      go_wp2_with fail
      with_reducible refine K3.mono ?_
      rintro e w2 ⟨gz, C, hC, rfl, hgz, hR, hb⟩
      have hCm : C ≤ maxLen := by unfold maxLen; omega
      have ho := hR.own (base := wr.heap.size) (n := rn) (by rw [ev_length, HSL.out]) hC hgz hCm
      have hb3 := hb.alloc hb.size (.cells #[.slice (some ⟨gz, 0, none⟩) rn C] 45)
      have HB3 := Lib.hid hb3
      have HO := Lib.hid (ho.alloc (.cells #[.slice (some ⟨gz, 0, none⟩) rn C] 45))
      have HR := Lib.hid ((own_keep HW.out.row hb).alloc (.cells #[.slice (some ⟨gz, 0, none⟩) rn C] 45))
      have HMZ : Hid (RmE (w2.alloc (.cells #[.slice (some ⟨gz, 0, none⟩) rn C] 45)) ⟨some ⟨gz, 0, none⟩, rn, C⟩) := Lib.hid ⟨gz, _, rfl, hC, by rw [ev_length, HSL.out], hR.on ((Below.refl w2.heap.size w2).alloc (Nat.le_refl _) _)⟩
      have HCM := Lib.hid hCm
      have H3 : Hid (∀ j u, [Value.slice (some ⟨gz, 0, none⟩) rn C][j]? = some u → (w2.alloc (.cells #[.slice (some ⟨gz, 0, none⟩) rn C] 45)).cell? ((⟨w2.heap.size, 0, none⟩ : Addr).add j) = some u) := Lib.hid fun j u hu => by
        rw [addr_lit, Nat.zero_add]
        exact cell_new w2 (k := j) (by simpa using hu)
      have H4 : Hid (∀ u ∈ [Value.slice (some ⟨gz, 0, none⟩) rn C], u.oneCell' = true) := Lib.hid (by simp [Value.oneCell'])
      have H5 : Hid (k + 1 ≤ maxLen ∧ (k + 1) * 24 ≤ 140737488355328) := Lib.hid ⟨by unfold maxLen; omega, by omega⟩
      have H6 : Hid (V3.heap.size ≤ (w2.alloc (.cells #[.slice (some ⟨gz, 0, none⟩) rn C] 45)).heap.size) := Lib.hid (Nat.le_trans HZ.out hb3.size)
      clear ho hb hb3 K3 c0 x0 x1 x2 x3 hR hgz hCm hC
      go_wp2_with (at_builtin; refine wpList_append_lies _ rfl _ _ _ rfl V3.heap.size 45 i0 (.slice none 0 0) 1 24 Try.underlying26 hi0 hz0 hz1 hz2 rfl (by decide) (.slice b k d) k (sv zs) rfl HR.out ⟨w2.heap.size, 0, none⟩ 1 1 [.slice (some ⟨gz, 0, none⟩) rn C] rfl rfl H3.out H4.out (by decide) H5.out.1 H5.out.2 H6.out _ rfl ?_)
      intro g6 cap6 w6 q1 q2 q3 q4
      have HBE : Hid (Below V3.heap.size V3 w6) := Lib.hid ((HP.out.trans (HB3.out.mono HZ.out)).grown q2 H6.out (fun j e => row_base HR.out j e))
      have HWE : Hid (SgW w6 V3.heap.size (some ⟨g6, 0, none⟩) (k + 1) cap6 (zs ++ [⟨some ⟨gz, 0, none⟩, rn, C⟩]) (Lr.take (k + 1))) := Lib.hid (by rw [HT.out]; exact HW.out.snoc HB3.out HO.out HZ.out q2 q1)
      have HME : Hid (∀ z ∈ zs ++ [(⟨some ⟨gz, 0, none⟩, rn, C⟩ : Rl)], RmE w6 z ∧ z.c ≤ maxLen) := Lib.hid fun z hz => by
        rcases List.mem_append.1 hz with hz | hz
        · have h1 := HM.out z hz
          exact ⟨(h1.1.on HB3.out).grow h1.2 HR.out q2, h1.2⟩
        · obtain rfl := List.mem_singleton.1 hz
          exact ⟨HMZ.out.grow HCM.out HR.out q2, HCM.out⟩
      clear q1 q2 q3 q4 HO HR H3 H4 H5 H6 HMZ HCM
      go_wp2_with fail
      go_roundw
      case rel => exact ⟨k + 1, _, _, _, hlt, by go_num, rfl, HBE, HWE, HME⟩
      case measure => simp [intOf]; omega
    · obtain rfl : mL = k := by omega
      clear hlt hk
      have hte : Lr.take mL = Lr := List.take_of_length_le (by rw [SL.out.len]; exact Nat.le_refl _)
      rw [hte] at HW
      clear hte
      generalize wr = W4 at *
      have hb := HP.out
      have HZ4 : Hid (V3.heap.size ≤ W4.heap.size) := Lib.hid hb.size
      replace HB := Lib.hid (HB.out.trans (hb.mono HB.out.size))
      replace XR := Lib.hid (XR.out.on hb)
      replace SL := Lib.hid (SL.out.keep hb)
      replace XM := Lib.hid (XM.out.on hb)
      clear hb HP
      have SI := HW; have BTI : Hid (Betw V3.heap.size W4.heap.size (zs.map Rl.v)) := Lib.hid HW.out.betw; have RM : Hid (∀ z ∈ zs, RmE W4 z) := Lib.hid fun z hz => (HM.out z hz).1
      clear HW HM
      have K4 := Put_E b mL d _ zs Lr ⟨⟨f1, f2, f3⟩, f4⟩ W4 SI.out HGL.out
      have HGX := Lib.hid (Sg.put_good (r := ⟨⟨f1, f2, f3⟩, f4⟩) HGL.out)
      generalize Sg.putR Lr ⟨⟨f1, f2, f3⟩, f4⟩ = PX at *
      have x0 := XR.out.c 0 _ rfl; have x1 := XR.out.c 1 _ rfl; have x2 := XR.out.c 2 _ rfl; have x3 := XR.out.c 3 _ rfl
      go_wp2_with fail
      with_reducible refine K4.mono ?_
      rintro e v5 ⟨bX, mX, dX, zX, rfl, hs, hb⟩
      have HZ5 : Hid (W4.heap.size ≤ v5.heap.size) := Lib.hid hb.size
      replace HB := Lib.hid (HB.out.trans (hb.mono HB.out.size))
      replace XR := Lib.hid (XR.out.on hb)
      replace SL := Lib.hid (SL.out.keep hb)
      replace XM := Lib.hid (XM.out.on hb)
      replace SI := Lib.hid (SI.out.keep hb)
      replace RM := Lib.hid (fun z hz => (RM.out z hz).on hb)
      have SX := Lib.hid hs; have BTX : Hid (Betw W4.heap.size v5.heap.size (zX.map Rl.v)) := Lib.hid hs.betw
      clear K4 hs hb x0 x1 x2 x3
      clear XR
      have K5 := Clean_E b mL d _ zs Lr ba bn bc bl v5 SI.out HGL.out (HI.out.1.keep HB.out) HI.out.2.1
      have HGY := Lib.hid (Sg.clean_good (b := bl) HGL.out)
      generalize Sg.cleanR bl Lr = PY at *
      go_wp2_with fail
      with_reducible refine K5.mono ?_
      rintro e v6 ⟨bY, mY, dY, zY, rfl, hs, hb⟩
      have HZ6 : Hid (v5.heap.size ≤ v6.heap.size) := Lib.hid hb.size
      replace HB := Lib.hid (HB.out.trans (hb.mono HB.out.size))
      replace SL := Lib.hid (SL.out.keep hb)
      replace XM := Lib.hid (XM.out.on hb)
      replace SI := Lib.hid (SI.out.keep hb)
      replace RM := Lib.hid (fun z hz => (RM.out z hz).on hb)
      replace SX := Lib.hid (SX.out.keep hb)
      have SY := Lib.hid hs
      clear K5 hs hb
      have K6 := Same_E b bL mL d dL _ _ zs zL Lr v6 SI.out SL.out (by omega) (fun s hs => by have := H25.out s hs; omega)
      go_wp2_with fail
      with_reducible refine K6.mono ?_
      rintro e v7 ⟨rfl, hb⟩
      have HZ7 : Hid (v6.heap.size ≤ v7.heap.size) := Lib.hid hb.size
      clear SL
      replace HB := Lib.hid (HB.out.trans (hb.mono HB.out.size))
      replace XM := Lib.hid (XM.out.on hb)
      replace SI := Lib.hid (SI.out.keep hb)
      replace RM := Lib.hid (fun z hz => (RM.out z hz).on hb)
      replace SX := Lib.hid (SX.out.keep hb)
      replace SY := Lib.hid (SY.out.keep hb)
      clear K6 hb
      have H25Z : Hid (∀ s ∈ Lr, s.length ≤ 25) := H25
      go_wp2_with fail
      go_loopw [70] (fun v wr => ∃ k : Nat, k ≤ mL ∧ v = .int .i64 k ∧ Hid (Below v7.heap.size v7 wr)) (fun v _ => mL - (intOf v).toNat)
      case atStart => exact ⟨0, Nat.zero_le _, rfl, Lib.hid (Below.refl _ _)⟩
      case round =>
        obtain ⟨k, hk, rfl, HP⟩ := hrel
        by_cases hlt : k < mL
        · obtain ⟨g, r, s, rfl, hg, -, c0, hr, hls, ho⟩ := (SI.out.keep HP.out).at hlt
          have hsn : r.n ≤ 25 := by rw [← own_len4 ho]; exact H25.out s (List.mem_of_getElem? hls)
          obtain ⟨g2, xs, hra, hrc, hxl, hrm⟩ := (RM.out r (List.mem_of_getElem? hr)).on HP.out
          have K7 := marked_Rec g2 r.n r.c false 0 0 ⟨#[109, 97, 114, 107]⟩ xs wr hrm hxl hrc (by omega)
          have x0 := (XM.out.on HP.out).c 0 _ rfl; have x1 := (XM.out.on HP.out).c 1 _ rfl; have x2 := (XM.out.on HP.out).c 2 _ rfl; have x3 := (XM.out.on HP.out).c 3 _ rfl
          rw [hra] at c0
          clear hg hr hls ho hra hrc hxl hrm
          generalize r.n = rn at *
          generalize r.c = rc at *
          go_wp2_with fail
          with_reducible refine K7.mono ?_
          rintro e w2 ⟨rfl, hb⟩
          have HP2 := Lib.hid (HP.out.trans (hb.mono HP.out.size))
          clear K7 hb c0 x0 x1 x2 x3
          go_wp2_with fail
          go_roundw
          case rel => exact ⟨k + 1, hlt, by go_num, HP2⟩
          case measure => simp [intOf]; omega
        · obtain rfl : mL = k := by omega
          clear hlt hk
          generalize wr = W8 at *
          have hb := HP.out
          have HZ8 : Hid (v7.heap.size ≤ W8.heap.size) := Lib.hid hb.size
          clear XM RM
          replace HB := Lib.hid (HB.out.trans (hb.mono HB.out.size))
          replace SI := Lib.hid (SI.out.keep hb)
          replace SX := Lib.hid (SX.out.keep hb)
          replace SY := Lib.hid (SY.out.keep hb)
          clear hb HP
          have hmX : mX ≤ 16 := by rw [← SX.out.len]; exact HGX.out.len
          have hmY : mY ≤ 16 := by rw [← SY.out.len]; exact HGY.out.len
          have HX25 : Hid (∀ s ∈ PX.l, s.length ≤ 25) := Lib.hid fun s hs => Sg.sok_short (HGX.out.seg s hs)
          have HY25 : Hid (∀ s ∈ PY.l, s.length ≤ 25) := Lib.hid fun s hs => Sg.sok_short (HGY.out.seg s hs)
          go_wp2_with fail
          go_loopw [19, 81] (fun v x wr => ∃ (k : Nat) (b : Option Addr) (d : Nat) (zs : List Rl), k ≤ mX ∧ x = .int .i64 k ∧ v = .slice b k d ∧ Hid (Below W8.heap.size W8 wr) ∧ Hid (SgW wr W8.heap.size b k d zs (PX.l.take k))) (fun _ x _ => mX - (intOf x).toNat)
          case atStart => exact ⟨0, none, 0, [], Nat.zero_le _, rfl, rfl, Lib.hid (Below.refl _ _), Lib.hid (sgW0 _ _)⟩
          case round =>
            obtain ⟨k, bP, dP, zP, hk, rfl, rfl, HP, HW⟩ := hrel
            by_cases hlt : k < mX
            · obtain ⟨g, r, s, rfl, hg, -, c0, hr, hls, ho⟩ := (SX.out.keep HP.out).at hlt
              have hsn : r.n ≤ 25 := by rw [← own_len4 ho]; exact HX25.out s (List.mem_of_getElem? hls)
              have K9 := Clone_E r.a r.n r.c _ s wr ho (by omega)
              have HT : Hid (PX.l.take (k + 1) = PX.l.take k ++ [s]) := Lib.hid (by
                obtain ⟨h1, rfl⟩ := List.getElem?_eq_some_iff.1 hls
                exact List.take_succ_eq_append_getElem h1)
              have HZ := Lib.hid HP.out.size
              clear hg hr hls ho hsn
              generalize r.a = ra at *
              generalize r.n = rn at *
              generalize r.c = rc at *
              go_wp2_with fail
              with_reducible refine K9.mono ?_
              rintro e w2 ⟨⟨za, zn, zc⟩, rfl, ho, hb⟩
              dsimp only
              have hb3 := hb.alloc hb.size (.cells #[.slice za zn zc] 45)
              have HB3 := Lib.hid hb3
              have HO := Lib.hid (ho.alloc (.cells #[.slice za zn zc] 45))
              have HR := Lib.hid ((own_keep HW.out.row hb).alloc (.cells #[.slice za zn zc] 45))
              have H3 : Hid (∀ j u, [Value.slice za zn zc][j]? = some u → (w2.alloc (.cells #[.slice za zn zc] 45)).cell? ((⟨w2.heap.size, 0, none⟩ : Addr).add j) = some u) := Lib.hid fun j u hu => by
                rw [addr_lit, Nat.zero_add]
                exact cell_new w2 (k := j) (by simpa using hu)
              have H4 : Hid (∀ u ∈ [Value.slice za zn zc], u.oneCell' = true) := Lib.hid (by simp [Value.oneCell'])
              have H5 : Hid (k + 1 ≤ maxLen ∧ (k + 1) * 24 ≤ 140737488355328) := Lib.hid ⟨by unfold maxLen; omega, by omega⟩
              have H6 : Hid (W8.heap.size ≤ (w2.alloc (.cells #[.slice za zn zc] 45)).heap.size) := Lib.hid (Nat.le_trans HZ.out hb3.size)
              clear ho hb hb3 K9 c0
              go_wp2_with (at_builtin; refine wpList_append_lies _ rfl _ _ _ rfl W8.heap.size 45 i0 (.slice none 0 0) 1 24 Try.underlying26 hi0 hz0 hz1 hz2 rfl (by decide) (.slice bP k dP) k (sv zP) rfl HR.out ⟨w2.heap.size, 0, none⟩ 1 1 [.slice za zn zc] rfl rfl H3.out H4.out (by decide) H5.out.1 H5.out.2 H6.out _ rfl ?_)
              intro g6 cap6 w6 q1 q2 q3 q4
              have HBE : Hid (Below W8.heap.size W8 w6) := Lib.hid ((HP.out.trans (HB3.out.mono HZ.out)).grown q2 H6.out (fun j e => row_base HR.out j e))
              have HWE : Hid (SgW w6 W8.heap.size (some ⟨g6, 0, none⟩) (k + 1) cap6 (zP ++ [⟨za, zn, zc⟩]) (PX.l.take (k + 1))) := Lib.hid (by rw [HT.out]; exact HW.out.snoc HB3.out HO.out HZ.out q2 q1)
              clear q1 q2 q3 q4 HO HR H3 H4 H5 H6
              go_wp2_with fail
              go_roundw
              case rel => exact ⟨k + 1, _, _, _, hlt, by go_num, rfl, HBE, HWE⟩
              case measure => simp [intOf]; omega
            · obtain rfl : mX = k := by omega
              clear hlt hk
              have hte : PX.l.take mX = PX.l := List.take_of_length_le (by rw [SX.out.len]; exact Nat.le_refl _)
              rw [hte] at HW
              clear hte
              generalize wr = W9 at *
              have hb := HP.out
              have HZ9 : Hid (W8.heap.size ≤ W9.heap.size) := Lib.hid hb.size
              replace HB := Lib.hid (HB.out.trans (hb.mono HB.out.size))
              replace SI := Lib.hid (SI.out.keep hb)
              replace SX := Lib.hid (SX.out.keep hb)
              replace SY := Lib.hid (SY.out.keep hb)
              clear hb HP
              have SP := HW
              clear HW
              go_wp2_with fail
              go_loopw [20, 93] (fun v x wr => ∃ (k : Nat) (b : Option Addr) (d : Nat) (zs : List Rl), k ≤ mY ∧ x = .int .i64 k ∧ v = .slice b k d ∧ Hid (Below W9.heap.size W9 wr) ∧ Hid (SgW wr W9.heap.size b k d zs (PY.l.take k))) (fun _ x _ => mY - (intOf x).toNat)
              case atStart => exact ⟨0, none, 0, [], Nat.zero_le _, rfl, rfl, Lib.hid (Below.refl _ _), Lib.hid (sgW0 _ _)⟩
              case round =>
                obtain ⟨k, bQ, dQ, zQ, hk, rfl, rfl, HP, HW⟩ := hrel
                by_cases hlt : k < mY
                · obtain ⟨g, r, s, rfl, hg, -, c0, hr, hls, ho⟩ := (SY.out.keep HP.out).at hlt
                  have hsn : r.n ≤ 25 := by rw [← own_len4 ho]; exact HY25.out s (List.mem_of_getElem? hls)
                  have K9 := Clone_E r.a r.n r.c _ s wr ho (by omega)
                  have HT : Hid (PY.l.take (k + 1) = PY.l.take k ++ [s]) := Lib.hid (by
                    obtain ⟨h1, rfl⟩ := List.getElem?_eq_some_iff.1 hls
                    exact List.take_succ_eq_append_getElem h1)
                  have HZ := Lib.hid HP.out.size
                  clear hg hr hls ho hsn
                  generalize r.a = ra at *
                  generalize r.n = rn at *
                  generalize r.c = rc at *
                  go_wp2_with fail
                  with_reducible refine K9.mono ?_
                  rintro e w2 ⟨⟨za, zn, zc⟩, rfl, ho, hb⟩
                  dsimp only
                  have hb3 := hb.alloc hb.size (.cells #[.slice za zn zc] 45)
                  have HB3 := Lib.hid hb3
                  have HO := Lib.hid (ho.alloc (.cells #[.slice za zn zc] 45))
                  have HR := Lib.hid ((own_keep HW.out.row hb).alloc (.cells #[.slice za zn zc] 45))
                  have H3 : Hid (∀ j u, [Value.slice za zn zc][j]? = some u → (w2.alloc (.cells #[.slice za zn zc] 45)).cell? ((⟨w2.heap.size, 0, none⟩ : Addr).add j) = some u) := Lib.hid fun j u hu => by
                    rw [addr_lit, Nat.zero_add]
                    exact cell_new w2 (k := j) (by simpa using hu)
                  have H4 : Hid (∀ u ∈ [Value.slice za zn zc], u.oneCell' = true) := Lib.hid (by simp [Value.oneCell'])
                  have H5 : Hid (k + 1 ≤ maxLen ∧ (k + 1) * 24 ≤ 140737488355328) := Lib.hid ⟨by unfold maxLen; omega, by omega⟩
                  have H6 : Hid (W9.heap.size ≤ (w2.alloc (.cells #[.slice za zn zc] 45)).heap.size) := Lib.hid (Nat.le_trans HZ.out hb3.size)
                  clear ho hb hb3 K9 c0
                  go_wp2_with (at_builtin; refine wpList_append_lies _ rfl _ _ _ rfl W9.heap.size 45 i0 (.slice none 0 0) 1 24 Try.underlying26 hi0 hz0 hz1 hz2 rfl (by decide) (.slice bQ k dQ) k (sv zQ) rfl HR.out ⟨w2.heap.size, 0, none⟩ 1 1 [.slice za zn zc] rfl rfl H3.out H4.out (by decide) H5.out.1 H5.out.2 H6.out _ rfl ?_)
                  intro g6 cap6 w6 q1 q2 q3 q4
                  have HBE : Hid (Below W9.heap.size W9 w6) := Lib.hid ((HP.out.trans (HB3.out.mono HZ.out)).grown q2 H6.out (fun j e => row_base HR.out j e))
                  have HWE : Hid (SgW w6 W9.heap.size (some ⟨g6, 0, none⟩) (k + 1) cap6 (zQ ++ [⟨za, zn, zc⟩]) (PY.l.take (k + 1))) := Lib.hid (by rw [HT.out]; exact HW.out.snoc HB3.out HO.out HZ.out q2 q1)
                  clear q1 q2 q3 q4 HO HR H3 H4 H5 H6
                  go_wp2_with fail
                  go_roundw
                  case rel => exact ⟨k + 1, _, _, _, hlt, by go_num, rfl, HBE, HWE⟩
                  case measure => simp [intOf]; omega
                · obtain rfl : mY = k := by omega
                  clear hlt hk
                  have hte : PY.l.take mY = PY.l := List.take_of_length_le (by rw [SY.out.len]; exact Nat.le_refl _)
                  rw [hte] at HW
                  clear hte
                  generalize wr = WA at *
                  have hb := HP.out
                  have HZA : Hid (W9.heap.size ≤ WA.heap.size) := Lib.hid hb.size
                  replace HB := Lib.hid (HB.out.trans (hb.mono HB.out.size))
                  replace SI := Lib.hid (SI.out.keep hb)
                  replace SX := Lib.hid (SX.out.keep hb)
                  replace SY := Lib.hid (SY.out.keep hb)
                  replace SP := Lib.hid (SP.out.keep hb)
                  clear hb HP
                  have SQ := HW
                  clear HW
                  go_wp2_with fail
                  go_loopw [105] (fun x wr => ∃ k : Nat, k ≤ mL ∧ x = .int .i64 k ∧ Hid (SpTo WA wr ((zs.take k).map Rl.v))) (fun x _ => mL - (intOf x).toNat)
                  case atStart => exact ⟨0, Nat.zero_le _, rfl, Lib.hid (SpTo.refl _ _)⟩
                  case round =>
                    obtain ⟨k, hk, rfl, HP⟩ := hrel
                    by_cases hlt : k < mL
                    · obtain ⟨g, r, s, rfl, c0, ho, htk⟩ := SI.out.spNext HP.out hlt
                      have hrc := (own_cap ho).2.1
                      have K7 := spoil_Rec r.a r.n r.c _ false 0 0 ⟨#[115, 112, 111, 105, 108, 116]⟩ (ev s) wr ho (by unfold maxLen at hrc; exact hrc)
                      have HTK := Lib.hid htk
                      have HNX : Hid (∀ W', wr.grownBy W' r.v.ownBlock → SpTo WA W' ((zs.take (k + 1)).map Rl.v)) := Lib.hid fun W' h => by rw [HTK.out]; exact HP.out.grown h
                      have hrv : r.v = .slice r.a r.n r.c := rfl
                      rw [hrv] at HNX
                      clear ho htk hrc hrv HTK
                      generalize r.a = ra at *
                      generalize r.n = rn at *
                      generalize r.c = rc at *
                      go_wp2_with fail
                      with_reducible refine K7.mono ?_
                      rintro e w2 ⟨rfl, hg⟩
                      have HP2 := Lib.hid (HNX.out _ hg)
                      clear K7 hg c0
                      go_wp2_with fail
                      go_roundw
                      case rel => exact ⟨k + 1, hlt, by go_num, HP2⟩
                      case measure => simp [intOf]; omega
                    · obtain rfl : mL = k := by omega
                      clear hlt hk
                      generalize wr = WB at *
                      have HBI : Hid (Betw V3.heap.size W4.heap.size ((zs.take mL).map Rl.v)) := Lib.hid (BTI.out.sub (fun v hv => List.mem_map.2 (by obtain ⟨r, hr, h⟩ := List.mem_map.1 hv; exact ⟨r, List.mem_of_mem_take hr, h⟩)))
                      have SX2 := Lib.hid (SX.out.sp HP.out HBI.out (Nat.le_refl _))
                      have SY2 := Lib.hid (SY.out.sp HP.out HBI.out HZ5.out)
                      have SP2 := Lib.hid (SP.out.sp HP.out HBI.out (by have := HZ5.out; have := HZ6.out; have := HZ7.out; have := HZ8.out; omega))
                      have SQ2 := Lib.hid (SQ.out.sp HP.out HBI.out (by have := HZ5.out; have := HZ6.out; have := HZ7.out; have := HZ8.out; have := HZ9.out; omega))
                      have HB2 := Lib.hid (SpTo.low HB.out HP.out HBI.out (by have := HZ1.out; have := HZ2.out; have := HZ3.out; omega))
                      clear SI SX SY SP SQ HB HP HBI
                      have K10 := Same_E bX bP mX dX dP _ _ zX zP PX.l WB SX2.out SP2.out (by omega) (fun s hs => by have := HX25.out s hs; omega)
                      go_wp2_with fail
                      with_reducible refine K10.mono ?_
                      rintro e WC ⟨rfl, hb⟩
                      clear SP2
                      replace SX2 := Lib.hid (SX2.out.keep hb)
                      replace SY2 := Lib.hid (SY2.out.keep hb)
                      replace SQ2 := Lib.hid (SQ2.out.keep hb)
                      replace HB2 := Lib.hid (HB2.out.trans (hb.mono HB2.out.size))
                      clear K10 hb
                      go_wp2_with fail
                      go_loopw [119] (fun x wr => ∃ k : Nat, k ≤ mX ∧ x = .int .i64 k ∧ Hid (SpTo WC wr ((zX.take k).map Rl.v))) (fun x _ => mX - (intOf x).toNat)
                      case atStart => exact ⟨0, Nat.zero_le _, rfl, Lib.hid (SpTo.refl _ _)⟩
                      case round =>
                        obtain ⟨k, hk, rfl, HP⟩ := hrel
                        by_cases hlt : k < mX
                        · obtain ⟨g, r, s, rfl, c0, ho, htk⟩ := SX2.out.spNext HP.out hlt
                          have hrc := (own_cap ho).2.1
                          have K7 := spoil_Rec r.a r.n r.c _ false 0 0 ⟨#[]⟩ (ev s) wr ho (by unfold maxLen at hrc; exact hrc)
                          have HTK := Lib.hid htk
                          have HNX : Hid (∀ W', wr.grownBy W' r.v.ownBlock → SpTo WC W' ((zX.take (k + 1)).map Rl.v)) := Lib.hid fun W' h => by rw [HTK.out]; exact HP.out.grown h
                          have hrv : r.v = .slice r.a r.n r.c := rfl
                          rw [hrv] at HNX
                          clear ho htk hrc hrv HTK
                          generalize r.a = ra at *
                          generalize r.n = rn at *
                          generalize r.c = rc at *
                          go_wp2_with fail
                          with_reducible refine K7.mono ?_
                          rintro e w2 ⟨rfl, hg⟩
                          have HP2 := Lib.hid (HNX.out _ hg)
                          clear K7 hg c0
                          go_wp2_with fail
                          go_roundw
                          case rel => exact ⟨k + 1, hlt, by go_num, HP2⟩
                          case measure => simp [intOf]; omega
                        · obtain rfl : mX = k := by omega
                          clear hlt hk
                          generalize wr = WD at *
                          have HBX : Hid (Betw W4.heap.size v5.heap.size ((zX.take mX).map Rl.v)) := Lib.hid (BTX.out.sub (fun v hv => List.mem_map.2 (by obtain ⟨r, hr, h⟩ := List.mem_map.1 hv; exact ⟨r, List.mem_of_mem_take hr, h⟩)))
                          have SY3 := Lib.hid (SY2.out.sp HP.out HBX.out (Nat.le_refl _))
                          have SQ3 := Lib.hid (SQ2.out.sp HP.out HBX.out (by have := HZ6.out; have := HZ7.out; have := HZ8.out; have := HZ9.out; omega))
                          have HB3 := Lib.hid (SpTo.low HB2.out HP.out HBX.out (by have := HZ1.out; have := HZ2.out; have := HZ3.out; have := HZ4.out; omega))
                          clear SX2 SY2 SQ2 HB2 HP HBX
                          have K11 := Same_E bY bQ mY dY dQ _ _ zY zQ PY.l WD SY3.out SQ3.out (by omega) (fun s hs => by have := HY25.out s hs; omega)
                          go_wp2_with fail
                          with_reducible refine K11.mono ?_
                          rintro e WE ⟨rfl, hb⟩
                          have HB4 := Lib.hid (HB3.out.trans (hb.mono HB3.out.size))
                          clear K11 hb
                          go_wp2_with fail
                          go_ret
                          exact ⟨rfl, HB4.out⟩

theorem segOwn_walk (a0 : Option Addr) (len0 cap0 : Nat) (t0 : List Sg.R) (a1_0 : Bool) (a1_1 : Int) (a1_2 : Int) (a1_3 : ByteArray) (a2 : Option Addr) (len2 cap2 : Nat) (t2 : List Bg.It) (w : World) (w0 : RArg w a0 len0 cap0 t0) (_ : (Lit.int .i64 a1_1).wf = true) (_ : (Lit.int .i64 a1_2).wf = true) (_ : a1_3.size ≤ maxLen) (w2 : IArg w a2 len2 cap2 t2) :
    Calls Try.prog 8 #[.slice a0 len0 cap0, .agg #[.bool a1_0, .int .i64 a1_1, .int .i64 a1_2, .string a1_3], .slice a2 len2 cap2] w fun e w' => e = .returned (.bool true) ∧ Below w.heap.size w w' :=
  segOwn_core a0 len0 cap0 t0 a1_0 a1_1 a1_2 a1_3 a2 len2 cap2 t2 w w0 w2

end Go.Proofs.Ytenkdpogdfcbgaa
