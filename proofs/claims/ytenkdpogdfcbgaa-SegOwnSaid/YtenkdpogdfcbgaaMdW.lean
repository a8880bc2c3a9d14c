import Derived.Test.YtenkdpogdfcbgaaVoH
import Derived.Test.YtenkdpogdfcbgaaArgsO
/- The walks of woolkeep.made, begun, pick. -/
namespace Go.Proofs.Ytenkdpogdfcbgaa
open Go.RowKit

theorem made_result {tmps : Array Value} {W : World} {B : Nat} {v0 v1 : Value} (h2 : tmps.getD 2 undef = .pointer (some ⟨B, 0, none⟩)) (h : Bxs W B [v0, v1]) :
    (results Try.f77 tmps).run Try.prog W = .ok (.agg #[v0, v1]) W := by
  have c0 := h.c 0 _ rfl; have c1 := h.c 1 _ rfl
  have hq : tmps[2]?.getD undef = .pointer (some ⟨B, 0, none⟩) := by simpa using h2
  simp [results, Try.results77, hq, go_sem, c0, c1]

set_option maxRecDepth 100000 in
set_option maxHeartbeats 4000000 in
theorem made_V (a : Option Addr) (n c : Nat) (ts : List Lg.Op) (w : World) (hT : OArg w a n c ts) :
    Calls Try.prog 77 #[.slice a n c] w (StMade w (Vo.made ts)) := by
  obtain ⟨q, hq⟩ : ∃ q, min n 60 = q := ⟨_, rfl⟩
  have hq1 : q ≤ n := by omega
  have hq2 : q ≤ 60 := by omega
  have hqi : min (n : Int) 60 = (q : Int) := by omega
  have hcap := hT.1.cap
  have hmax := hT.1.max
  unfold maxLen at hmax
  have hT2 := hT.1.take hq1
  have hmd : Vo.made ts = (ts.take q).foldl Vo.step Vo.st0 := by
    unfold Vo.made
    rw [← hq]
    by_cases h : n ≤ 60
    · rw [Nat.min_eq_left h, List.take_of_length_le (show ts.length ≤ 60 by rw [hT.1.len]; exact h), List.take_of_length_le (by rw [hT.1.len]; exact Nat.le_refl _)]
    · rw [Nat.min_eq_right (by omega)]
  rw [hmd]
  have HM : Hid (∀ t ∈ ts.take q, t.nm.size ≤ maxLen ∧ t.tn.size ≤ maxLen ∧ t.tx.size ≤ maxLen) := Lib.hid fun t ht => hT.2 t (List.mem_of_mem_take ht)
  have HT := Lib.hid hT2
  obtain ⟨w0, hw0⟩ : ∃ w0, w0 = (w.alloc (.cells #[.slice none 0 0, .slice none 0 0] 53)).alloc (.cells #[.slice none 0 0, .slice none 0 0] 53) := ⟨_, rfl⟩
  have hB : Below w.heap.size w w0 := by
    rw [hw0]
    exact ((Below.refl _ w).alloc (Nat.le_refl _) _).alloc (by rw [World.size_alloc]; omega) _
  have hX : Bxs w0 w.heap.size [.slice none 0 0, .slice none 0 0] := by rw [hw0]; exact (bxs_new w 53 _ _ rfl).alloc _
  have hY : Bxs w0 (w.heap.size + 1) [.slice none 0 0, .slice none 0 0] := by
    rw [hw0]
    have := bxs_new (w.alloc (.cells #[.slice none 0 0, .slice none 0 0] 53)) 53 #[.slice none 0 0, .slice none 0 0] _ rfl
    rw [World.size_alloc] at this
    exact this
  have HB := Lib.hid hB; have HX := Lib.hid hX; have HY := Lib.hid hY
  have hw0' := hw0.symm
  clear hT hT2 hq hmd hB hX hY hw0
  go_enter Try.func77, Try.ntmps77
  go_wp2_with fail
  go_loopw [14] (fun x wr => ∃ (k : Nat) (a5 : Option Addr) (n5 c5 : Nat) (b5 : Option Addr) (m5 d5 : Nat) (rs5 : List Rw) (S : Vo.St), k ≤ q ∧ x = .int .i64 k ∧ Hid (S = ((ts.take q).take k).foldl Vo.step Vo.st0) ∧ Hid (Below w.heap.size w wr) ∧ Hid (Bxs wr w.heap.size [.slice none 0 0, .slice none 0 0]) ∧ Hid (Bxs wr (w.heap.size + 1) [.slice a5 n5 c5, .slice b5 m5 d5]) ∧
      Hid (StW wr (w.heap.size + 2) a5 n5 c5 b5 m5 d5 rs5 S))
    (fun x _ => q - (intOf x).toNat)
  case atStart => exact ⟨0, none, 0, 0, none, 0, 0, [], Vo.st0, Nat.zero_le _, rfl, Lib.hid rfl, HB, HX, HY, Lib.hid (stW0 _ _)⟩
  case round =>
    obtain ⟨k, a5, n5, c5, b5, m5, d5, rs5, S, hk, rfl, HS, BW, XW, YW, SW⟩ := hrel
    have hsz := BW.out.size
    have hyl := YW.out.lt
    by_cases hlt : k < q
    · have hkl : k < (ts.take q).length := by rw [HT.out.len]; exact hlt
      obtain ⟨X, b', o', s', rfl, hX, d0, d1, d2, d3, d4⟩ := (HT.out.keep BW.out).get hkl
      have hal := (Below.refl wr.heap.size wr).alloc (Nat.le_refl _) (.cells #[.int .i64 (ts.take q)[k].k, .string (ts.take q)[k].nm, .string (ts.take q)[k].tn, .int .i64 (ts.take q)[k].a, .string (ts.take q)[k].tx] 55)
      have hm := HM.out (ts.take q)[k] (List.getElem_mem hkl)
      have hRS : Vo.Right S := by rw [HS.out]; exact Vo.fold_right Vo.right0
      have DO := Do_V a5 b5 n5 c5 m5 d5 (w.heap.size + 2) rs5 S (ts.take q)[k] _ (SW.out.keep hal) hRS hm.1 hm.2.1 hm.2.2
      have HST : Hid (Vo.step S (ts.take q)[k] = ((ts.take q).take (k + 1)).foldl Vo.step Vo.st0) := Lib.hid (by rw [fold_take Vo.step Vo.st0 hkl, HS.out])
      have HAL := Lib.hid hal
      have y0 := YW.out.c 0 _ rfl; have y1 := YW.out.c 1 _ rfl
      clear hal hm hRS
      obtain ⟨R, hR⟩ : ∃ R, Vo.doR S (ts.take q)[k] = R := ⟨_, rfl⟩
      rw [hR] at DO
      have HST2 : Hid ((if R.e = 0 then R.s else S) = ((ts.take q).take (k + 1)).foldl Vo.step Vo.st0) := Lib.hid (by rw [← HST.out, Vo.step, hR])
      clear hR HST
      generalize (ts.take q)[k].k = f1 at *
      generalize (ts.take q)[k].nm = f2 at *
      generalize (ts.take q)[k].tn = f3 at *
      generalize (ts.take q)[k].a = f4 at *
      generalize (ts.take q)[k].tx = f5 at *
      obtain ⟨RS, RE⟩ := R
      dsimp only at HST2
      go_wp2_with fail
      with_reducible refine DO.mono ?_
      rintro e w2 ⟨a6, n6, c6, b6, m6, d6, rs6, rfl, hs6, hb6⟩
      have hb7 := HAL.out.trans (hb6.mono (by rw [World.size_alloc]; omega))
      have HB7 := Lib.hid (BW.out.trans (hb7.mono hsz))
      have HX7 := Lib.hid (XW.out.on hb7); have HY7 := Lib.hid (YW.out.on hb7); have HS7 := Lib.hid (SW.out.keep hb7)
      have hz6 : wr.heap.size < w2.heap.size := by have := hb6.size; rw [World.size_alloc] at this; omega
      have HS6 := Lib.hid (hs6.low (show w.heap.size + 2 ≤ _ by rw [World.size_alloc]; omega))
      clear hs6 hb6 hb7 d0 d1 d2 d3 d4 y0 y1
      by_cases hE : RE = 0
      · subst hE
        have HST3 : Hid (RS = ((ts.take q).take (k + 1)).foldl Vo.step Vo.st0) := Lib.hid (by have := HST2.out; rwa [if_pos rfl] at this)
        have HY8 := Lib.hid (HY7.out.alloc (.cells #[.slice a6 n6 c6, .slice b6 m6 d6] 53))
        have y0 := HY8.out.c 0 _ rfl; have y1 := HY8.out.c 1 _ rfl; have yf0 := HY8.out.z 0 (show 0 < 2 by decide); have yf1 := HY8.out.z 1 (show 1 < 2 by decide)
        have HB8 := Lib.hid (HB7.out.alloc HB7.out.size (.cells #[.slice a6 n6 c6, .slice b6 m6 d6] 53))
        have HX8 := Lib.hid (HX7.out.alloc (.cells #[.slice a6 n6 c6, .slice b6 m6 d6] 53))
        have HS8 := Lib.hid (HS6.out.keep ((Below.refl _ w2).alloc (Nat.le_refl _) (.cells #[.slice a6 n6 c6, .slice b6 m6 d6] 53)))
        go_wp2_with fail
        have s1 := HS8.out.other (B := w.heap.size + 1) (i := 0) (HS8.out.off (by omega)) (.slice a6 n6 c6)
        have s2 := s1.other (B := w.heap.size + 1) (i := 1) (s1.off (by omega)) (.slice b6 m6 d6)
        have HS9 := Lib.hid s2
        clear s1 s2
        go_roundw
        case rel => exact ⟨k + 1, _, _, _, _, _, _, _, _, hlt, by go_num, HST3, Lib.hid (below_set2 HB8.out (by omega) _ _), Lib.hid ((HX8.out.other (i := 0) (by omega) _).other (i := 1) (by omega) _), Lib.hid (HY8.out.set2 _ _), HS9⟩
        case measure => simp [intOf]; omega
      · have HST3 : Hid (S = ((ts.take q).take (k + 1)).foldl Vo.step Vo.st0) := Lib.hid (by have := HST2.out; rwa [if_neg hE] at this)
        have hb : ((RE : Int) == 0) = false := beq_eq_false_iff_ne.2 (by omega)
        clear hE
        go_wp2_with fail
        go_roundw
        case rel => exact ⟨k + 1, _, _, _, _, _, _, _, _, hlt, by go_num, HST3, Lib.hid (HB7.out.alloc HB7.out.size _), Lib.hid (HX7.out.alloc _), Lib.hid (HY7.out.alloc _), Lib.hid (HS7.out.keep ((Below.refl _ w2).alloc (Nat.le_refl _) _))⟩
        case measure => simp [intOf]; omega
    · obtain rfl : k = q := by omega
      have HSF : Hid (S = (ts.take k).foldl Vo.step Vo.st0) := Lib.hid (by rw [HS.out, List.take_take, Nat.min_self])
      have x0 := XW.out.c 0 _ rfl; have x1 := XW.out.c 1 _ rfl; have xf0 := XW.out.z 0 (show 0 < 2 by decide); have xf1 := XW.out.z 1 (show 1 < 2 by decide)
      have y0 := YW.out.c 0 _ rfl; have y1 := YW.out.c 1 _ rfl
      go_wp2_with fail
      have s1 := SW.out.other (B := w.heap.size) (i := 0) (SW.out.off (by omega)) (.slice a5 n5 c5)
      have s2 := s1.other (B := w.heap.size) (i := 1) (s1.off (by omega)) (.slice b5 m5 d5)
      refine bodyPost_ret (made_result (B := w.heap.size) rfl (XW.out.set2 _ _)) rfl ?_
      rw [← HSF.out]
      exact ⟨_, _, _, _, _, _, _, rfl, s2.low (by omega), below_set2 BW.out (Nat.le_refl _) _ _⟩

end Go.Proofs.Ytenkdpogdfcbgaa

/- The walks of woolkeep.begun, pick. -/
namespace Go.Proofs.Ytenkdpogdfcbgaa
open Go.RowKit

def Vo.bA : ByteArray := ⟨#[97]⟩
def Vo.bX : ByteArray := ⟨#[120]⟩
def Vo.sA : Vo.St := ⟨[], [⟨⟨#[97]⟩, [Bg.noId, Bg.noId]⟩]⟩
def Vo.sX : Vo.St := ⟨[⟨376, 0, ⟨#[120]⟩, 1⟩], [⟨⟨#[97]⟩, [Bg.noId, ⟨true, 376, 0⟩]⟩]⟩
theorem begun1 : Vo.makeR Vo.st0 ⟨#[97]⟩ 2 = ⟨Vo.sA, 0⟩ := by kernel_rfl
theorem begun2 : Vo.writeR Vo.sA ⟨#[97]⟩ 1 ⟨#[120]⟩ = ⟨Vo.sX, 0⟩ := by kernel_rfl
theorem begun3 : Vo.readR Vo.sX ⟨#[97]⟩ 1 = (⟨#[120]⟩, 0) := by kernel_rfl
theorem begun1R : Vo.Right Vo.sA := by have := Vo.make_right Vo.right0 ⟨#[97]⟩ 2; rwa [begun1] at this
theorem begun2R : Vo.Right Vo.sX := by have := Vo.vwrite_right begun1R ⟨#[97]⟩ 1 ⟨#[120]⟩; rwa [begun2] at this

set_option maxRecDepth 100000 in
set_option maxHeartbeats 4000000 in
theorem begun_V (w : World) : Calls Try.prog 76 #[] w fun e w' => e = .returned (.bool true) ∧ Below w.heap.size w w' := by
  have M1 := Make_V none none 0 0 0 0 w.heap.size [] Vo.st0 ⟨#[97]⟩ 2 w (stW0 _ _) Vo.right0 (by unfold maxLen; decide)
  rw [begun1] at M1
  go_enter Try.func76, Try.ntmps76
  go_wp2_with fail
  with_reducible refine M1.mono ?_
  rintro e w1 ⟨a1, n1, c1, b1, m1, d1, rs1, rfl, hs1, hb1⟩
  obtain rfl : m1 = 1 := hs1.vlen.symm
  have HB1 := Lib.hid hb1; have HS1 := Lib.hid hs1
  have HBT1 := Lib.hid (hb1.alloc hb1.size (.cells #[.slice a1 n1 c1, .slice b1 1 d1] 53))
  have HT1 := Lib.hid (bxs_new w1 53 #[.slice a1 n1 c1, .slice b1 1 d1] _ rfl)
  have hal := (Below.refl w1.heap.size w1).alloc (Nat.le_refl _) (.cells #[.slice a1 n1 c1, .slice b1 1 d1] 53)
  have W1 := Write_V a1 b1 n1 c1 1 d1 w.heap.size rs1 Vo.sA ⟨#[97]⟩ ⟨#[120]⟩ 1 _ (hs1.keep hal) begun1R (by unfold maxLen; decide)
  rw [begun2] at W1
  have HW1 : Hid (w1.heap.size < (w1.alloc (.cells #[.slice a1 n1 c1, .slice b1 1 d1] 53)).heap.size) := Lib.hid (by rw [World.size_alloc]; omega)
  clear hs1 hb1 hal M1
  go_wp2_with fail
  with_reducible refine W1.mono ?_
  rintro e w2 ⟨a2, n2, c2, b2, m2, d2, rs2, rfl, hs2, hb2⟩
  have HT2 := Lib.hid (HT1.out.on hb2)
  have HB2 := Lib.hid (HBT1.out.trans (hb2.mono HBT1.out.size))
  obtain rfl : n2 = 1 := hs2.len.symm
  have t0 := HT2.out.c 0 _ rfl; have t1 := HT2.out.c 1 _ rfl; have tf0 := HT2.out.z 0 (show 0 < 2 by decide); have tf1 := HT2.out.z 1 (show 1 < 2 by decide)
  have s1 := hs2.other (B := w1.heap.size) (i := 0) (hs2.off HW1.out) (.slice a2 1 c2)
  have s2 := s1.other (B := w1.heap.size) (i := 1) (s1.off HW1.out) (.slice b2 m2 d2)
  have R1 := Read_V a2 b2 1 c2 m2 d2 _ rs2 Vo.sX ⟨#[97]⟩ 1 _ s2 begun2R
  rw [begun3] at R1
  have hz1 := HB1.out.size
  have HB3 := Lib.hid (below_set2 HB2.out hz1 (.slice a2 1 c2) (.slice b2 m2 d2))
  have HT3 := Lib.hid (HT2.out.set2 (.slice a2 1 c2) (.slice b2 m2 d2))
  clear hs2 hb2 W1 s1 s2
  go_wp2_with fail
  with_reducible refine R1.mono ?_
  rintro e w3 ⟨rfl, hb3⟩
  have HB4 := Lib.hid (HB3.out.trans (hb3.mono HB3.out.size))
  have HT4 := Lib.hid (HT3.out.on hb3)
  clear hb3 R1 t0 t1 tf0 tf1
  have t0 := HT4.out.c 0 _ rfl
  go_wp2_with fail
  go_ret
  exact ⟨rfl, HB4.out⟩

/-- The name that is picked. -/
def Vo.pick (s : Vo.St) (k : Int) : ByteArray := if s.vols.length = 0 then ⟨#[110, 111, 110, 101]⟩ else (s.vols.getD (wi k s.vols.length) ⟨⟨#[]⟩, []⟩).name

set_option maxRecDepth 100000 in
set_option maxHeartbeats 4000000 in
theorem pick_V (a b : Option Addr) (n c m d base : Nat) (rs : List Rw) (s : Vo.St) (k : Int) (w : World) (hS : StW w base a n c b m d rs s) (hm : m ≤ 64) :
    Calls Try.prog 79 #[.agg #[.slice a n c, .slice b m d], .int .i64 k] w fun e w' => e = .returned (.string (Vo.pick s k)) ∧ Below w.heap.size w w' := by
  have hB : Below w.heap.size w (w.alloc (.cells #[.slice a n c, .slice b m d] 53)) := (Below.refl _ w).alloc (Nat.le_refl _) _
  have hX := bxs_new w 53 #[.slice a n c, .slice b m d] [.slice a n c, .slice b m d] rfl
  have x1 := hX.c 1 _ rfl
  have HB := Lib.hid hB
  unfold Vo.pick
  by_cases h0 : m = 0
  · have h0' : s.vols.length = 0 := by rw [hS.vlen]; exact h0
    rw [if_pos h0']
    subst h0
    clear hS hB hX h0'
    go_enter Try.func79, Try.ntmps79
    go_wp2_with fail
    go_ret
    exact ⟨rfl, HB.out⟩
  · have h0' : s.vols.length ≠ 0 := by rw [hS.vlen]; exact h0
    rw [if_neg h0', hS.vlen]
    have hlt := wi_lt k m (show 0 < m by omega)
    have hv : wi k m < s.vols.length := by rw [hS.vlen]; exact hlt
    rw [getD_in _ _ _ hv]
    have hr : wi k m < rs.length := by rw [hS.rlen]; exact hlt
    have S2 := hS.keep hB
    obtain ⟨g, rfl, hg, d0, d1⟩ := rv_at S2.row hr
    rw [rs_name S2 hr hv] at d0
    have WI := fun w => within_any k (m : Int) m w rfl (by omega) (by omega)
    have h00 : ((m : Int) == 0) = false := beq_eq_false_iff_ne.2 (by omega)
    have hg' : g < w.heap.size + 1 := by rwa [World.size_alloc] at hg
    clear hS hB hX S2
    generalize s.vols[wi k m].name = f1 at *
    generalize wi k m = p at *
    have e1 : (0 : Int) ≤ (p : Int) := by omega
    have e2 : (p : Int) < (m : Int) := by omega
    go_enter Try.func79, Try.ntmps79
    go_wp2_with fail
    go_quiet ((go_at_call 17; exact Calls.quiet_of_same ((WI _).mono fun e w' h => ⟨h.1, h.2.symm⟩)))
    go_wp2_with fail
    go_ret
    exact ⟨rfl, below_drewN HB.out _⟩

end Go.Proofs.Ytenkdpogdfcbgaa

/- What a right state answers, plain: found by name, made anew. No program in sight. -/
namespace Go.Proofs.Ytenkdpogdfcbgaa.Vo
open Go.Proofs.Ytenkdpogdfcbgaa

theorem find_at {vs : List Vl} (hs : vs.Pairwise fun u v => cmpN u.name v.name < 0) {i : Nat} (hi : i < vs.length) : find vs vs[i].name = some i := by
  unfold find
  rw [List.findIdx?_eq_some_iff_getElem]
  refine ⟨hi, called_iff.2 rfl, fun j hj h => ?_⟩
  have h1 := called_iff.1 h
  have h2 := List.pairwise_iff_getElem.1 hs j i (by omega) hi hj
  rw [h1, cmp_self] at h2
  omega

theorem blocks_at {s : St} (hR : Right s) {i : Nat} (hi : i < s.vols.length) : blocksR s s.vols[i].name = (s.vols[i].ids, 0) := blocks_some (find_at hR.srt hi) hi

theorem place_at {s : St} (hR : Right s) {i j : Nat} (hi : i < s.vols.length) (hj : j < s.vols[i].ids.length) : placeE s s.vols[i].name (j : Int) = 0 := by
  unfold placeE
  rw [find_at hR.srt hi]
  dsimp only
  rw [List.getElem?_eq_getElem hi]
  dsimp only
  rw [if_neg (by omega)]

theorem read_at {s : St} (hR : Right s) {i j : Nat} (hi : i < s.vols.length) (hj : j < s.vols[i].ids.length) :
    readR s s.vols[i].name (j : Int) = if s.vols[i].ids[j].is = true then Bg.getR Bg.Pr s.bag s.vols[i].ids[j] else (Bg.noText, 0) := by
  rw [readR_ok (place_at hR hi hj) (i := i) (by unfold fd; rw [find_at hR.srt hi]; rfl), idAt_is hi hj]

theorem insV_has (vs : List Vl) (v : Vl) : ∃ i, ∃ h : i < (insV vs v).length, (insV vs v)[i] = v := by
  have : v ∈ insV vs v := by unfold insV; simp
  obtain ⟨i, h, e⟩ := List.getElem_of_mem this
  exact ⟨i, h, e⟩

theorem insV_length (vs : List Vl) (v : Vl) : (insV vs v).length = vs.length + 1 := by
  unfold insV
  have : vs.countP (fun u => decide (cmpN u.name v.name < 0)) ≤ vs.length := List.countP_le_length
  rw [List.length_append, List.length_cons, List.length_take, List.length_drop]
  omega

/-- What a new volume is. -/
theorem make_new {s : St} (hR : Right s) (name : ByteArray) (k : Int) :
    (makeR s name k).e ≠ 0 ∧ (makeR s name k).s = st0 ∨
    (makeR s name k).e = 0 ∧ ∃ n : Nat, k = n ∧ n ≤ 32 ∧ (makeR s name k).s.bag = s.bag ∧ (makeR s name k).s.vols.length = s.vols.length + 1 ∧ blocksR (makeR s name k).s name = (List.replicate n Bg.noId, 0) ∧ ∀ j : Nat, j < n → readR (makeR s name k).s name (j : Int) = (Bg.noText, 0) := by
  have hR2 := make_right hR name k
  by_cases h1 : k < 1 ∨ 32 < k
  · have e : makeR s name k = ⟨st0, 1⟩ := by unfold makeR; rw [if_pos h1]
    rw [e]
    exact Or.inl ⟨by decide, rfl⟩
  · by_cases h2 : freshE s.vols name ≠ 0
    · have e : makeR s name k = ⟨st0, freshE s.vols name⟩ := by unfold makeR; rw [if_neg h1, if_pos h2]
      rw [e]
      exact Or.inl ⟨h2, rfl⟩
    · have e : makeR s name k = ⟨⟨s.bag, insV s.vols ⟨name, List.replicate k.toNat Bg.noId⟩⟩, 0⟩ := by unfold makeR; rw [if_neg h1, if_neg h2]
      rw [e] at hR2 ⊢
      obtain ⟨i, hi, hv⟩ := insV_has s.vols ⟨name, List.replicate k.toNat Bg.noId⟩
      have hn : (insV s.vols ⟨name, List.replicate k.toNat Bg.noId⟩)[i].name = name := by rw [hv]
      have hl : (insV s.vols ⟨name, List.replicate k.toNat Bg.noId⟩)[i].ids = List.replicate k.toNat Bg.noId := by rw [hv]
      have b := blocks_at hR2 hi
      rw [hn, hl] at b
      refine Or.inr ⟨rfl, k.toNat, by omega, by omega, rfl, insV_length _ _, b, fun j hj => ?_⟩
      have hj' : j < (insV s.vols ⟨name, List.replicate k.toNat Bg.noId⟩)[i].ids.length := by rw [hl, List.length_replicate]; exact hj
      have r := read_at hR2 hi hj'
      rw [hn] at r
      rw [r]
      have hx : ∀ x ∈ (insV s.vols ⟨name, List.replicate k.toNat Bg.noId⟩)[i].ids, x = Bg.noId := fun x h => by rw [hl] at h; exact List.eq_of_mem_replicate h
      have hz : (insV s.vols ⟨name, List.replicate k.toNat Bg.noId⟩)[i].ids[j] = Bg.noId := hx _ (List.getElem_mem hj')
      have hz' : ((insV s.vols ⟨name, List.replicate k.toNat Bg.noId⟩)[i].ids[j]).is = false := congrArg Bg.Id.is hz
      exact if_neg (fun h => by rw [hz'] at h; cases h)

end Go.Proofs.Ytenkdpogdfcbgaa.Vo
