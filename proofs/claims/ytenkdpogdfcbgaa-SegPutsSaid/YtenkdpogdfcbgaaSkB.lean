import Derived.Test.YtenkdpogdfcbgaaSkA
import Derived.Deep.RegionHeld3
import Derived.BigQuiet
/- The walk of woolref.Alive. -/
namespace Go.Proofs.Ytenkdpogdfcbgaa
open Go.RowKit

theorem mk_recs (n : Nat) (hn : n ≤ 1000) : ∃ cs : Array Value, cs.toList = sv (List.replicate n ⟨none, 0, 0⟩) ∧ cs.size = n ∧ ∀ V : World, (Instr.makeSlice 26 (.int .i64 (n : Int)) (.int .i64 (n : Int))).run Try.prog V = .ok (.slice (some ⟨V.heap.size, 0, none⟩) n n) (V.alloc (.cells cs 45)) := by
  obtain ⟨i0, hi, hz0, hz1, hz2⟩ := info_parts Try.infoRecs
  refine ⟨madeCells #[Value.slice none 0 0] (n * 1), by rw [toList_madeCells_one, Nat.mul_one]; unfold sv; rw [List.map_replicate]; rfl, by rw [size_madeCells, Nat.mul_one], fun V => ?_⟩
  have h := run_makeSlice (P := Try.prog) V 26 45 i0 _ Try.underlying26 hi hz0 .i64 .i64 (n : Int) (n : Int) (by omega) (Int.le_refl _) (by rw [hz1]; omega) (by rw [hz2]; omega) (by omega)
  rw [hz1, Int.toNat_natCast] at h
  exact h

/-- Segment k grows. -/
theorem SgW.app {w V wq : World} {base g n c g' cap' k : Nat} {rs : List Rl} {r : Rl} {l : List (List Sg.R)} {s : List Sg.R} {x : Sg.R} (h : SgW V base (some ⟨g, 0, none⟩) n c rs l) (hr : rs[k]? = some r) (hs : l[k]? = some s)
    (q1 : wq.ownsRow base 36 4 (.slice (some ⟨g', 0, none⟩) (r.n + 1) cap') (r.n + 1) (ev s ++ x.c)) (q2 : V.grownBy wq r.v.ownBlock) (q3 : r.v.ownBlock = some g' ∨ g' = V.heap.size) (hw : Below base w V) (hb : base ≤ V.heap.size) :
    SgW (wq.setCell ⟨g, k, none⟩ (.slice (some ⟨g', 0, none⟩) (r.n + 1) cap')) base (some ⟨g, 0, none⟩) n c (rs.set k ⟨some ⟨g', 0, none⟩, r.n + 1, cap'⟩) (l.set k (s ++ [x])) ∧ Below base w (wq.setCell ⟨g, k, none⟩ (.slice (some ⟨g', 0, none⟩) (r.n + 1) cap')) := by
  obtain ⟨hkr, hkr2⟩ := List.getElem?_eq_some_iff.1 hr
  obtain ⟨hkl, -⟩ := List.getElem?_eq_some_iff.1 hs
  have hrow : V.ownsRow base 36 4 r.v r.n (ev s) := h.seg k r s hr hs
  have o1 : wq.ownsRow base 45 1 (.slice (some ⟨g, 0, none⟩) n c) n (sv rs) := own_kept2 h.row q2 fun k hk e => own_unlike h.row hrow (by decide) k hk e
  obtain ⟨o2, o3⟩ := o1.stored k (.slice (some ⟨g', 0, none⟩) (r.n + 1) cap')
  have hg : base ≤ g := row_base o1 g rfl
  have hne : ∀ (i : Nat) (z : Rl), i ≠ k → rs[i]? = some z → ∀ j, z.v.ownBlock = some j → r.v.ownBlock ≠ some j := fun i z hik hz j hj e => by
    obtain ⟨hi, rfl⟩ := List.getElem?_eq_some_iff.1 hz
    subst hkr2
    rcases Nat.lt_or_gt_of_ne hik with h1 | h1
    · have := List.pairwise_iff_getElem.1 h.apart i k (by rw [List.length_map]; exact hi) (by rw [List.length_map]; exact hkr) h1
      rw [List.getElem_map, List.getElem_map] at this
      exact this j hj e
    · have := List.pairwise_iff_getElem.1 h.apart k i (by rw [List.length_map]; exact hkr) (by rw [List.length_map]; exact hi) h1
      rw [List.getElem_map, List.getElem_map] at this
      exact this j e hj
  have hlt : ∀ (i : Nat) (z : Rl), rs[i]? = some z → ∀ j, z.v.ownBlock = some j → j < V.heap.size := fun i z hz j hj => by
    obtain ⟨s', -, ho⟩ := h.rows (List.mem_of_getElem? hz)
    exact own_block_lt ho j hj
  refine ⟨⟨?_, by rw [List.length_set]; exact h.len, fun i z t hz ht => ?_, ?_⟩, (hw.grown q2 hb (fun k e => row_base hrow k e)).grown o3 (Nat.le_trans hb q2.size) (fun k e => by cases e; exact hg)⟩
  · have : (sv rs).set k (.slice (some ⟨g', 0, none⟩) (r.n + 1) cap') = sv (rs.set k ⟨some ⟨g', 0, none⟩, r.n + 1, cap'⟩) := by
      unfold sv
      rw [List.map_set]
      rfl
    rw [← this]
    exact o2
  · by_cases hi : k = i
    · subst hi
      rw [List.getElem?_set_self hkr] at hz
      rw [List.getElem?_set_self hkl] at ht
      obtain rfl := Option.some.inj hz
      obtain rfl := Option.some.inj ht
      have q1' : wq.ownsRow base 36 4 (.slice (some ⟨g', 0, none⟩) (r.n + 1) cap') (r.n + 1) (ev (s ++ [x])) := by rw [ev_app]; exact q1
      exact own_kept2 q1' o3 fun k hk e => own_unlike q1' o1 (by decide) k hk e
    · rw [List.getElem?_set_ne hi] at hz ht
      have o4 := h.seg i z t hz ht
      have o5 := own_kept2 o4 q2 fun j hj e => hne i z (fun e => hi e.symm) hz j hj e
      exact own_kept2 o5 o3 fun k hk e => own_unlike o5 o1 (by decide) k hk e
  · refine List.pairwise_iff_getElem.2 fun i j hi hj hij m h1 h2 => ?_
    rw [List.length_map, List.length_set] at hi hj
    rw [List.getElem_map, List.getElem_set] at h1 h2
    have hnew : ∀ i (hi : i < rs.length), i ≠ k → (rs[i]).v.ownBlock = some m → some g' ≠ some m := fun i hi hik hm e => by
      have e1 := Option.some.inj e
      rcases q3 with q3 | q3
      · exact hne i _ hik (List.getElem?_eq_getElem hi) m hm (by rw [q3, e1])
      · have := hlt i _ (List.getElem?_eq_getElem hi) m hm
        omega
    by_cases e1 : k = i
    · subst e1
      rw [if_pos rfl] at h1
      rw [if_neg (by omega)] at h2
      exact hnew j hj (by omega) h2 h1
    · rw [if_neg e1] at h1
      by_cases e2 : k = j
      · subst e2
        rw [if_pos rfl] at h2
        exact hnew i hi (by omega) h1 h2
      · rw [if_neg e2] at h2
        have := List.pairwise_iff_getElem.1 h.apart i j (by rw [List.length_map]; exact hi) (by rw [List.length_map]; exact hj) hij
        rw [List.getElem_map, List.getElem_map] at this
        exact this m h1 h2

theorem Sg.lives_step {b : List Bg.It} {l : List (List Sg.R)} {n q : Nat} {s : List Sg.R} (hn : l.length = n) (h : l[q]? = some s) :
    ((Sg.lives b l).take q ++ List.replicate (n - q) ([] : List Sg.R)).set q (Sg.liveR b s (l.drop (q + 1)).flatten) = (Sg.lives b l).take (q + 1) ++ List.replicate (n - (q + 1)) [] ∧ ((Sg.lives b l).take q ++ List.replicate (n - q) ([] : List Sg.R))[q]? = some [] := by
  have h1 := Sg.lives_get (b := b) h
  obtain ⟨h2, h3⟩ := List.getElem?_eq_some_iff.1 h1
  have h4 : ((Sg.lives b l).take q).length = q := by rw [List.length_take]; omega
  have hq := (List.getElem?_eq_some_iff.1 h).1
  have h5 : n - q = (n - (q + 1)) + 1 := by omega
  refine ⟨?_, ?_⟩
  · rw [List.set_append_right _ _ (by omega), h4, Nat.sub_self, h5, List.replicate_succ, List.set_cons_zero, List.take_succ_eq_append_getElem h2, h3, List.append_assoc]
    rfl
  · rw [List.getElem?_append_right (by omega), h4, Nat.sub_self, h5, List.replicate_succ]
    rfl

theorem Sg.live_len (b : List Bg.It) (s tl : List Sg.R) : (Sg.liveR b s tl).length ≤ s.length := by
  induction s with
  | nil => exact Nat.le_refl _
  | cons r s ih =>
    rw [Sg.liveR]
    split
    · rw [List.length_cons, List.length_cons]; omega
    · rw [List.length_cons]; omega

/-- Whether a record is live: by what stands behind it. -/
theorem Sg.flag_later {b : List Bg.It} {t : List Sg.R} {r : Sg.R} : (Sg.okB b r && !Sg.seenB b t r.id) = (Sg.okB b r && !(t.any fun x => decide (x = r))) := by
  cases h : Sg.okB b r with
  | false => rfl
  | true =>
    have : Sg.seenB b t r.id = t.any fun x => decide (x = r) := by
      rw [Bool.eq_iff_iff, Sg.seen_iff h, List.any_eq_true]
      exact ⟨fun hm => ⟨r, hm, decide_eq_true rfl⟩, fun ⟨x, hx, hd⟩ => of_decide_eq_true hd ▸ hx⟩
    rw [this]

set_option maxRecDepth 100000 in
set_option maxHeartbeats 16000000 in
theorem Alive_E (a : Option Addr) (n c base : Nat) (rs : List Rl) (l : List (List Sg.R)) (ba : Option Addr) (bn bc : Nat) (bl : List Bg.It) (w : World) (hS : SgW w base a n c rs l) (hG : Sg.Good l) (hI : ISl w ba bn bc bl) (hB : Bg.Good bl) :
    Calls Try.prog 153 #[.slice a n c, .slice ba bn bc] w fun e w' => ∃ g zs, e = .returned (.slice (some ⟨g, 0, none⟩) n n) ∧ SgW w' w.heap.size (some ⟨g, 0, none⟩) n n zs (Sg.lives bl l) ∧ Below w.heap.size w w' := by
  have hn16 : n ≤ 16 := by rw [← hS.len]; exact hG.len
  have hbn : bn ≤ 64 := by rw [← hI.len]; exact hB.len
  have H25 : Hid (∀ s ∈ l, s.length ≤ 25) := Lib.hid fun s hs => Sg.sok_short (hG.seg s hs)
  obtain ⟨i1, hi1, hy0, hy1, hy2⟩ := info_parts Try.infoRec
  obtain ⟨cs, hc1, hc2, hmk⟩ := mk_recs n (by omega)
  have HS := Lib.hid hS; have HI := Lib.hid hI; have HBG := Lib.hid hB
  have HLN := Lib.hid hS.len
  obtain ⟨W1, hW1⟩ : ∃ W1, w.alloc (.cells cs 45) = W1 := ⟨_, rfl⟩
  have HB1 : Hid (Below w.heap.size w W1) := Lib.hid (by rw [← hW1]; exact (Below.refl w.heap.size w).alloc (Nat.le_refl _) _)
  have HL1 : Hid (SgW W1 w.heap.size (some ⟨w.heap.size, 0, none⟩) n n (List.replicate n ⟨none, 0, 0⟩) ((Sg.lives bl l).take 0 ++ List.replicate (n - 0) [])) := Lib.hid (by
    rw [← hW1]
    have h1 := World.ownsRow_lit (base := w.heap.size) (e := 45) (size := 1) w cs n (Nat.le_refl _) (by unfold maxLen; omega) (by omega)
    rw [hc1] at h1
    show SgW _ _ _ _ _ _ (List.replicate n [])
    refine ⟨h1, List.length_replicate, fun i r f hr hf => ?_, ?_⟩
    · obtain ⟨-, rfl⟩ := List.getElem?_eq_some_iff.1 hr
      obtain ⟨-, rfl⟩ := List.getElem?_eq_some_iff.1 hf
      rw [List.getElem_replicate, List.getElem_replicate]
      exact World.ownsRow_nil _ _ _ _
    · refine List.pairwise_iff_getElem.2 fun i j hi hj hij k h1 h2 => ?_
      rw [List.getElem_map, List.getElem_replicate] at h1
      cases h1)
  clear hS hG hI hB hc1 hc2
  go_enter Try.func153, Try.ntmps153
  go_wp2_with fail
  go_loopw [19] (fun v wr => ∃ (q : Nat) (zs : List Rl), v = .int .i64 q ∧ q ≤ n ∧ Hid (Below w.heap.size w wr) ∧ Hid (SgW wr w.heap.size (some ⟨w.heap.size, 0, none⟩) n n zs ((Sg.lives bl l).take q ++ List.replicate (n - q) []))) (fun v _ => n - (intOf v).toNat)
  case atStart => exact ⟨0, _, rfl, Nat.zero_le _, HB1, HL1⟩
  case round =>
    obtain ⟨q, zs, rfl, hq, HB, HL⟩ := hrel
    by_cases hqn : q < n
    · obtain ⟨g, r, s, rfl, hg, -, c0w, hr, hls, ho⟩ := HS.out.at hqn
      have hs25 := H25.out s (List.mem_of_getElem? hls)
      have hrn : r.n ≤ 25 := by rw [← own_len4 ho]; exact hs25
      have HSL := Lib.hid (own_len4 ho)
      have HO := Lib.hid ho
      obtain ⟨HLS, HLE⟩ := Sg.lives_step (b := bl) HLN.out hls
      have HLS := Lib.hid HLS
      have HLE2 : Hid (∀ x : List Sg.R, ((Sg.lives bl l).take q ++ List.replicate (n - q) ([] : List Sg.R)).set q x = ((Sg.lives bl l).take q ++ List.replicate (n - q) ([] : List Sg.R)).set q x) := Lib.hid fun _ => rfl
      have HL0 : Hid (SgW wr w.heap.size (some ⟨w.heap.size, 0, none⟩) n n zs (((Sg.lives bl l).take q ++ List.replicate (n - q) []).set q [])) := Lib.hid (by rw [List.set_getElem_self' HLE]; exact HL.out)
      have HSETL : Hid (∀ x : List Sg.R, (((Sg.lives bl l).take q ++ List.replicate (n - q) ([] : List Sg.R)).set q x)[q]? = some x) := Lib.hid fun x => List.getElem?_set_self ((List.getElem?_eq_some_iff.1 HLE).1)
      have HTL : Hid (∀ m t, (l.drop (q + 1))[m]? = some t → l[q + 1 + m]? = some t) := Lib.hid fun m t h => by rw [List.getElem?_drop] at h; exact h
      have HDL : Hid ((l.drop (q + 1)).length = n - (q + 1)) := Lib.hid (by rw [List.length_drop, HLN.out])
      generalize ((Sg.lives bl l).take q ++ List.replicate (n - q) ([] : List Sg.R)) = LL at *
      obtain ⟨ra, rn, rc⟩ := r
      dsimp only at c0w hrn HSL HO
      have c0 : wr.cell? ⟨g, q, none⟩ = some (.slice ra rn rc) := (HB.out.cell hg).trans c0w
      have hrc := (own_cap ho).1
      have hnc := (own_cap HS.out.row).1
      have HGW := Lib.hid hg
      clear hr hls ho c0w hs25 hg HLE HLE2 HL
      generalize wr = W0 at *
      go_wp2_with fail
      clear c0
      go_loopw [26] (fun v wr => ∃ (j : Nat) (zs : List Rl), v = .int .i64 j ∧ j ≤ rn ∧ Hid (Below w.heap.size w wr) ∧ Hid (SgW wr w.heap.size (some ⟨w.heap.size, 0, none⟩) n n zs (LL.set q (Sg.liveR bl (s.take j) (s.drop j ++ (l.drop (q + 1)).flatten))))) (fun v _ => rn - (intOf v).toNat)
      case atStart => exact ⟨0, _, rfl, Nat.zero_le _, HB, HL0⟩
      case round =>
        obtain ⟨j, z2, rfl, hj, HB2, HL2⟩ := hrel
        by_cases hjn : j < rn
        · have hjs : j < s.length := by rw [HSL.out]; exact hjn
          obtain ⟨g2, rfl, hg2, d0, d1, d2, d3⟩ := ev_at (own_keep HO.out HB2.out) hjs
          have HST := Lib.hid (Sg.live_step (b := bl) (tl := (l.drop (q + 1)).flatten) (List.getElem?_eq_getElem hjs))
          have hflag := Sg.flag_later (b := bl) (t := s.drop (j + 1) ++ (l.drop (q + 1)).flatten) (r := s[j])
          rw [hflag] at HST
          have HAN : Hid ((s.drop (j + 1) ++ (l.drop (q + 1)).flatten).any (fun x => decide (x = s[j])) = ((s.drop (j + 1)).any (fun x => decide (x = s[j])) || (l.drop (q + 1)).any (fun t => t.any fun x => decide (x = s[j])))) := Lib.hid (by
            rw [List.any_append]
            congr 1
            induction l.drop (q + 1) with
            | nil => rfl
            | cons t l ih => rw [List.flatten_cons, List.any_append, ih, List.any_cons])
          have HRT : Hid (∀ A2 W, (if rc = j + 1 then some (⟨g2, 0, none⟩ : Addr) else some ⟨g2, (j + 1) * 4, none⟩) = A2 → Below w.heap.size w W → RSl W A2 (rn - (j + 1)) (rc - (j + 1)) (s.drop (j + 1))) := Lib.hid fun A2 W h hb => ⟨fun hne => by
            have hjl : j + 1 < s.length := by
              have := List.length_pos_iff.2 hne
              rw [List.length_drop] at this
              omega
            have hrl := HSL.out
            rw [if_neg (by omega)] at h
            refine ⟨_, h.symm, fun m t ht => ?_⟩
            rw [List.getElem?_drop] at ht
            obtain ⟨hm, rfl⟩ := List.getElem?_eq_some_iff.1 ht
            obtain ⟨g3, e3, -, k0, k1, k2, k3⟩ := ev_at (own_keep HO.out hb) hm
            cases e3
            simp only [addr_lit]
            have e4 : (j + 1) * 4 + m * 4 = (j + 1 + m) * 4 := by omega
            exact ⟨by rw [e4]; exact k0, by rw [← Nat.add_assoc, e4]; exact k1, by rw [← Nat.add_assoc, e4]; exact k2, by rw [← Nat.add_assoc, e4]; exact k3⟩, by rw [List.length_drop, HSL.out]⟩
          clear hflag
          generalize s[j] = r at *
          obtain ⟨⟨f1, f2, f3⟩, f4⟩ := r
          dsimp only at d0 d1 d2 d3
          obtain ⟨B, hB⟩ : ∃ B, wr.heap.size = B := ⟨_, rfl⟩
          obtain ⟨V, hV⟩ : ∃ V, wr.alloc (.cells #[.bool f1, .int .i64 f2, .int .i64 f3, .string f4] 36) = V := ⟨_, rfl⟩
          have hal : Below wr.heap.size wr V := by rw [← hV]; exact (Below.refl wr.heap.size wr).alloc (Nat.le_refl _) _
          have HBX : Hid (Bxs V B [.bool f1, .int .i64 f2, .int .i64 f3, .string f4]) := Lib.hid (by rw [← hV, ← hB]; exact bxs_new wr _ _ _ rfl)
          have HB3 := Lib.hid (HB2.out.trans (hal.mono HB2.out.size))
          have HL3 := Lib.hid (HL2.out.keep hal)
          have K1 := Item_E ba bn bc bl f1 f2 f3 V (HI.out.keep HB3.out) (by omega)
          obtain ⟨I, hI⟩ : ∃ I, idx (Bg.hit ⟨f1, f2, f3⟩) bl = I := ⟨_, rfl⟩
          rw [hI] at K1
          have HII := Lib.hid hI
          have b0 := HBX.out.c 0 _ rfl; have b1 := HBX.out.c 1 _ rfl; have b2 := HBX.out.c 2 _ rfl
          clear hal HL2 HB2 hg2 hI
          go_wp2_with fail
          with_reducible refine K1.mono ?_
          rintro e V2 ⟨rfl, hb⟩
          have HB4 := Lib.hid (HB3.out.trans (hb.mono HB3.out.size))
          have HL4 := Lib.hid (HL3.out.keep hb)
          have HX4 := Lib.hid (HBX.out.on hb)
          obtain ⟨A2, hA2⟩ : ∃ A2, (if rc = j + 1 then some (⟨g2, 0, none⟩ : Addr) else some ⟨g2, (j + 1) * 4, none⟩) = A2 := ⟨_, rfl⟩
          have HR4 := Lib.hid (HRT.out A2 V2 hA2 HB4.out)
          clear K1 hb b0 b1 b2 d0 d1 d2 d3 HL3 HB3 HBX HRT hV hB
          have rw0 : Below V2.heap.size V2 V2.drew := Below.drew (Below.refl _ _)
          have kx0 := (HX4.out.on rw0).c 0 _ rfl; have kx1 := (HX4.out.on rw0).c 1 _ rfl; have kx2 := (HX4.out.on rw0).c 2 _ rfl; have kx3 := (HX4.out.on rw0).c 3 _ rfl
          have hwj : IntKind.i64.wrap ((j : Int) + 1) = (j : Int) + 1 := IntWalk.i64_in _ ⟨by omega, by omega⟩
          have hj0 : (0 : Int) ≤ (j : Int) + 1 := by omega
          have hj1 : (j : Int) + 1 ≤ (rn : Int) := by omega
          have hj2 : (rn : Int) ≤ (rc : Int) := by omega
          have hj3 : (j : Int) + 1 ≤ (rc : Int) := by omega
          have hj4 : ((j : Int) + 1).toNat = j + 1 := by omega
          go_wp2_with fail
          go_region_held3 (fun U => U.cell? ⟨B, 0, none⟩ = some (.bool f1) ∧ U.cell? ⟨B, 1, none⟩ = some (.int .i64 f2) ∧ U.cell? ⟨B, 2, none⟩ = some (.int .i64 f3) ∧ U.cell? ⟨B, 3, none⟩ = some (.string f4) ∧ Below V2.heap.size V2 U)
            (first | with_reducible exact ⟨by assumption, by assumption, by assumption, by assumption, by assumption⟩)
            ((first
              | (go_at_call 23; have rq := Contains_R A2 (rn - (j + 1)) (rc - (j + 1)) (s.drop (j + 1)) ⟨⟨f1, f2, f3⟩, f4⟩ _ (HR4.out.keep rw0) (by omega); (with_reducible refine rq.mono ?_); clear rq; rintro e U1 ⟨rfl, rh1⟩; have rw1 := rw0.trans (rh1.mono rw0.size); clear rh1; have lx0 := (HX4.out.on rw1).c 0 _ rfl; have lx1 := (HX4.out.on rw1).c 1 _ rfl; have lx2 := (HX4.out.on rw1).c 2 _ rfl; have lx3 := (HX4.out.on rw1).c 3 _ rfl)))
          have HU1 := Lib.hid rw1
          have HB5 := Lib.hid (HB4.out.trans (rw1.mono HB4.out.size))
          have HX5 := Lib.hid (HX4.out.on rw1)
          have HL5 := Lib.hid (HL4.out.keep rw1)
          obtain ⟨F, hF⟩ : ∃ F : Nat → Bool, F = fun m => (s.drop (j + 1)).any (fun x => decide (x = (⟨⟨f1, f2, f3⟩, f4⟩ : Sg.R))) || ((l.drop (q + 1)).take m).any (fun t => t.any fun x => decide (x = (⟨⟨f1, f2, f3⟩, f4⟩ : Sg.R))) := ⟨_, rfl⟩
          have HF0 : (s.drop (j + 1)).any (fun x => decide (x = (⟨⟨f1, f2, f3⟩, f4⟩ : Sg.R))) = F 0 := by
            rw [hF]
            show _ = (_ || _)
            rw [List.take_zero, List.any_nil, Bool.or_false]
          have HFS : Hid (∀ m t, l[q + 1 + m]? = some t → F (m + 1) = (F m || t.any fun x => decide (x = (⟨⟨f1, f2, f3⟩, f4⟩ : Sg.R)))) := Lib.hid fun m t h => by
            have h1 : (l.drop (q + 1))[m]? = some t := by rw [List.getElem?_drop]; exact h
            obtain ⟨h2, rfl⟩ := List.getElem?_eq_some_iff.1 h1
            rw [hF]
            show (_ || _) = ((_ || _) || _)
            rw [List.take_succ_eq_append_getElem h2, List.any_append, List.any_cons, List.any_nil, Bool.or_false, Bool.or_assoc]
          have HFE : Hid (∀ m, m = n - (q + 1) → ((s.drop (j + 1) ++ (l.drop (q + 1)).flatten).any fun x => decide (x = (⟨⟨f1, f2, f3⟩, f4⟩ : Sg.R))) = F m) := Lib.hid fun m hm => by
            rw [HAN.out, hF]
            show _ = (_ || _)
            rw [List.take_of_length_le (by rw [HDL.out, hm]; exact Nat.le_refl _)]
          rw [HF0]
          clear hF HF0 HAN rw0 rw1 kx0 kx1 kx2 kx3 lx0 lx1 lx2 lx3 hwj hj0 hj1 hj2 hj3 hj4 HX4 HL4 HR4 hA2
          have hwq : IntKind.i64.wrap ((q : Int) + 1) = (q : Int) + 1 := IntWalk.i64_in _ ⟨by omega, by omega⟩
          have hq0 : (0 : Int) ≤ (q : Int) + 1 := by omega
          have hq1 : (q : Int) + 1 ≤ (n : Int) := by omega
          have hq2 : (n : Int) ≤ (c : Int) := by omega
          have hq3 : (q : Int) + 1 ≤ (c : Int) := by omega
          have hq4 : ((q : Int) + 1).toNat = q + 1 := by omega
          obtain ⟨A3, hA3⟩ : ∃ A3, (if c = q + 1 then some (⟨g, 0, none⟩ : Addr) else some ⟨g, q + 1, none⟩) = A3 := ⟨_, rfl⟩
          go_wp2_with fail
          have HA3 := Lib.hid hA3
          clear hwq hq0 hq1 hq2 hq3 hq4 hA3
          generalize U1 = U0 at *
          go_loopw [11, 46] (fun v x wr => ∃ m : Nat, x = .int .i64 m ∧ m ≤ n - (q + 1) ∧ v = .bool (F m) ∧ Hid (Below U0.heap.size U0 wr)) (fun _ x _ => n - (intOf x).toNat)
          case atStart => exact ⟨0, rfl, Nat.zero_le _, rfl, Lib.hid (Below.refl _ _)⟩
          case round =>
            obtain ⟨m, rfl, hm, rfl, HBM⟩ := hrel
            by_cases hmn : m < n - (q + 1)
            · obtain ⟨g7, r7, s7, e7, hg7, -, c7w, hr7, hls7, ho7⟩ := HS.out.at (k := q + 1 + m) (by omega)
              obtain rfl : A3 = some ⟨g, q + 1, none⟩ := by rw [← HA3.out, if_neg (by omega)]
              obtain rfl : g = g7 := by injection e7 with e7; injection e7
              clear e7
              have HBW := Lib.hid (HB5.out.trans (HBM.out.mono HB5.out.size))
              have hs25 := H25.out s7 (List.mem_of_getElem? hls7)
              have HFM := Lib.hid (HFS.out m s7 hls7)
              have HXM := Lib.hid (HX5.out.on HBM.out)
              have x0 := HXM.out.c 0 _ rfl; have x1 := HXM.out.c 1 _ rfl; have x2 := HXM.out.c 2 _ rfl; have x3 := HXM.out.c 3 _ rfl
              have c7 : wr.cell? ⟨g, q + 1 + m, none⟩ = some (.slice r7.a r7.n r7.c) := (HBW.out.cell hg7).trans c7w
              have K3 := Contains_R r7.a r7.n r7.c s7 ⟨⟨f1, f2, f3⟩, f4⟩ wr (rsl_own (own_keep ho7 HBW.out)) (by rw [← own_len4 ho7]; omega)
              generalize (s7.any fun x => decide (x = (⟨⟨f1, f2, f3⟩, f4⟩ : Sg.R))) = AN at *
              obtain ⟨ra7, rn7, rc7⟩ := r7
              dsimp only at c7 K3
              clear hr7 hls7 ho7 c7w hg7 hs25
              cases hFm : F m with
              | true =>
                have HFN : Hid (F (m + 1) = true) := Lib.hid (by rw [HFM.out, hFm]; rfl)
                go_wp2_with fail
                go_roundw
                case rel => exact ⟨m + 1, by go_num, by omega, by rw [HFN.out], HBM⟩
                case measure => simp [intOf]; omega
              | false =>
                have HFN : Hid (F (m + 1) = AN) := Lib.hid (by rw [HFM.out, hFm]; rfl)
                go_wp2_with fail
                with_reducible refine K3.mono ?_
                rintro e w3 ⟨rfl, hb⟩
                have HBN := Lib.hid (HBM.out.trans (hb.mono HBM.out.size))
                clear K3 hb c7 x0 x1 x2 x3
                go_wp2_with fail
                go_roundw
                case rel => exact ⟨m + 1, by go_num, by omega, by rw [HFN.out], HBN⟩
                case measure => simp [intOf]; omega
            · obtain rfl : m = n - (q + 1) := by omega
              have HAE := Lib.hid (HFE.out _ rfl)
              generalize F (n - (q + 1)) = AN at *
              rw [HAE.out] at HST
              have HB6 := Lib.hid (HB5.out.trans (HBM.out.mono HB5.out.size))
              have HX6 := Lib.hid (HX5.out.on HBM.out)
              have HL6 := Lib.hid (HL5.out.keep HBM.out)
              generalize wr = U at *
              clear HBM HB5 HX5 HL5 HFS HFE HA3
              have b0 := HX6.out.c 0 _ rfl; have b1 := HX6.out.c 1 _ rfl; have b2 := HX6.out.c 2 _ rfl; have b3 := HX6.out.c 3 _ rfl
              cases hfi : bl.findIdx? (Bg.hit ⟨f1, f2, f3⟩) with
              | none =>
                have HOK : Hid (Sg.okB bl ⟨⟨f1, f2, f3⟩, f4⟩ = false) := Lib.hid (Sg.ok_none hfi)
                obtain rfl : I = -1 := by rw [← HII.out]; unfold idx; rw [hfi]
                clear hfi
                have HLF : Hid (SgW U w.heap.size (some ⟨w.heap.size, 0, none⟩) n n z2 (LL.set q (Sg.liveR bl (s.take (j + 1)) (s.drop (j + 1) ++ (l.drop (q + 1)).flatten)))) := Lib.hid (by
                  rw [HST.out, HOK.out]
                  simpa using HL6.out)
                go_wp2_with fail
                go_quiet (fail)
                go_wp2_with fail
                go_roundw
                case rel => exact ⟨j + 1, z2, by go_num, hjn, Lib.hid (below_drewN HB6.out _), Lib.hid (HLF.out.keep (below_drewN (Below.refl _ _) _))⟩
                case measure => simp [intOf]; omega
              | some i =>
                obtain ⟨hil, hok⟩ := Sg.ok_found (r := ⟨⟨f1, f2, f3⟩, f4⟩) hfi
                obtain rfl : I = (i : Int) := by rw [← HII.out]; unfold idx; rw [hfi]
                have hib : i < bn := by rw [← HI.out.len]; exact hil
                have hbc := HI.out.cap
                clear hfi
                have hk : Bg.same f4 bl[i] = (bl[i].text.toList == f4.toList) := rfl
                obtain ⟨A, ab, ao, as_, rfl, hA, t1, t2, t3, t4⟩ := (HI.out.keep HB6.out).get hil
                generalize bl[i].text = xt at *
                have HOK := Lib.hid (hok.trans hk)
                clear t1 t2 t4 hok hk
                cases hxt : (xt.toList == f4.toList) with
                | false =>
                  rw [hxt] at HOK
                  have HLF : Hid (SgW U w.heap.size (some ⟨w.heap.size, 0, none⟩) n n z2 (LL.set q (Sg.liveR bl (s.take (j + 1)) (s.drop (j + 1) ++ (l.drop (q + 1)).flatten)))) := Lib.hid (by
                    rw [HST.out, HOK.out]
                    simpa using HL6.out)
                  go_wp2_with fail
                  go_quiet (fail)
                  go_wp2_with fail
                  go_roundw
                  case rel => exact ⟨j + 1, z2, by go_num, hjn, Lib.hid (below_drewN HB6.out _), Lib.hid (HLF.out.keep (below_drewN (Below.refl _ _) _))⟩
                  case measure => simp [intOf]; omega
                | true =>
                  rw [hxt] at HOK
                  cases AN with
                  | true =>
                    have HLF : Hid (SgW U w.heap.size (some ⟨w.heap.size, 0, none⟩) n n z2 (LL.set q (Sg.liveR bl (s.take (j + 1)) (s.drop (j + 1) ++ (l.drop (q + 1)).flatten)))) := Lib.hid (by
                      rw [HST.out, HOK.out]
                      simpa using HL6.out)
                    go_wp2_with fail
                    go_quiet (fail)
                    go_wp2_with fail
                    go_roundw
                    case rel => exact ⟨j + 1, z2, by go_num, hjn, Lib.hid (below_drewN HB6.out _), Lib.hid (HLF.out.keep (below_drewN (Below.refl _ _) _))⟩
                    case measure => simp [intOf]; omega
                  | false =>
                    go_wp2_with fail
                    go_quiet (fail)
                    have hbq : Below U.heap.size U (U.drewN nq) := below_drewN (Below.refl _ _) _
                    have HB7 := Lib.hid (below_drewN HB6.out nq)
                    have HX7 := Lib.hid (HX6.out.on hbq)
                    have HL7 := Lib.hid (HL6.out.keep hbq)
                    clear hbq b0 b1 b2 b3 t3 hA HL6 HB6 HX6
                    generalize U.drewN nq = V at *
                    obtain ⟨gl, r5, s5, e5, hgl, -, v0, hr5, hs5, ho5⟩ := HL7.out.at hqn
                    obtain rfl : w.heap.size = gl := by injection e5 with e5; injection e5
                    rw [HSETL.out] at hs5
                    obtain rfl := Option.some.inj hs5
                    have hXl : (Sg.liveR bl (s.take j) (s.drop j ++ (l.drop (q + 1)).flatten)).length ≤ 25 := by
                      have h1 := Sg.live_len bl (s.take j) (s.drop j ++ (l.drop (q + 1)).flatten)
                      have h2 := HSL.out
                      rw [List.length_take] at h1
                      omega
                    have hl5 := own_len4 ho5
                    rw [HOK.out] at HST
                    generalize Sg.liveR bl (s.take j) (s.drop j ++ (l.drop (q + 1)).flatten) = XL at *
                    have HST2 : Hid (Sg.liveR bl (s.take (j + 1)) (s.drop (j + 1) ++ (l.drop (q + 1)).flatten) = XL ++ [⟨⟨f1, f2, f3⟩, f4⟩]) := Lib.hid (by rw [HST.out]; rfl)
                    clear HST
                    have hpn : r5.n ≤ 25 := by omega
                    obtain ⟨X, hX⟩ : ∃ X, (V.alloc (.cells #[.bool f1, .int .i64 f2, .int .i64 f3, .string f4] 36)).drew = X := ⟨_, rfl⟩
                    have hbX : Below V.heap.size V X := by rw [← hX]; exact ((Below.refl V.heap.size V).alloc (Nat.le_refl _) _).drew
                    have HSX := Lib.hid (HL7.out.keep hbX)
                    have HOA : Hid (X.ownsRow w.heap.size 36 4 (.slice r5.a r5.n r5.c) r5.n (ev XL)) := Lib.hid (own_keep ho5 hbX)
                    have HCE : Hid (∀ (j : Nat) (u : Value), [Value.bool f1, .int .i64 f2, .int .i64 f3, .string f4][j]? = some u → X.cell? ((⟨V.heap.size, 0, none⟩ : Addr).add j) = some u) := Lib.hid fun j u hu => by
                      rw [addr_lit, Nat.zero_add, ← hX]
                      exact cell_new V (xs := #[.bool f1, .int .i64 f2, .int .i64 f3, .string f4]) (T := 36) (k := j) (v := u) (by simpa using hu)
                    have HON := Lib.hid (rec_ones f1 f2 f3 f4)
                    have HBX2 : Hid (Below w.heap.size w X) := Lib.hid (HB7.out.trans (hbX.mono HB7.out.size))
                    have hb3 : w.heap.size ≤ X.heap.size := HBX2.out.size
                    have hb1 : r5.n + 1 ≤ maxLen := by unfold maxLen; omega
                    have hb22 : (r5.n + 1) * 40 ≤ 140737488355328 := by omega
                    have HSQ : Hid ((sv z2)[q]? = some (.slice r5.a r5.n r5.c)) := Lib.hid (by unfold sv; rw [List.getElem?_map, hr5]; rfl)
                    have HQ1 : Hid (q < n * 1) := Lib.hid (by omega)
                    have x0 := HSX.out.row.cellAt q HQ1.out
                    rw [HSQ.out] at x0
                    have HR5 := Lib.hid hr5
                    have c0 := HX7.out.c 0 _ rfl; have c1 := HX7.out.c 1 _ rfl; have c2 := HX7.out.c 2 _ rfl; have c3 := HX7.out.c 3 _ rfl
                    have d0 := (HX7.out.on hbX).c 0 _ rfl; have d1 := (HX7.out.on hbX).c 1 _ rfl; have d2 := (HX7.out.on hbX).c 2 _ rfl; have d3 := (HX7.out.on hbX).c 3 _ rfl
                    clear hbX hr5 ho5 hl5 hgl hs5 e5
                    obtain ⟨pa, pn, pc⟩ := r5
                    dsimp only at *
                    go_wp2_with fail
                    go_region_law (refine step_append_lies _ (by rfl) (.tmp 78) (.tmp 80) 45 (by rfl) w.heap.size 36 i1 (.agg #[.bool false, .int .i64 0, .int .i64 0, .string ⟨#[]⟩]) 4 40 Try.underlying45 hi1 hy0 hy1 hy2 (by rfl) (by decide) (.slice pa pn pc) pn (ev XL) (by rfl) HOA.out ⟨V.heap.size, 0, none⟩ 1 1 [.bool f1, .int .i64 f2, .int .i64 f3, .string f4] (by rfl) (by rfl) HCE.out HON.out (by decide) hb1 hb22 hb3 _ (by rfl) (fun g' cap' wq q1 q2 q3 q4 => ?_); have o1 := own_kept2 HSX.out.row q2 (fun k hk e => own_unlike HSX.out.row HOA.out (by decide) k hk e); have y0 := o1.cellAt q HQ1.out; rw [HSQ.out] at y0; have yf := o1.frozenAt q; have Q1 := Lib.hid q1; have Q2 := Lib.hid q2; have Q3 := Lib.hid q3; clear o1 q1 q2 q3)
                    all_goals
                      have HF := Lib.hid (SgW.app (x := ⟨⟨f1, f2, f3⟩, f4⟩) HSX.out HR5.out (HSETL.out _) Q1.out Q2.out Q3.out HBX2.out hb3)
                      rw [List.set_set, ← HST2.out] at HF
                      go_wp2_with fail
                      go_roundw
                      case rel => exact ⟨j + 1, _, by go_num, hjn, Lib.hid HF.out.2, Lib.hid HF.out.1⟩
                      case measure => simp [intOf]; omega
        · obtain rfl : j = rn := by omega
          have HLF : Hid (SgW wr w.heap.size (some ⟨w.heap.size, 0, none⟩) n n z2 ((Sg.lives bl l).take (q + 1) ++ List.replicate (n - (q + 1)) [])) := Lib.hid (by
            have h1 := HL2.out
            have h2 := HLS.out
            have h3 := HSL.out
            rw [List.take_of_length_le (by omega), List.drop_eq_nil_of_le (by omega), List.nil_append, h2] at h1
            exact h1)
          go_wp2_with fail
          go_roundw
          case rel => exact ⟨q + 1, z2, by go_num, hqn, HB2, HLF⟩
          case measure => simp [intOf]; omega
    · obtain rfl : q = n := by omega
      have HTE : Hid ((Sg.lives bl l).take q ++ List.replicate (q - q) [] = Sg.lives bl l) := Lib.hid (by rw [List.take_of_length_le (by rw [Sg.lives_length, HLN.out]; exact Nat.le_refl _), Nat.sub_self]; simp)
      go_wp2_with fail
      go_ret
      exact ⟨_, _, rfl, by have := HL.out; rw [HTE.out] at this; exact this, HB.out⟩

end Go.Proofs.Ytenkdpogdfcbgaa
