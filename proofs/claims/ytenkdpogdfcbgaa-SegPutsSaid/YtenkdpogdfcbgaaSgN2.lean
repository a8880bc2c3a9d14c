import Derived.Test.YtenkdpogdfcbgaaSgN
/- The walk of seg.Clean. -/
namespace Go.Proofs.Ytenkdpogdfcbgaa
open Go.RowKit

set_option maxRecDepth 100000 in
set_option maxHeartbeats 16000000 in
theorem Clean_E (a : Option Addr) (n c base : Nat) (rs : List Rl) (l : List (List Sg.R)) (ba : Option Addr) (bn bc : Nat) (bl : List Bg.It) (w : World) (hS : SgW w base a n c rs l) (hG : Sg.Good l) (hI : ISl w ba bn bc bl) (hs : ∀ t ∈ bl, t.text.size ≤ maxLen) :
    Calls Try.prog 20 #[.slice a n c, .slice ba bn bc] w (SgTo w (Sg.cleanR bl l)) := by
  have hn16 : n ≤ 16 := by rw [← hS.len]; exact hG.len
  have K1 := look_E a n c base rs l ba bn bc bl w hS hG hI hs
  obtain ⟨E, hE⟩ : ∃ E, Bg.checkE Bg.Pr bl = E := ⟨_, rfl⟩
  obtain ⟨RR, hRR⟩ : ∃ RR, Sg.cleanR bl l = RR := ⟨_, rfl⟩
  rw [hRR]
  rw [hE] at K1
  have HRR : Hid ((if E ≠ 0 then (⟨[], E⟩ : Sg.PutA) else if n = 0 then ⟨[], 4⟩ else ⟨Sg.cleanL bl l (Sg.best (Sg.usedL bl l)), 0⟩) = RR) := Lib.hid (by
    rw [← hRR]
    unfold Sg.cleanR
    rw [hE, hS.len])
  have HS := Lib.hid hS; have HG := Lib.hid hG; have HI := Lib.hid hI; have HE := Lib.hid hE
  clear hS hG hI hs hRR hE
  go_enter Try.func20, Try.ntmps20
  go_wp2_with fail
  with_reducible refine K1.mono ?_
  rintro e v1 ⟨rfl, hb⟩
  have HB1 := Lib.hid hb
  clear hb K1
  by_cases hE0 : E = 0
  · subst hE0
    by_cases h0 : n = 0
    · subst h0
      have HRE : Hid (RR = ⟨[], 4⟩) := Lib.hid (by rw [← HRR.out]; rfl)
      go_wp2_with fail
      go_ret2
      rw [HRE.out]
      exact ⟨none, 0, 0, [], rfl, sgW0 _ _, HB1.out⟩
    · have h0' : ((n : Int) == 0) = false := beq_eq_false_iff_ne.2 (by omega)
      have HRE : Hid (RR = ⟨Sg.cleanL bl l (Sg.best (Sg.usedL bl l)), 0⟩) := Lib.hid (by rw [← HRR.out, if_neg (by simp), if_neg h0])
      have HBG := Lib.hid (Bg.check_good HE.out)
      have K2 := live_E a n c base rs l ba bn bc bl v1 (HS.out.keep HB1.out) HG.out (HI.out.keep HB1.out) HBG.out
      go_wp2_with fail
      with_reducible refine K2.mono ?_
      rintro e v2 ⟨g, zs, rfl, hl, hb⟩
      have HB2 := Lib.hid (HB1.out.trans (hb.mono HB1.out.size))
      have HL2 := Lib.hid hl
      have K3 := used_E a n c base rs l g _ zs bl v2 (HS.out.keep HB2.out) HG.out hl
      clear K2 hl hb
      go_wp2_with fail
      with_reducible refine K3.mono ?_
      rintro e v3 ⟨ub, ud, rfl, ho, hb⟩
      have HB3 := Lib.hid (HB2.out.trans (hb.mono HB2.out.size))
      have HL3 := Lib.hid (HL2.out.keep hb)
      have hul : (Sg.usedL bl l).length = n := by rw [Sg.used_length, HS.out.len]
      have hne : Sg.usedL bl l ≠ [] := fun e => h0 (by rw [← hul, e]; rfl)
      obtain ⟨hb1, hb2⟩ := Sg.best_is hne
      rw [hul] at hb1
      obtain ⟨gu, cap, hv, -, -⟩ := ho.form (by omega)
      cases hv
      have hil : (Sg.ints (Sg.usedL bl l)).length = n := by unfold Sg.ints; rw [List.length_map, hul]
      have hcu : ∀ j, j < (Sg.ints (Sg.usedL bl l)).length → v3.cell? ⟨gu, 0 + j, none⟩ = some (.int .i64 ((Sg.ints (Sg.usedL bl l)).getD j 0)) := fun j hj => by
        rw [hil] at hj
        rw [Nat.zero_add, ho.cellAt j (by omega)]
        unfold iv Sg.ints
        simp [List.getD, hul, hj]
      have M1 := Try.slices_Min_int gu 0 n ud (Sg.ints (Sg.usedL bl l)) v3 (by omega) (by omega) (by omega) hcu
      have M2 := Try.slices_Index_int gu 0 n ud (Sg.ints (Sg.usedL bl l)) (Lib.minOf (Sg.ints (Sg.usedL bl l))) v3 (by omega) (by omega) hcu
      rw [List.take_of_length_le (by omega)] at M1 M2
      rw [hb2] at M2
      obtain ⟨q, hq⟩ : ∃ q, Sg.best (Sg.usedL bl l) = q := ⟨_, rfl⟩
      rw [hq] at M2 hb1
      have HQ := Lib.hid hq
      generalize Lib.minOf (Sg.ints (Sg.usedL bl l)) = mn at *
      clear hcu hil hb2 hne hul ho hb K3 hq
      go_wp2_with fail
      with_reducible refine M1.mono ?_
      rintro e v4 ⟨rfl, hv4⟩
      have HV4 := Lib.hid hv4
      clear M1
      rw [← hv4] at M2
      clear hv4
      go_wp2_with fail
      with_reducible refine M2.mono ?_
      rintro e v5 ⟨rfl, hv5⟩
      have HB5 : Hid (Below w.heap.size w v5) := Lib.hid (by rw [hv5, HV4.out]; exact HB3.out)
      have HL5 : Hid (LvW v5 v1.heap.size g n n zs (Sg.flgs bl l)) := Lib.hid (by rw [hv5, HV4.out]; exact HL3.out)
      clear M2 hv5 HV4 HL2 HL3 HB3
      have hqc : (q : Int) ≤ (c : Int) := by have := (own_cap HS.out.row).1; omega
      have hqn : (q : Int) + 1 ≤ (n : Int) := by omega
      have hq1 : IntKind.i64.wrap ((q : Int) + 1) = (q : Int) + 1 := IntWalk.i64_in _ ⟨by omega, by omega⟩
      obtain ⟨ga, cap2, hva, hga, hgl⟩ := HS.out.row.form (by omega)
      cases hva
      have hq0 : (0 : Int) ≤ (q : Int) + 1 := by omega
      obtain ⟨A2, hA2⟩ : ∃ A2, (if c = q + 1 then some (⟨ga, 0, none⟩ : Addr) else some ⟨ga, q + 1, none⟩) = A2 := ⟨_, rfl⟩
      have rw0 : Below v5.heap.size v5 v5.drew := Below.drew (Below.refl _ _)
      have HSV : Hid (SgW v5 base (some ⟨ga, 0, none⟩) n c rs l) := Lib.hid (HS.out.keep HB5.out)
      have s1 : ∀ x, some (⟨ga, 0, none⟩ : Addr) = some x → ∀ j u, (sv (rs.take q))[j]? = some u → v5.cell? (x.add j) = some u := by
        intro x hx j u hu
        cases hx
        unfold sv at hu
        rw [List.getElem?_map, List.getElem?_take] at hu
        by_cases hjq : j < q
        · rw [if_pos hjq] at hu
          rw [addr_lit, Nat.zero_add, HSV.out.row.cellAt j (by omega)]
          unfold sv
          rw [List.getElem?_map]
          exact hu
        · rw [if_neg hjq] at hu
          cases hu
      have s2 : ∀ x, A2 = some x → ∀ j u, (sv (rs.drop (q + 1)))[j]? = some u → v5.cell? (x.add j) = some u := by
        intro x hx j u hu
        have hj : j < n - (q + 1) := by
          have := (List.getElem?_eq_some_iff.1 hu).1
          rw [sv_length, List.length_drop, HSV.out.rlen] at this
          exact this
        have hcn := (own_cap HSV.out.row).1
        rw [if_neg (by omega)] at hA2
        rw [← hA2] at hx
        cases hx
        unfold sv at hu
        rw [List.getElem?_map, List.getElem?_drop] at hu
        rw [addr_lit, HSV.out.row.cellAt _ (by omega)]
        unfold sv
        rw [List.getElem?_map]
        exact hu
      have s3 : A2 = none → n - (q + 1) = 0 ∧ c - (q + 1) = 0 := by
        intro h
        rw [h] at hA2
        split at hA2 <;> cases hA2
      have S1 : Hid (SSl v5 (some ⟨ga, 0, none⟩) q c (rs.take q)) := Lib.hid ⟨s1, (by rw [List.length_take, HSV.out.rlen]; omega), (fun h => by cases h)⟩
      have S2 : Hid (SSl v5 A2 (n - (q + 1)) (c - (q + 1)) (rs.drop (q + 1))) := Lib.hid ⟨s2, (by rw [List.length_drop, HSV.out.rlen]), s3⟩
      clear s1 s2 s3
      have HCON : Hid (∀ U B, (hB : B < U.heap.size) → Below v5.heap.size v5 U → U.cell? ⟨B, 0, none⟩ = some (.slice (some ⟨ga, 0, none⟩) q c) → U.cell? ⟨B, 1, none⟩ = some (.slice A2 (n - (q + 1)) (c - (q + 1))) → Calls Try.prog 114 #[.slice (some ⟨B, 0, none⟩) 2 2] U fun e w' => ∃ b m d, e = .returned (.slice b m d) ∧ SgW w' 0 b m d (rs.take q ++ rs.drop (q + 1)) (l.take q ++ l.drop (q + 1)) ∧ m ≤ 16 ∧ Below U.heap.size U w') := Lib.hid fun U B hB hbU u0 u1 => by
        refine (Concat2_S B 2 q c (n - (q + 1)) (c - (q + 1)) (some ⟨ga, 0, none⟩) A2 (rs.take q) (rs.drop (q + 1)) U hB u0 u1 (S1.out.keep hbU) (S2.out.keep hbU) (by omega) (by omega)).mono ?_
        rintro e w' ⟨v, rfl, ho, hb⟩
        obtain ⟨b, d, rfl⟩ : ∃ b d, v = .slice b (q + (n - (q + 1))) d := by
          rcases ho.2 with ⟨hv, h0⟩ | ⟨g, cap, cur, hv, -⟩
          · exact ⟨none, 0, by rw [hv, h0]⟩
          · exact ⟨_, _, hv⟩
        exact ⟨b, _, d, rfl, HSV.out.cut (by omega) (hbU.trans (hb.mono hbU.size)) ho, by omega, hb⟩
      go_wp2_with fail
      refine wp_region_noPanic ?_
      refine wp_region_held_drew (S := (fun V => Below v5.heap.size v5 V)) (by kernel_rfl) (rw0) (fun hS => ?_)
      refine wpAnyH_take (i := 0) (oi := _) (v := ?_) (by (try simp only [List.getElem?_toArray, List.getElem?_cons_succ, List.getElem?_cons_zero]); rfl) (by kernel_rfl) (by kernel_rfl) (by kernel_rfl) (fun _ _ _ h => h) (Or.inl ⟨by rfl, ?_⟩) (by assumption) ?_
      rotate_left
      next => (rintro w' k0; go_simp; (try with_reducible rfl))
      (try simp only [Act.put, List.setIfInBounds_toArray, List.set_cons_zero, List.set_cons_succ])
      refine wpAnyH_take (i := 1) (oi := _) (v := ?_) (by (try simp only [List.getElem?_toArray, List.getElem?_cons_succ, List.getElem?_cons_zero]); rfl) (by kernel_rfl) (by kernel_rfl) (by kernel_rfl) (fun _ _ _ h => h) (Or.inl ⟨by rfl, ?_⟩) (by assumption) ?_
      rotate_left
      next => (rintro w' k0; go_simp; (try with_reducible rfl))
      (try simp only [Act.put, List.setIfInBounds_toArray, List.set_cons_zero, List.set_cons_succ])
      refine wpAnyH_take (i := 2) (oi := _) (v := ?_) (by (try simp only [List.getElem?_toArray, List.getElem?_cons_succ, List.getElem?_cons_zero]); rfl) (by kernel_rfl) (by kernel_rfl) (by kernel_rfl) (fun _ _ _ h => h) (Or.inl ⟨by rfl, ?_⟩) (by assumption) ?_
      rotate_left
      next => (rintro w' k0; go_simp; (try with_reducible rfl))
      (try simp only [Act.put, List.setIfInBounds_toArray, List.set_cons_zero, List.set_cons_succ])
      refine wpAnyH_take (i := 3) (oi := _) (v := ?_) (by (try simp only [List.getElem?_toArray, List.getElem?_cons_succ, List.getElem?_cons_zero]); rfl) (by kernel_rfl) (by kernel_rfl) (by kernel_rfl) (fun _ _ _ h => h) (Or.inl ⟨by rfl, ?_⟩) (by assumption) ?_
      rotate_left
      next => (rintro w' k0; go_simp; (try with_reducible rfl))
      (try simp only [Act.put, List.setIfInBounds_toArray, List.set_cons_zero, List.set_cons_succ])
      refine wpAnyH_take (i := 4) (oi := _) (v := ?_) (by (try simp only [List.getElem?_toArray, List.getElem?_cons_succ, List.getElem?_cons_zero]); rfl) (by kernel_rfl) (by kernel_rfl) (by kernel_rfl) (fun _ _ _ h => h) (Or.inl ⟨by rfl, ?_⟩) (by assumption) ?_
      rotate_left
      next => (rintro w' k0; go_simp; (try with_reducible rfl))
      (try simp only [Act.put, List.setIfInBounds_toArray, List.set_cons_zero, List.set_cons_succ])
      refine wpAnyH_take (i := 5) (oi := _) (v := ?_) (by (try simp only [List.getElem?_toArray, List.getElem?_cons_succ, List.getElem?_cons_zero]); rfl) (by kernel_rfl) (by kernel_rfl) (by kernel_rfl) (fun _ _ _ h => h) (Or.inl ⟨by rfl, ?_⟩) (by assumption) ?_
      rotate_left
      next => (rintro w' k0; go_simp; (try with_reducible rfl))
      (try simp only [Act.put, List.setIfInBounds_toArray, List.set_cons_zero, List.set_cons_succ])
      refine wpAnyH_take (i := 6) (oi := _) (v := ?_) (by (try simp only [List.getElem?_toArray, List.getElem?_cons_succ, List.getElem?_cons_zero]); rfl) (by kernel_rfl) (by kernel_rfl) (by kernel_rfl) (fun _ _ _ h => h) (Or.inl ⟨by rfl, ?_⟩) (by assumption) ?_
      rotate_left
      next => (rintro w' k0; go_simp; (try with_reducible rfl))
      (try simp only [Act.put, List.setIfInBounds_toArray, List.set_cons_zero, List.set_cons_succ])
      refine wpAnyH_ready (rs := [7]) (by kernel_rfl) (by simp) ?_
      refine AllReadyH.cons (o := _) (by (try simp only [List.getElem?_toArray, List.getElem?_cons_succ, List.getElem?_cons_zero]); rfl) (fun K hK => ?_) (AllReadyH.nil)
      go_simp
      have hbU : Below v5.heap.size v5 (v5.alloc (.cells #[.slice (some ⟨ga, 0, none⟩) q c, .slice A2 (n - (q + 1)) (c - (q + 1))] 26)).drew := ((Below.refl v5.heap.size v5).alloc (Nat.le_refl _) _).drew
      have hx0 := (bxs_new v5 26 #[.slice (some ⟨ga, 0, none⟩) q c, .slice A2 (n - (q + 1)) (c - (q + 1))] [.slice (some ⟨ga, 0, none⟩) q c, .slice A2 (n - (q + 1)) (c - (q + 1))] rfl).drew
      have HC1 := Lib.hid (HCON.out _ v5.heap.size hx0.lt hbU (hx0.c 0 _ rfl) (hx0.c 1 _ rfl))
      clear hx0
      have hX := (hbU)
      refine hK.out _ _ hX (fun _ => ?_)
      clear hK K hS
      (try simp only [Act.put, List.setIfInBounds_toArray, List.set_cons_zero, List.set_cons_succ])
      have hS := hX
      clear hX
      clear hbU
      refine wpAnyH_ready (rs := [8]) (by kernel_rfl) (by simp) ?_
      refine AllReadyH.cons (o := _) (by (try simp only [List.getElem?_toArray, List.getElem?_cons_succ, List.getElem?_cons_zero]); rfl) (fun K hK => ?_) (AllReadyH.nil)
      go_simp
      go_at_call 114
      with_reducible refine HC1.out.mono ?_
      rintro e U1 ⟨b6, m6, d6, rfl, hs6, hm6, hb6⟩
      have HSG6 := Lib.hid hs6
      have HM6 := Lib.hid hm6
      have hX := (hS.trans (hb6.mono hS.size))
      refine hK.out _ _ hX (fun _ => ?_)
      clear hK K hS
      (try simp only [Act.put, List.setIfInBounds_toArray, List.set_cons_zero, List.set_cons_succ])
      have hS := hX
      clear hX
      clear hb6 hs6 hm6
      refine wpAnyH_ready (rs := [9]) (by kernel_rfl) (by simp) ?_
      refine AllReadyH.cons (o := _) (by (try simp only [List.getElem?_toArray, List.getElem?_cons_succ, List.getElem?_cons_zero]); rfl) (fun K hK => ?_) (AllReadyH.nil)
      go_simp
      go_at_call 107
      have rq := copied_E b6 m6 d6 0 _ _ U1 HSG6.out (by have := HM6.out; omega) (fun s hs => by have := Sg.sok_short ((Sg.good_cut HG.out q).seg s hs); omega)
      with_reducible refine rq.mono ?_
      clear rq
      rintro e U2 ⟨b7, m7, d7, z7, rfl, hs7, hb7⟩
      have HSG7 := Lib.hid hs7
      have HB7 := Lib.hid hb7
      have HU1 := Lib.hid hS
      have hX := (hS.trans (hb7.mono hS.size))
      refine hK.out _ _ hX (fun _ => ?_)
      clear hK K hS
      (try simp only [Act.put, List.setIfInBounds_toArray, List.set_cons_zero, List.set_cons_succ])
      have hS := hX
      clear hX
      clear hb7 hs7
      refine wpAnyH_take (i := 10) (oi := _) (v := ?_) (by (try simp only [List.getElem?_toArray, List.getElem?_cons_succ, List.getElem?_cons_zero]); rfl) (by kernel_rfl) (by kernel_rfl) (by kernel_rfl) (fun _ _ _ h => h) (Or.inl ⟨by rfl, ?_⟩) (by assumption) ?_
      rotate_left
      next => (rintro w' k0; go_simp; (try with_reducible rfl))
      (try simp only [Act.put, List.setIfInBounds_toArray, List.set_cons_zero, List.set_cons_succ])
      refine wpAnyH_done (by kernel_rfl) ?_ _
      refine NoPanic.normal ?_
      clear hS HC1 HCON S1 S2 HSG6 HM6
      obtain ⟨r, s, hr, hls, ho, c0w⟩ : ∃ (r : Rl) (s : List Sg.R), rs[q]? = some r ∧ l[q]? = some s ∧ w.ownsRow base 36 4 (.slice r.a r.n r.c) r.n (ev s) ∧ w.cell? ⟨ga, q, none⟩ = some (.slice r.a r.n r.c) := by
        obtain ⟨g', r, s, e1, e2, e3, e4, e5, e6, e7⟩ := HS.out.at hb1
        cases e1
        exact ⟨r, s, e5, e6, e7, e4⟩
      obtain ⟨r2, f2, y0w, hr2, hf2, ho2⟩ := HL5.out.at hb1
      rw [Sg.flgs_get hls] at hf2
      obtain rfl := Option.some.inj hf2
      have hsk := HG.out.seg s (List.mem_of_getElem? hls)
      have hs25 := Sg.sok_short hsk
      have HCL : Hid (Sg.cleanL bl l q = (Sg.liveR bl s (l.drop (q + 1)).flatten).foldl Sg.putS (l.take q ++ l.drop (q + 1))) := Lib.hid (by
        unfold Sg.cleanL
        have : l.getD q [] = s := by simp [List.getD, hls]
        rw [this])
      have hrn : r.n ≤ 25 := by rw [← own_len4 ho]; exact hs25
      have HSL := Lib.hid (own_len4 ho)
      have HO := Lib.hid ho; have HO2 := Lib.hid ho2; have HSK := Lib.hid hsk
      have hr2n : r2.n = r.n := by
        have h1 := ho2.1
        rw [bv_length, Sg.flg_length, own_len4 ho] at h1
        omega
      have HBU1 := Lib.hid (HB5.out.trans (HU1.out.mono HB5.out.size))
      have HBU2 := Lib.hid (HBU1.out.trans (HB7.out.mono HBU1.out.size))
      have c0 : U2.cell? ⟨ga, q, none⟩ = some (.slice r.a r.n r.c) := (HBU2.out.cell hgl).trans c0w
      have HYW : Hid (U1.cell? ⟨g, q, none⟩ = some (.slice r2.a r2.n r2.c)) := Lib.hid ((HU1.out.cell (World.block_lt_of_cell? v5 _ y0w)).trans y0w)
      have HO3 := Lib.hid (own_keep HO2.out HU1.out)
      have HGC := Lib.hid (Sg.good_cut HG.out q)
      generalize (l.drop (q + 1)).flatten = tl at *
      generalize l.take q ++ l.drop (q + 1) = l2 at *
      obtain ⟨ra, rn, rc⟩ := r
      obtain ⟨ua, un, uc⟩ := r2
      dsimp only at c0 hrn HSL HO HO2 HO3 hr2n HYW
      obtain rfl : un = rn := hr2n
      have hrc := (own_cap ho).1
      have hqi : (q : Int) < (n : Int) := by omega
      clear hr hls ho hr2 ho2 hsk hs25 c0w y0w hf2 rw0 HO2 HL5 hA2
      go_wp2_with fail
      clear c0
      go_loopw [10, 47] (fun v x wr => ∃ (j : Nat) (b8 : Option Addr) (m8 d8 : Nat) (z8 : List Rl), j ≤ un ∧ x = .int .i64 j ∧ v = .slice b8 m8 d8 ∧ Hid (Below U1.heap.size U1 wr) ∧ Hid (SgW wr U1.heap.size b8 m8 d8 z8 ((Sg.liveR bl (s.take j) (s.drop j ++ tl)).foldl Sg.putS l2))) (fun _ x _ => un - (intOf x).toNat)
      case atStart => exact ⟨0, _, _, _, _, Nat.zero_le _, rfl, rfl, HB7, HSG7⟩
      case round =>
        obtain ⟨j, b8, m8, d8, z8, hj, rfl, rfl, HB8, HS8⟩ := hrel
        by_cases hjl : j < un
        · have hjs : j < s.length := by rw [HSL.out]; exact hjl
          have HB9 := Lib.hid (HBU1.out.trans (HB8.out.mono HBU1.out.size))
          obtain ⟨g2, rfl, hg2, d0, d1, d2, d3⟩ := ev_at (own_keep HO.out HB9.out) hjs
          have y0 : wr.cell? ⟨g, q, none⟩ = some (.slice ua un uc) := (HB8.out.cell (World.block_lt_of_cell? U1 _ HYW.out)).trans HYW.out
          obtain ⟨gv, cap, hv, -, -⟩ := HO3.out.form (by omega)
          cases hv
          have HFJ := Lib.hid (Sg.flg_get (b := bl) (tl := tl) (List.getElem?_eq_getElem hjs))
          have HST := Lib.hid (Sg.live_step (b := bl) (tl := tl) (List.getElem?_eq_getElem hjs))
          have u0 : wr.cell? ⟨gv, j, none⟩ = some (.bool (Sg.okB bl s[j] && !Sg.seenB bl (s.drop (j + 1) ++ tl) s[j].id)) := by
            rw [World.ownsRow.cellAt (own_keep HO3.out HB8.out) j (by omega)]
            unfold bv
            rw [List.getElem?_map, HFJ.out]
            rfl
          have ht64 := (HSK.out.one s[j] (List.getElem_mem hjs)).2
          have HGF : Hid (Sg.Good ((Sg.liveR bl (s.take j) (s.drop j ++ tl)).foldl Sg.putS l2)) := Lib.hid (Sg.foldS_good (fun x hx => Sg.ok_one HSK.out (List.mem_of_mem_take (Sg.live_mem hx).1)) HGC.out)
          have HE : Hid ((Sg.liveR bl (s.take (j + 1)) (s.drop (j + 1) ++ tl)).foldl Sg.putS l2 = if (Sg.okB bl s[j] && !Sg.seenB bl (s.drop (j + 1) ++ tl) s[j].id) = true then (Sg.putL ((Sg.liveR bl (s.take j) (s.drop j ++ tl)).foldl Sg.putS l2) s[j]).getD [] else (Sg.liveR bl (s.take j) (s.drop j ++ tl)).foldl Sg.putS l2) := Lib.hid (by
            rw [HST.out, List.foldl_append]
            split <;> rfl)
          generalize (Sg.okB bl s[j] && !Sg.seenB bl (s.drop (j + 1) ++ tl) s[j].id) = fl at *
          generalize (Sg.liveR bl (s.take j) (s.drop j ++ tl)).foldl Sg.putS l2 = l3 at *
          generalize s[j] = r at *
          obtain ⟨⟨f1, f2, f3⟩, f4⟩ := r
          dsimp only at d0 d1 d2 d3 ht64
          have hb := (Below.refl wr.heap.size wr).alloc (Nat.le_refl _) (.cells #[.bool f1, .int .i64 f2, .int .i64 f3, .string f4] 36)
          have HBA := Lib.hid (HB8.out.trans (hb.mono HB8.out.size))
          have HSA := Lib.hid (HS8.out.keep hb)
          have HZA := Lib.hid (Nat.le_trans HB8.out.size hb.size)
          have HXA := Lib.hid (bxs_new wr 36 #[.bool f1, .int .i64 f2, .int .i64 f3, .string f4] [.bool f1, .int .i64 f2, .int .i64 f3, .string f4] rfl)
          have hgu : gv < wr.heap.size := World.block_lt_of_cell? wr _ u0
          have hgg : g < wr.heap.size := World.block_lt_of_cell? wr _ y0
          clear hg2 hb
          cases fl with
          | false =>
            go_wp2_with fail
            go_roundw
            case rel => exact ⟨j + 1, _, _, _, _, hjl, by go_num, rfl, HBA, Lib.hid (by rw [HE.out]; exact HSA.out)⟩
            case measure => simp [intOf]; omega
          | true =>
            have K9 := put_E2 b8 m8 d8 U1.heap.size z8 l3 ⟨⟨f1, f2, f3⟩, f4⟩ (wr.alloc (.cells #[.bool f1, .int .i64 f2, .int .i64 f3, .string f4] 36)) HSA.out HZA.out HGF.out ht64
            have x0 := HXA.out.c 0 _ rfl; have x1 := HXA.out.c 1 _ rfl; have x2 := HXA.out.c 2 _ rfl; have x3 := HXA.out.c 3 _ rfl
            have HE2 : Hid ((Sg.liveR bl (s.take (j + 1)) (s.drop (j + 1) ++ tl)).foldl Sg.putS l2 = (Sg.putL l3 ⟨⟨f1, f2, f3⟩, f4⟩).getD []) := Lib.hid (by rw [HE.out]; rfl)
            generalize Sg.putL l3 ⟨⟨f1, f2, f3⟩, f4⟩ = PT at *
            generalize PT.isSome = ps at K9
            go_wp2_with fail
            with_reducible refine K9.mono ?_
            rintro e w2 ⟨b9, m9, d9, z9, rfl, hs9, hb9⟩
            have HB10 := Lib.hid (HBA.out.trans hb9)
            have HS10 : Hid (SgW w2 U1.heap.size b9 m9 d9 z9 ((Sg.liveR bl (s.take (j + 1)) (s.drop (j + 1) ++ tl)).foldl Sg.putS l2)) := Lib.hid (by rw [HE2.out]; exact hs9)
            clear K9 hb9 hs9 x0 x1 x2 x3 d0 d1 d2 d3 y0 u0
            go_wp2_with fail
            go_roundw
            case rel => exact ⟨j + 1, _, _, _, _, hjl, by go_num, rfl, HB10, HS10⟩
            case measure => simp [intOf]; omega
        · obtain rfl : j = un := by omega
          have HLE : Hid ((Sg.liveR bl (s.take j) (s.drop j ++ tl)).foldl Sg.putS l2 = Sg.cleanL bl l q) := Lib.hid (by
            rw [List.take_of_length_le (by rw [HSL.out]; exact Nat.le_refl _), List.drop_eq_nil_of_le (by rw [HSL.out]; exact Nat.le_refl _), HCL.out]
            rfl)
          have HBE := Lib.hid (HBU1.out.trans (HB8.out.mono HBU1.out.size))
          have HSE : Hid (SgW wr w.heap.size b8 m8 d8 z8 (Sg.cleanL bl l q)) := Lib.hid (by have := HS8.out.low HBU1.out.size; rw [HLE.out] at this; exact this)
          go_wp2_with fail
          go_ret2
          rw [HRE.out, HQ.out]
          exact ⟨_, _, _, _, rfl, HSE.out, HBE.out⟩
  · have hb : ((E : Int) != 0) = true := bne_iff_ne.2 (by omega)
    have HRE : Hid (RR = ⟨[], E⟩) := Lib.hid (by rw [← HRR.out, if_pos hE0])
    go_wp2_with fail
    go_ret2
    rw [HRE.out]
    exact ⟨none, 0, 0, [], rfl, sgW0 _ _, HB1.out⟩

end Go.Proofs.Ytenkdpogdfcbgaa
