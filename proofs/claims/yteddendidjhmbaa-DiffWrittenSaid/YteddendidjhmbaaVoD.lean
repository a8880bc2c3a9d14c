/- The walks of vol.Blocks, vol.place, vol.Read on right states. -/
import Derived.Test.YteddendidjhmbaaVoC
namespace Go.Proofs.Yteddendidjhmbaa
open Go.RowKit

/-- What a call that answers ids and an error leaves. -/
def IdsTo (w : World) (R : List Bg.Id × Nat) (e : Ending) (w' : World) : Prop :=
  ∃ a n c, e = .returned (.tuple #[.slice a n c, .int .i64 R.2]) ∧ w'.ownsRow w.heap.size 26 3 (.slice a n c) n (dv R.1) ∧ R.1.length = n ∧ Below w.heap.size w w'

theorem blocks_none {s : Vo.St} {name : ByteArray} (h : Vo.find s.vols name = none) : Vo.blocksR s name = ([], 4) := by unfold Vo.blocksR; rw [h]
theorem blocks_some {s : Vo.St} {name : ByteArray} {i : Nat} (h : Vo.find s.vols name = some i) (hi : i < s.vols.length) : Vo.blocksR s name = (s.vols[i].ids, 0) := by
  unfold Vo.blocksR
  rw [h]
  simp only [List.getElem?_eq_getElem hi]

set_option maxRecDepth 100000 in
set_option maxHeartbeats 4000000 in
theorem Blocks_V (a b : Option Addr) (n c m d base : Nat) (rs : List Rw) (s : Vo.St) (name : ByteArray) (w : World) (hS : StW w base a n c b m d rs s) (hR : Vo.Right s) :
    Calls Try.prog 41 #[.agg #[.slice a n c, .slice b m d], .string name] w (IdsTo w (Vo.blocksR s name)) := by
  have hm : m ≤ 6 := by rw [← hS.vlen]; exact hR.len
  have hB : Below w.heap.size w (w.alloc (.cells #[.slice a n c, .slice b m d] 52)) := (Below.refl _ w).alloc (Nat.le_refl _) _
  have hX := bxs_new w 52 #[.slice a n c, .slice b m d] [.slice a n c, .slice b m d] rfl
  have C1 := Check_V a b n c m d base rs s _ (hS.keep hB) hR
  have F1 : ∀ W, Below w.heap.size w W → Calls Try.prog 73 #[.agg #[.slice a n c, .slice b m d], .string name] W fun e w' => e = .returned (.int .i64 (Vo.findI s.vols name)) ∧ Below W.heap.size W w' := fun W hb => find_V a b n c m d base rs s name W (hS.keep hb) (by omega)
  have HS := Lib.hid hS; have HB := Lib.hid hB; have HX := Lib.hid hX; have HR := Lib.hid hR
  have c0 := hX.c 0 _ rfl; have c1 := hX.c 1 _ rfl
  clear hS hB hX hR
  cases hf : Vo.find s.vols name with
  | none =>
    rw [findI_none hf] at F1
    rw [blocks_none hf]
    clear hf
    go_enter Try.func41, Try.ntmps41
    go_wp2_with fail
    with_reducible refine C1.mono ?_
    rintro e w1 ⟨rfl, hb1⟩
    have HB1 := Lib.hid (HB.out.trans (hb1.mono HB.out.size))
    have HX1 := Lib.hid (HX.out.on hb1)
    clear c0 c1 hb1 C1
    have c0 := HX1.out.c 0 _ rfl; have c1 := HX1.out.c 1 _ rfl
    go_wp2_with fail
    with_reducible refine (F1 _ HB1.out).mono ?_
    rintro e w2 ⟨rfl, hb2⟩
    have HB2 := Lib.hid (HB1.out.trans (hb2.mono HB1.out.size))
    clear c0 c1 hb2 F1
    go_wp2_with fail
    go_ret2
    exact ⟨none, 0, 0, rfl, World.ownsRow_nil _ _ _ _, rfl, HB2.out⟩
  | some i =>
    obtain ⟨hfi, hi⟩ := findI_some hf
    rw [hfi] at F1
    rw [blocks_some hf hi]
    have hir : i < rs.length := by rw [HS.out.rlen, ← HS.out.vlen]; exact hi
    have him : i < m := by rw [← HS.out.vlen]; exact hi
    obtain ⟨e1, e2, e3⟩ := HS.out.vol i rs[i] s.vols[i] (List.getElem?_eq_getElem hir) (List.getElem?_eq_getElem hi)
    have hn1 : rs[i].n ≤ 32 := by rw [← e3]; exact (HR.out.vol s.vols[i] (List.getElem_mem hi)).len
    have HCD : Hid (∀ V, Below w.heap.size w V → Calls Try.prog 54 #[.slice rs[i].a rs[i].n rs[i].c] V fun e w' => ∃ v, e = .returned v ∧ w'.ownsRow V.heap.size 26 3 v rs[i].n (dv s.vols[i].ids) ∧ Below V.heap.size V w') := Lib.hid fun V hb => Clone_D rs[i].a rs[i].n rs[i].c base s.vols[i].ids V (own_keep e2 hb) (by omega)
    have HE := Lib.hid e3
    clear e1 e2 e3 hf hfi
    go_enter Try.func41, Try.ntmps41
    go_wp2_with fail
    with_reducible refine C1.mono ?_
    rintro e w1 ⟨rfl, hb1⟩
    have HB1 := Lib.hid (HB.out.trans (hb1.mono HB.out.size))
    have HX1 := Lib.hid (HX.out.on hb1)
    clear c0 c1 hb1 C1
    have c0 := HX1.out.c 0 _ rfl; have c1 := HX1.out.c 1 _ rfl
    go_wp2_with fail
    with_reducible refine (F1 _ HB1.out).mono ?_
    rintro e w2 ⟨rfl, hb2⟩
    have HB2 := Lib.hid (HB1.out.trans (hb2.mono HB1.out.size))
    have HX2 := Lib.hid (HX1.out.on hb2)
    clear c0 c1 hb2 F1
    obtain ⟨g, rfl, hg, d0, d1⟩ := rv_at (own_keep HS.out.row HB2.out) hir
    have c1 := HX2.out.c 1 _ rfl
    have CD := HCD.out w2 HB2.out
    generalize rs[i].name = f1 at *
    generalize rs[i].a = f2 at *
    generalize rs[i].n = f3 at *
    generalize rs[i].c = f4 at *
    go_wp2_with fail
    with_reducible refine CD.mono ?_
    rintro e w3 ⟨v, rfl, ho3, hb3⟩
    obtain ⟨a3, c3, rfl⟩ := own_shape ho3
    have HB3 := Lib.hid (HB2.out.trans (hb3.mono HB2.out.size))
    have HO3 := Lib.hid (own_low ho3 HB2.out.size)
    clear c1 d0 d1 hb3 ho3 CD
    go_wp2_with fail
    go_ret2
    exact ⟨a3, f3, c3, rfl, HO3.out, HE.out, HB3.out⟩

theorem placeE_none {s : Vo.St} {name : ByteArray} {k : Int} (h : Vo.find s.vols name = none) : Vo.placeE s name k = 4 := by unfold Vo.placeE; rw [h]
theorem placeE_some {s : Vo.St} {name : ByteArray} {k : Int} {i : Nat} (h : Vo.find s.vols name = some i) (hi : i < s.vols.length) : Vo.placeE s name k = if k < 0 ∨ (s.vols[i].ids.length : Int) ≤ k then 1 else 0 := by
  unfold Vo.placeE
  rw [h]
  simp only [List.getElem?_eq_getElem hi]
theorem fd_some {s : Vo.St} {name : ByteArray} {i : Nat} (h : Vo.find s.vols name = some i) : Vo.fd s name = i := by unfold Vo.fd; rw [h]; rfl

/-- What place answers first. -/
def Vo.placeI (s : Vo.St) (name : ByteArray) (k : Int) : Nat := if Vo.placeE s name k = 0 then Vo.fd s name else 0

set_option maxRecDepth 100000 in
set_option maxHeartbeats 4000000 in
theorem place_V (a b : Option Addr) (n c m d base : Nat) (rs : List Rw) (s : Vo.St) (name : ByteArray) (k : Int) (w : World) (hS : StW w base a n c b m d rs s) (hR : Vo.Right s) :
    Calls Try.prog 71 #[.agg #[.slice a n c, .slice b m d], .string name, .int .i64 k] w fun e w' => e = .returned (.tuple #[.int .i64 (Vo.placeI s name k), .int .i64 (Vo.placeE s name k)]) ∧ Below w.heap.size w w' := by
  have hm : m ≤ 6 := by rw [← hS.vlen]; exact hR.len
  have hB : Below w.heap.size w (w.alloc (.cells #[.slice a n c, .slice b m d] 52)) := (Below.refl _ w).alloc (Nat.le_refl _) _
  have hX := bxs_new w 52 #[.slice a n c, .slice b m d] [.slice a n c, .slice b m d] rfl
  have C1 := Check_V a b n c m d base rs s _ (hS.keep hB) hR
  have F1 : ∀ W, Below w.heap.size w W → Calls Try.prog 73 #[.agg #[.slice a n c, .slice b m d], .string name] W fun e w' => e = .returned (.int .i64 (Vo.findI s.vols name)) ∧ Below W.heap.size W w' := fun W hb => find_V a b n c m d base rs s name W (hS.keep hb) (by omega)
  have HS := Lib.hid hS; have HB := Lib.hid hB; have HX := Lib.hid hX; have HR := Lib.hid hR
  have c0 := hX.c 0 _ rfl; have c1 := hX.c 1 _ rfl
  clear hS hB hX hR
  unfold Vo.placeI
  cases hf : Vo.find s.vols name with
  | none =>
    rw [findI_none hf] at F1
    rw [placeE_none hf]
    clear hf
    go_enter Try.func71, Try.ntmps71
    go_wp2_with fail
    with_reducible refine C1.mono ?_
    rintro e w1 ⟨rfl, hb1⟩
    have HB1 := Lib.hid (HB.out.trans (hb1.mono HB.out.size))
    have HX1 := Lib.hid (HX.out.on hb1)
    clear c0 c1 hb1 C1
    have c0 := HX1.out.c 0 _ rfl; have c1 := HX1.out.c 1 _ rfl
    go_wp2_with fail
    with_reducible refine (F1 _ HB1.out).mono ?_
    rintro e w2 ⟨rfl, hb2⟩
    have HB2 := Lib.hid (HB1.out.trans (hb2.mono HB1.out.size))
    clear c0 c1 hb2 F1
    go_wp2_with fail
    go_ret2
    exact ⟨rfl, HB2.out⟩
  | some i =>
    obtain ⟨hfi, hi⟩ := findI_some hf
    rw [hfi] at F1
    rw [placeE_some hf hi, fd_some hf]
    have hir : i < rs.length := by rw [HS.out.rlen, ← HS.out.vlen]; exact hi
    have him : i < m := by rw [← HS.out.vlen]; exact hi
    obtain ⟨e1, e2, e3⟩ := HS.out.vol i rs[i] s.vols[i] (List.getElem?_eq_getElem hir) (List.getElem?_eq_getElem hi)
    have hn1 : rs[i].n ≤ 32 := by rw [← e3]; exact (HR.out.vol s.vols[i] (List.getElem_mem hi)).len
    rw [e3]
    clear e1 e2 e3 hf hfi
    obtain ⟨E, hE⟩ : ∃ E, (if k < 0 ∨ (rs[i].n : Int) ≤ k then 1 else 0 : Nat) = E := ⟨_, rfl⟩
    rw [hE]
    have HE := Lib.hid hE
    clear hE
    go_enter Try.func71, Try.ntmps71
    go_wp2_with fail
    with_reducible refine C1.mono ?_
    rintro e w1 ⟨rfl, hb1⟩
    have HB1 := Lib.hid (HB.out.trans (hb1.mono HB.out.size))
    have HX1 := Lib.hid (HX.out.on hb1)
    clear c0 c1 hb1 C1
    have c0 := HX1.out.c 0 _ rfl; have c1 := HX1.out.c 1 _ rfl
    go_wp2_with fail
    with_reducible refine (F1 _ HB1.out).mono ?_
    rintro e w2 ⟨rfl, hb2⟩
    have HB2 := Lib.hid (HB1.out.trans (hb2.mono HB1.out.size))
    have HX2 := Lib.hid (HX1.out.on hb2)
    clear c0 c1 hb2 F1
    obtain ⟨g, rfl, hg, d0, d1⟩ := rv_at (own_keep HS.out.row HB2.out) hir
    have c1 := HX2.out.c 1 _ rfl
    generalize rs[i].name = f1 at *
    generalize rs[i].a = f2 at *
    generalize rs[i].n = f3 at *
    generalize rs[i].c = f4 at *
    by_cases hk0 : k < 0
    · obtain rfl : E = 1 := by rw [← HE.out, if_pos (Or.inl hk0)]
      clear HE
      go_wp2_with fail
      go_ret2
      exact ⟨rfl, HB2.out⟩
    · have hk1 : 0 ≤ k := by omega
      by_cases hk2 : (f3 : Int) ≤ k
      · obtain rfl : E = 1 := by rw [← HE.out, if_pos (Or.inr hk2)]
        clear HE hk0
        go_wp2_with fail
        go_ret2
        exact ⟨rfl, HB2.out⟩
      · obtain rfl : E = 0 := by rw [← HE.out, if_neg (by omega)]
        have hk3 : k < (f3 : Int) := by omega
        clear HE hk0 hk2
        go_wp2_with fail
        go_ret2
        exact ⟨rfl, HB2.out⟩

/-- What place finds. -/
theorem place_ok {s : Vo.St} {name : ByteArray} {k : Int} (h : Vo.placeE s name k = 0) : ∃ (i j : Nat) (hi : i < s.vols.length), Vo.find s.vols name = some i ∧ k = (j : Int) ∧ j < s.vols[i].ids.length ∧ Vo.fd s name = i ∧ Vo.placeI s name k = i := by
  cases hf : Vo.find s.vols name with
  | none => rw [placeE_none hf] at h; cases h
  | some i =>
    obtain ⟨hfi, hi⟩ := findI_some hf
    have h' := h
    rw [placeE_some hf hi] at h
    split at h
    · cases h
    · refine ⟨i, k.toNat, hi, rfl, by omega, by omega, fd_some hf, ?_⟩
      unfold Vo.placeI
      rw [if_pos h', fd_some hf]

theorem idAt_is {s : Vo.St} {i j : Nat} (hi : i < s.vols.length) (hj : j < s.vols[i].ids.length) : Vo.idAt s i j = s.vols[i].ids[j] := by
  unfold Vo.idAt
  rw [getD_in _ _ _ hi, getD_in _ _ _ hj]

theorem readR_bad {s : Vo.St} {name : ByteArray} {k : Int} (h : Vo.placeE s name k ≠ 0) : Vo.readR s name k = (Bg.noText, Vo.placeE s name k) := by unfold Vo.readR; rw [if_pos h]
theorem readR_ok {s : Vo.St} {name : ByteArray} {i j : Nat} (h : Vo.placeE s name (j : Int) = 0) (hf : Vo.fd s name = i) : Vo.readR s name (j : Int) = if (Vo.idAt s i j).is = true then Bg.getR Bg.Pr s.bag (Vo.idAt s i j) else (Bg.noText, 0) := by
  unfold Vo.readR
  rw [if_neg (fun h' => h' h), hf]
  rfl

set_option maxRecDepth 100000 in
set_option maxHeartbeats 4000000 in
theorem Read_V (a b : Option Addr) (n c m d base : Nat) (rs : List Rw) (s : Vo.St) (name : ByteArray) (k : Int) (w : World) (hS : StW w base a n c b m d rs s) (hR : Vo.Right s) :
    Calls Try.prog 36 #[.agg #[.slice a n c, .slice b m d], .string name, .int .i64 k] w fun e w' => e = .returned (.tuple #[.string (Vo.readR s name k).1, .int .i64 (Vo.readR s name k).2]) ∧ Below w.heap.size w w' := by
  have hB : Below w.heap.size w (w.alloc (.cells #[.slice a n c, .slice b m d] 52)) := (Below.refl _ w).alloc (Nat.le_refl _) _
  have hX := bxs_new w 52 #[.slice a n c, .slice b m d] [.slice a n c, .slice b m d] rfl
  have P1 := place_V a b n c m d base rs s name k _ (hS.keep hB) hR
  have HS := Lib.hid hS; have HB := Lib.hid hB; have HX := Lib.hid hX; have HR := Lib.hid hR
  have c0 := hX.c 0 _ rfl; have c1 := hX.c 1 _ rfl
  clear hS hB hX hR
  by_cases hp : Vo.placeE s name k = 0
  · obtain ⟨i, j, hi, hf, rfl, hj, hfd, hpi⟩ := place_ok hp
    rw [hpi, hp] at P1
    have hir : i < rs.length := by rw [HS.out.rlen, ← HS.out.vlen]; exact hi
    have him : i < m := by rw [← HS.out.vlen]; exact hi
    obtain ⟨e1, e2, e3⟩ := HS.out.vol i rs[i] s.vols[i] (List.getElem?_eq_getElem hir) (List.getElem?_eq_getElem hi)
    have hn1 : rs[i].n ≤ 32 := by rw [← e3]; exact (HR.out.vol s.vols[i] (List.getElem_mem hi)).len
    have hjn : j < rs[i].n := by rw [← e3]; exact hj
    rw [readR_ok hp hfd, idAt_is hi hj]
    have HE2 : Hid (∀ V, Below w.heap.size w V → V.ownsRow base 26 3 (.slice rs[i].a rs[i].n rs[i].c) rs[i].n (dv s.vols[i].ids)) := Lib.hid fun V hb => own_keep e2 hb
    have GT : ∀ (t : Bool) (x y : Int) V, Below w.heap.size w V → Calls Try.prog 24 #[.slice a n c, .agg #[.bool t, .int .i64 x, .int .i64 y]] V fun e w' => e = .returned (.tuple #[.string (Bg.getR Bg.Pr s.bag ⟨t, x, y⟩).1, .int .i64 (Bg.getR Bg.Pr s.bag ⟨t, x, y⟩).2]) ∧ Below V.heap.size V w' := fun t x y V hb =>
      Get_I a n c s.bag t x y V (own_isl0 (own_keep HS.out.bag hb) HS.out.len) (good_small HR.out.bag)
    clear e1 e2 e3 hf hfd hpi hp
    obtain ⟨q, hq⟩ : ∃ q, s.vols[i].ids[j] = q := ⟨_, rfl⟩
    rw [hq]
    have HQ := Lib.hid hq
    clear hq
    obtain ⟨i1, i2, i3⟩ := q
    dsimp only
    obtain ⟨R, hRR⟩ : ∃ R, (if i1 = true then Bg.getR Bg.Pr s.bag ⟨i1, i2, i3⟩ else (Bg.noText, 0)) = R := ⟨_, rfl⟩
    rw [hRR]
    obtain ⟨r1, r2⟩ := R
    have HRR := Lib.hid hRR
    clear hRR
    dsimp only
    have GR : Hid (i1 = true → ∀ V, Below w.heap.size w V → Calls Try.prog 24 #[.slice a n c, .agg #[.bool i1, .int .i64 i2, .int .i64 i3]] V fun e w' => e = .returned (.tuple #[.string r1, .int .i64 r2]) ∧ Below V.heap.size V w') := Lib.hid fun hi V hb => by
      have h1 := GT i1 i2 i3 V hb
      have h2 := HRR.out
      rw [if_pos hi] at h2
      rw [h2] at h1
      exact h1
    clear GT
    go_enter Try.func36, Try.ntmps36
    go_wp2_with fail
    with_reducible refine P1.mono ?_
    rintro e w1 ⟨rfl, hb1⟩
    have HB1 := Lib.hid (HB.out.trans (hb1.mono HB.out.size))
    have HX1 := Lib.hid (HX.out.on hb1)
    clear c0 c1 hb1 P1
    have c0 := HX1.out.c 0 _ rfl; have c1 := HX1.out.c 1 _ rfl
    have hlx := HX1.out.lt
    obtain ⟨g, rfl, hg, d0, d1⟩ := rv_at (own_keep HS.out.row HB1.out) hir
    have E2 := HE2.out w1 HB1.out
    generalize rs[i].name = f1 at *
    generalize rs[i].a = f2 at *
    generalize rs[i].n = f3 at *
    generalize rs[i].c = f4 at *
    obtain ⟨g2, rfl, hg2, -, q0, q1, q2⟩ := dv_at E2 hj
    have HBA := Lib.hid fun o => HB1.out.alloc HB1.out.size o
    rw [HQ.out] at q0 q1 q2
    clear E2 HE2
    dsimp only at q0 q1 q2
    cases i1 with
    | false =>
      have hr := HRR.out
      rw [if_neg (by decide)] at hr
      obtain ⟨rfl, rfl⟩ := Prod.mk.inj hr
      clear hr
      go_wp2_with fail
      go_ret2
      exact ⟨rfl, HBA.out _⟩
    | true =>
      have G1 := GR.out rfl
      clear HRR GR
      go_wp2_with fail
      with_reducible refine (G1 _ (HBA.out _)).mono ?_
      rintro e w3 ⟨rfl, hb3⟩
      have HB3 := Lib.hid ((HBA.out _).trans (hb3.mono (HBA.out _).size))
      clear hb3
      go_wp2_with fail
      go_ret2
      exact ⟨rfl, HB3.out⟩
  · rw [readR_bad hp]
    have hb : ((Vo.placeE s name k : Int) != 0) = true := bne_iff_ne.2 (by omega)
    generalize Vo.placeE s name k = E at *
    generalize Vo.placeI s name k = I at *
    clear hp
    go_enter Try.func36, Try.ntmps36
    go_wp2_with fail
    with_reducible refine P1.mono ?_
    rintro e w1 ⟨rfl, hb1⟩
    have HB1 := Lib.hid (HB.out.trans (hb1.mono HB.out.size))
    clear c0 c1 hb1 P1
    go_wp2_with fail
    go_ret2
    exact ⟨rfl, HB1.out⟩

end Go.Proofs.Yteddendidjhmbaa
