import Derived.Test.YtenkdpogdfcbgaaGreatVoC
/- The walks of vol.Blocks, vol.place, vol.Read on right states. -/
namespace Go.Proofs.YtenkdpogdfcbgaaGreat
open Go.RowKit

/-- What a call that answers ids and an error leaves. -/
def IdsTo (w : World) (R : List Bg.Id × Nat) (e : Ending) (w' : World) : Prop :=
  ∃ a n c, e = .returned (.tuple #[.slice a n c, .int .i64 R.2]) ∧ w'.ownsRow w.heap.size 81 3 (.slice a n c) n (dv R.1) ∧ R.1.length = n ∧ Below w.heap.size w w'

theorem blocks_none {s : Vo.St} {name : ByteArray} (h : Vo.find s.vols name = none) : Vo.blocksR s name = ([], 4) := by unfold Vo.blocksR; rw [h]
theorem blocks_some {s : Vo.St} {name : ByteArray} {i : Nat} (h : Vo.find s.vols name = some i) (hi : i < s.vols.length) : Vo.blocksR s name = (s.vols[i].ids, 0) := by
  unfold Vo.blocksR
  rw [h]
  simp only [List.getElem?_eq_getElem hi]

theorem placeE_none {s : Vo.St} {name : ByteArray} {k : Int} (h : Vo.find s.vols name = none) : Vo.placeE s name k = 4 := by unfold Vo.placeE; rw [h]
theorem placeE_some {s : Vo.St} {name : ByteArray} {k : Int} {i : Nat} (h : Vo.find s.vols name = some i) (hi : i < s.vols.length) : Vo.placeE s name k = if k < 0 ∨ (s.vols[i].ids.length : Int) ≤ k then 1 else 0 := by
  unfold Vo.placeE
  rw [h]
  simp only [List.getElem?_eq_getElem hi]
theorem fd_some {s : Vo.St} {name : ByteArray} {i : Nat} (h : Vo.find s.vols name = some i) : Vo.fd s name = i := by unfold Vo.fd; rw [h]; rfl

/-- What place answers first. -/
def Vo.placeI (s : Vo.St) (name : ByteArray) (k : Int) : Nat := if Vo.placeE s name k = 0 then Vo.fd s name else 0

set_option maxRecDepth 100000 in
set_option maxHeartbeats 4000000 in
theorem place_V (a b : Option Addr) (n c m d base : Nat) (rs : List Rw) (s : Vo.St) (name : ByteArray) (k : Int) (w : World) (hS : StW w base a n c b m d rs s) (hR : Vo.Right s) :
    Calls Tryz.prog 70 #[.agg #[.slice a n c, .slice b m d], .string name, .int .i64 k] w fun e w' => e = .returned (.tuple #[.int .i64 (Vo.placeI s name k), .int .i64 (Vo.placeE s name k)]) ∧ Below w.heap.size w w' := by
  have hm : m ≤ 6 := by rw [← hS.vlen]; exact hR.len
  have hB : Below w.heap.size w (w.alloc (.cells #[.slice a n c, .slice b m d] 33)) := (Below.refl _ w).alloc (Nat.le_refl _) _
  have hX := bxs_new w 33 #[.slice a n c, .slice b m d] [.slice a n c, .slice b m d] rfl
  have C1 := Check_V a b n c m d base rs s _ (hS.keep hB) hR
  have F1 : ∀ W, Below w.heap.size w W → Calls Tryz.prog 84 #[.agg #[.slice a n c, .slice b m d], .string name] W fun e w' => e = .returned (.int .i64 (Vo.findI s.vols name)) ∧ Below W.heap.size W w' := fun W hb => find_V a b n c m d base rs s name W (hS.keep hb) (by omega)
  have HS := Lib.hid hS; have HB := Lib.hid hB; have HX := Lib.hid hX; have HR := Lib.hid hR
  have c0 := hX.c 0 _ rfl; have c1 := hX.c 1 _ rfl
  clear hS hB hX hR
  unfold Vo.placeI
  cases hf : Vo.find s.vols name with
  | none =>
    rw [findI_none hf] at F1
    rw [placeE_none hf]
    clear hf
    go_enter Tryz.func70, Tryz.ntmps70
    go_wp2_with fail
    with_reducible refine C1.mono ?_
    rintro e w1 ⟨rfl, hb1⟩
    have HB1 := Lib.hid (HB.out.trans (hb1.mono HB.out.size))
    have HX1 := Lib.hid (HX.out.on hb1)
    clear c0 c1 hb1 C1
    have c0 := HX1.out.c 0 _ rfl; have c1 := HX1.out.c 1 _ rfl
    go_wp2_with fail
    with_reducible refine (F1 _ HB1.out).mono ?_
    rintro e w2 ⟨rfl, hb2⟩
    have HB2 := Lib.hid (HB1.out.trans (hb2.mono HB1.out.size))
    clear c0 c1 hb2 F1
    go_wp2_with fail
    go_ret2
    exact ⟨rfl, HB2.out⟩
  | some i =>
    obtain ⟨hfi, hi⟩ := findI_some hf
    rw [hfi] at F1
    rw [placeE_some hf hi, fd_some hf]
    have hir : i < rs.length := by rw [HS.out.rlen, ← HS.out.vlen]; exact hi
    have him : i < m := by rw [← HS.out.vlen]; exact hi
    obtain ⟨e1, e2, e3⟩ := HS.out.vol i rs[i] s.vols[i] (List.getElem?_eq_getElem hir) (List.getElem?_eq_getElem hi)
    have hn1 : rs[i].n ≤ 32 := by rw [← e3]; exact (HR.out.vol s.vols[i] (List.getElem_mem hi)).len
    rw [e3]
    clear e1 e2 e3 hf hfi
    obtain ⟨E, hE⟩ : ∃ E, (if k < 0 ∨ (rs[i].n : Int) ≤ k then 1 else 0 : Nat) = E := ⟨_, rfl⟩
    rw [hE]
    have HE := Lib.hid hE
    clear hE
    go_enter Tryz.func70, Tryz.ntmps70
    go_wp2_with fail
    with_reducible refine C1.mono ?_
    rintro e w1 ⟨rfl, hb1⟩
    have HB1 := Lib.hid (HB.out.trans (hb1.mono HB.out.size))
    have HX1 := Lib.hid (HX.out.on hb1)
    clear c0 c1 hb1 C1
    have c0 := HX1.out.c 0 _ rfl; have c1 := HX1.out.c 1 _ rfl
    go_wp2_with fail
    with_reducible refine (F1 _ HB1.out).mono ?_
    rintro e w2 ⟨rfl, hb2⟩
    have HB2 := Lib.hid (HB1.out.trans (hb2.mono HB1.out.size))
    have HX2 := Lib.hid (HX1.out.on hb2)
    clear c0 c1 hb2 F1
    obtain ⟨g, rfl, hg, d0, d1⟩ := rv_at (own_keep HS.out.row HB2.out) hir
    have c1 := HX2.out.c 1 _ rfl
    generalize rs[i].name = f1 at *
    generalize rs[i].a = f2 at *
    generalize rs[i].n = f3 at *
    generalize rs[i].c = f4 at *
    by_cases hk0 : k < 0
    · obtain rfl : E = 1 := by rw [← HE.out, if_pos (Or.inl hk0)]
      clear HE
      go_wp2_with fail
      go_ret2
      exact ⟨rfl, HB2.out⟩
    · have hk1 : 0 ≤ k := by omega
      by_cases hk2 : (f3 : Int) ≤ k
      · obtain rfl : E = 1 := by rw [← HE.out, if_pos (Or.inr hk2)]
        clear HE hk0
        go_wp2_with fail
        go_ret2
        exact ⟨rfl, HB2.out⟩
      · obtain rfl : E = 0 := by rw [← HE.out, if_neg (by omega)]
        have hk3 : k < (f3 : Int) := by omega
        clear HE hk0 hk2
        go_wp2_with fail
        go_ret2
        exact ⟨rfl, HB2.out⟩

/-- What place finds. -/
theorem place_ok {s : Vo.St} {name : ByteArray} {k : Int} (h : Vo.placeE s name k = 0) : ∃ (i j : Nat) (hi : i < s.vols.length), Vo.find s.vols name = some i ∧ k = (j : Int) ∧ j < s.vols[i].ids.length ∧ Vo.fd s name = i ∧ Vo.placeI s name k = i := by
  cases hf : Vo.find s.vols name with
  | none => rw [placeE_none hf] at h; cases h
  | some i =>
    obtain ⟨hfi, hi⟩ := findI_some hf
    have h' := h
    rw [placeE_some hf hi] at h
    split at h
    · cases h
    · refine ⟨i, k.toNat, hi, rfl, by omega, by omega, fd_some hf, ?_⟩
      unfold Vo.placeI
      rw [if_pos h', fd_some hf]

theorem idAt_is {s : Vo.St} {i j : Nat} (hi : i < s.vols.length) (hj : j < s.vols[i].ids.length) : Vo.idAt s i j = s.vols[i].ids[j] := by
  unfold Vo.idAt
  rw [getD_in _ _ _ hi, getD_in _ _ _ hj]

theorem readR_bad {s : Vo.St} {name : ByteArray} {k : Int} (h : Vo.placeE s name k ≠ 0) : Vo.readR s name k = (Bg.noText, Vo.placeE s name k) := by unfold Vo.readR; rw [if_pos h]
theorem readR_ok {s : Vo.St} {name : ByteArray} {i j : Nat} (h : Vo.placeE s name (j : Int) = 0) (hf : Vo.fd s name = i) : Vo.readR s name (j : Int) = if (Vo.idAt s i j).is = true then Bg.getR Bg.Pr s.bag (Vo.idAt s i j) else (Bg.noText, 0) := by
  unfold Vo.readR
  rw [if_neg (fun h' => h' h), hf]
  rfl

set_option maxRecDepth 100000 in
set_option maxHeartbeats 4000000 in
theorem Read_V (a b : Option Addr) (n c m d base : Nat) (rs : List Rw) (s : Vo.St) (name : ByteArray) (k : Int) (w : World) (hS : StW w base a n c b m d rs s) (hR : Vo.Right s) :
    Calls Tryz.prog 44 #[.agg #[.slice a n c, .slice b m d], .string name, .int .i64 k] w fun e w' => e = .returned (.tuple #[.string (Vo.readR s name k).1, .int .i64 (Vo.readR s name k).2]) ∧ Below w.heap.size w w' := by
  have hB : Below w.heap.size w (w.alloc (.cells #[.slice a n c, .slice b m d] 33)) := (Below.refl _ w).alloc (Nat.le_refl _) _
  have hX := bxs_new w 33 #[.slice a n c, .slice b m d] [.slice a n c, .slice b m d] rfl
  have P1 := place_V a b n c m d base rs s name k _ (hS.keep hB) hR
  have HS := Lib.hid hS; have HB := Lib.hid hB; have HX := Lib.hid hX; have HR := Lib.hid hR
  have c0 := hX.c 0 _ rfl; have c1 := hX.c 1 _ rfl
  clear hS hB hX hR
  by_cases hp : Vo.placeE s name k = 0
  · obtain ⟨i, j, hi, hf, rfl, hj, hfd, hpi⟩ := place_ok hp
    rw [hpi, hp] at P1
    have hir : i < rs.length := by rw [HS.out.rlen, ← HS.out.vlen]; exact hi
    have him : i < m := by rw [← HS.out.vlen]; exact hi
    obtain ⟨e1, e2, e3⟩ := HS.out.vol i rs[i] s.vols[i] (List.getElem?_eq_getElem hir) (List.getElem?_eq_getElem hi)
    have hn1 : rs[i].n ≤ 32 := by rw [← e3]; exact (HR.out.vol s.vols[i] (List.getElem_mem hi)).len
    have hjn : j < rs[i].n := by rw [← e3]; exact hj
    rw [readR_ok hp hfd, idAt_is hi hj]
    have HE2 : Hid (∀ V, Below w.heap.size w V → V.ownsRow base 81 3 (.slice rs[i].a rs[i].n rs[i].c) rs[i].n (dv s.vols[i].ids)) := Lib.hid fun V hb => own_keep e2 hb
    have GT : ∀ (t : Bool) (x y : Int) V, Below w.heap.size w V → Calls Tryz.prog 71 #[.slice a n c, .agg #[.bool t, .int .i64 x, .int .i64 y]] V fun e w' => e = .returned (.tuple #[.string (Bg.getR Bg.Pr s.bag ⟨t, x, y⟩).1, .int .i64 (Bg.getR Bg.Pr s.bag ⟨t, x, y⟩).2]) ∧ Below V.heap.size V w' := fun t x y V hb =>
      Get_I a n c s.bag t x y V (own_isl0 (own_keep HS.out.bag hb) HS.out.len) (good_small HR.out.bag)
    clear e1 e2 e3 hf hfd hpi hp
    obtain ⟨q, hq⟩ : ∃ q, s.vols[i].ids[j] = q := ⟨_, rfl⟩
    rw [hq]
    have HQ := Lib.hid hq
    clear hq
    obtain ⟨i1, i2, i3⟩ := q
    dsimp only
    obtain ⟨R, hRR⟩ : ∃ R, (if i1 = true then Bg.getR Bg.Pr s.bag ⟨i1, i2, i3⟩ else (Bg.noText, 0)) = R := ⟨_, rfl⟩
    rw [hRR]
    obtain ⟨r1, r2⟩ := R
    have HRR := Lib.hid hRR
    clear hRR
    dsimp only
    have GR : Hid (i1 = true → ∀ V, Below w.heap.size w V → Calls Tryz.prog 71 #[.slice a n c, .agg #[.bool i1, .int .i64 i2, .int .i64 i3]] V fun e w' => e = .returned (.tuple #[.string r1, .int .i64 r2]) ∧ Below V.heap.size V w') := Lib.hid fun hi V hb => by
      have h1 := GT i1 i2 i3 V hb
      have h2 := HRR.out
      rw [if_pos hi] at h2
      rw [h2] at h1
      exact h1
    clear GT
    go_enter Tryz.func44, Tryz.ntmps44
    go_wp2_with fail
    with_reducible refine P1.mono ?_
    rintro e w1 ⟨rfl, hb1⟩
    have HB1 := Lib.hid (HB.out.trans (hb1.mono HB.out.size))
    have HX1 := Lib.hid (HX.out.on hb1)
    clear c0 c1 hb1 P1
    have c0 := HX1.out.c 0 _ rfl; have c1 := HX1.out.c 1 _ rfl
    have hlx := HX1.out.lt
    obtain ⟨g, rfl, hg, d0, d1⟩ := rv_at (own_keep HS.out.row HB1.out) hir
    have E2 := HE2.out w1 HB1.out
    generalize rs[i].name = f1 at *
    generalize rs[i].a = f2 at *
    generalize rs[i].n = f3 at *
    generalize rs[i].c = f4 at *
    obtain ⟨g2, rfl, hg2, -, q0, q1, q2⟩ := dv_at E2 hj
    have HBA := Lib.hid fun o => HB1.out.alloc HB1.out.size o
    rw [HQ.out] at q0 q1 q2
    clear E2 HE2
    dsimp only at q0 q1 q2
    cases i1 with
    | false =>
      have hr := HRR.out
      rw [if_neg (by decide)] at hr
      obtain ⟨rfl, rfl⟩ := Prod.mk.inj hr
      clear hr
      go_wp2_with fail
      go_ret2
      exact ⟨rfl, HBA.out _⟩
    | true =>
      have G1 := GR.out rfl
      clear HRR GR
      go_wp2_with fail
      with_reducible refine (G1 _ (HBA.out _)).mono ?_
      rintro e w3 ⟨rfl, hb3⟩
      have HB3 := Lib.hid ((HBA.out _).trans (hb3.mono (HBA.out _).size))
      clear hb3
      go_wp2_with fail
      go_ret2
      exact ⟨rfl, HB3.out⟩
  · rw [readR_bad hp]
    have hb : ((Vo.placeE s name k : Int) != 0) = true := bne_iff_ne.2 (by omega)
    generalize Vo.placeE s name k = E at *
    generalize Vo.placeI s name k = I at *
    clear hp
    go_enter Tryz.func44, Tryz.ntmps44
    go_wp2_with fail
    with_reducible refine P1.mono ?_
    rintro e w1 ⟨rfl, hb1⟩
    have HB1 := Lib.hid (HB.out.trans (hb1.mono HB.out.size))
    clear c0 c1 hb1 P1
    go_wp2_with fail
    go_ret2
    exact ⟨rfl, HB1.out⟩

end Go.Proofs.YtenkdpogdfcbgaaGreat

/- States that lie there, continued: a volume put in, taken out; another bag; another id. -/
namespace Go.Proofs.YtenkdpogdfcbgaaGreat
open Go.RowKit

theorem apart_symm {u v : Value} (h : ∀ k, u.ownBlock = some k → v.ownBlock ≠ some k) : ∀ k, v.ownBlock = some k → u.ownBlock ≠ some k := fun k h1 h2 => h k h2 h1

theorem Apart.perm {l l' : List Value} (h : Apart l) (hp : l.Perm l') : Apart l' := (hp.pairwise_iff (fun h => apart_symm h)).1 h

section
variable {w w' : World} {base n c m d : Nat} {a b : Option Addr} {rs : List Rw} {s : Vo.St}

/-- A volume is put in at a place. -/
theorem StW.ins {N k cap n5 c5 : Nat} {a5 b' : Option Addr} {nm : ByteArray} {ids : List Bg.Id} {W X w6 : World} (h : StW W base a n c b m d rs s) (_hN : N = W.heap.size) (hX : Below W.heap.size W X) (hR : X.ownsRow base 81 3 (.slice a5 n5 c5) n5 (dv ids)) (hl : ids.length = n5) (hk : k ≤ m)
    (h5 : ∀ v ∈ sls a n c b m d rs, ∀ j, v.ownBlock = some j → (Value.slice a5 n5 c5).ownBlock ≠ some j) (hG : X.grownBy w6 (Value.slice b m d).ownBlock) (hO : w6.ownsRow base 78 2 (.slice b' (m + 1) cap) (m + 1) (rv (rs.take k ++ ⟨nm, a5, n5, c5⟩ :: rs.drop k)))
    (hat : ∀ j, (Value.slice b' (m + 1) cap).ownBlock = some j → (Value.slice b m d).ownBlock = some j ∨ X.heap.size ≤ j) : StW w6 base a n c b' (m + 1) cap (rs.take k ++ ⟨nm, a5, n5, c5⟩ :: rs.drop k) ⟨s.bag, s.vols.take k ++ ⟨nm, ids⟩ :: s.vols.drop k⟩ := by
  have hlt := h.lt
  have hap := h.apart'
  have hsz := hX.size
  unfold sls at hlt hap h5
  rw [apart_cons, apart_cons] at hap
  obtain ⟨p1, p2, p3⟩ := hap
  have hm1 : ∀ {v}, v ∈ (Value.slice a n c) :: rs.map Rw.sl → v ∈ Value.slice a n c :: Value.slice b m d :: rs.map Rw.sl := fun {v} hv => by
    rcases List.mem_cons.1 hv with rfl | hv
    · exact List.mem_cons_self
    · exact List.mem_cons_of_mem _ (List.mem_cons_of_mem _ hv)
  have hab : ∀ v ∈ (Value.slice a n c) :: rs.map Rw.sl, ∀ j, v.ownBlock = some j → (Value.slice b m d).ownBlock ≠ some j := fun v hv j hj e => by
    rcases List.mem_cons.1 hv with rfl | hv
    · exact p1 _ List.mem_cons_self j hj e
    · exact p2 v hv j e hj
  have hkp : ∀ v ∈ (Value.slice a n c) :: rs.map Rw.sl, ∀ j, v.ownBlock = some j → w6.heap[j]? = W.heap[j]? := fun v hv j hj => by
    have h1 := (hlt v (hm1 hv) j hj).2
    rw [hG.block j (by omega) (fun e => hab v hv j hj e.symm), hX.block j h1]
  have h5x : ∀ j, (Value.slice a5 n5 c5).ownBlock = some j → j < X.heap.size := fun j hj => own_block_lt hR j hj
  have hgn : ∀ v ∈ (Value.slice a n c) :: rs.map Rw.sl, ∀ j, v.ownBlock = some j → (Value.slice b' (m + 1) cap).ownBlock ≠ some j := fun v hv j hj e => by
    rcases hat j e with h1 | h1
    · exact hab v hv j hj h1
    · have := (hlt v (hm1 hv) j hj).2
      omega
  have hg5 : ∀ j, (Value.slice a5 n5 c5).ownBlock = some j → (Value.slice b' (m + 1) cap).ownBlock ≠ some j := fun j hj e => by
    rcases hat j e with h1 | h1
    · exact h5 _ (List.mem_cons_of_mem _ List.mem_cons_self) j h1 hj
    · have := h5x j hj
      omega
  have hrk : k ≤ rs.length := by rw [h.rlen]; exact hk
  have hvk : k ≤ s.vols.length := by rw [h.vlen]; exact hk
  refine ⟨own_kept3 h.bag (hkp _ List.mem_cons_self), h.len, hO, by rw [List.length_append, List.length_cons, List.length_take, List.length_drop, h.rlen]; omega, by show (s.vols.take k ++ _ :: s.vols.drop k).length = _; rw [List.length_append, List.length_cons, List.length_take, List.length_drop, h.vlen]; omega, fun i r v hr hv => ?_, ?_⟩
  · have hv' : (s.vols.take k ++ (⟨nm, ids⟩ : Vo.Vl) :: s.vols.drop k)[i]? = some v := hv
    have old : ∀ i' : Nat, rs[i']? = some r → s.vols[i']? = some v → r.name = v.name ∧ w6.ownsRow base 81 3 (.slice r.a r.n r.c) r.n (dv v.ids) ∧ v.ids.length = r.n := fun i' q1 q2 => by
      obtain ⟨h1, h2, h3⟩ := h.vol i' r v q1 q2
      exact ⟨h1, own_kept3 h2 (hkp r.sl (List.mem_cons_of_mem _ (List.mem_map_of_mem (List.mem_of_getElem? q1)))), h3⟩
    rcases Nat.lt_trichotomy i k with hi | hi | hi
    · rw [List.getElem?_append_left (by rw [List.length_take]; omega), List.getElem?_take, if_pos hi] at hr hv'
      exact old i hr hv'
    · rw [List.getElem?_append_right (by rw [List.length_take]; omega), List.length_take, hi, Nat.min_eq_left (by assumption), Nat.sub_self] at hr hv'
      obtain rfl : (⟨nm, a5, n5, c5⟩ : Rw) = r := by simpa using hr
      obtain rfl : (⟨nm, ids⟩ : Vo.Vl) = v := by simpa using hv'
      exact ⟨rfl, own_kept3 hR fun j hj => hG.block j (h5x j hj) fun e => h5 _ (List.mem_cons_of_mem _ List.mem_cons_self) j e.symm hj, hl⟩
    · obtain ⟨q, rfl⟩ : ∃ q, i = k + 1 + q := ⟨i - k - 1, by omega⟩
      rw [List.getElem?_append_right (by rw [List.length_take]; omega), List.length_take, Nat.min_eq_left (by assumption), show k + 1 + q - k = q + 1 by omega, List.getElem?_cons_succ, List.getElem?_drop] at hr hv'
      exact old (k + q) hr hv'
  · have hP : (Value.slice a n c :: Value.slice b' (m + 1) cap :: (rs.take k ++ (⟨nm, a5, n5, c5⟩ : Rw) :: rs.drop k).map Rw.sl).Perm (Value.slice a n c :: Value.slice b' (m + 1) cap :: Value.slice a5 n5 c5 :: rs.map Rw.sl) := by
      refine List.Perm.cons _ (List.Perm.cons _ ?_)
      rw [List.map_append, List.map_cons]
      refine List.perm_middle.trans ?_
      rw [← List.map_append, List.take_append_drop]
      exact List.Perm.refl _
    refine Apart.perm ?_ hP.symm
    rw [apart_cons, apart_cons, apart_cons]
    refine ⟨fun y hy j hj1 hj2 => ?_, fun y hy j hj1 hj2 => ?_, fun y hy j hj1 hj2 => ?_, p3⟩
    · rcases List.mem_cons.1 hy with rfl | hy
      · exact hgn _ List.mem_cons_self j hj1 hj2
      · rcases List.mem_cons.1 hy with rfl | hy
        · exact h5 _ List.mem_cons_self j hj1 hj2
        · exact p1 y (List.mem_cons_of_mem _ hy) j hj1 hj2
    · rcases List.mem_cons.1 hy with rfl | hy
      · exact hg5 j hj2 hj1
      · exact hgn y (List.mem_cons_of_mem _ hy) j hj2 hj1
    · exact h5 y (List.mem_cons_of_mem _ (List.mem_cons_of_mem _ hy)) j hj2 hj1

/-- A volume is taken out. -/
theorem StW.del {i m' d' : Nat} {b' : Option Addr} {w6 : World} (h : StW w base a n c b m d rs s) (hm : m = i + 1 + m') (hG : w.grownBy w6 (Value.slice b m d).ownBlock) (hO : w6.ownsRow base 78 2 (.slice b' (i + m') d') (i + m') (rv (rs.take i ++ rs.drop (i + 1))))
    (hat : (Value.slice b' (i + m') d').ownBlock = (Value.slice b m d).ownBlock) : StW w6 base a n c b' (i + m') d' (rs.take i ++ rs.drop (i + 1)) ⟨s.bag, s.vols.take i ++ s.vols.drop (i + 1)⟩ := by
  have hlt := h.lt
  have hap := h.apart'
  unfold sls at hlt hap
  rw [apart_cons, apart_cons] at hap
  obtain ⟨p1, p2, p3⟩ := hap
  have hkp : ∀ v ∈ (Value.slice a n c) :: rs.map Rw.sl, ∀ j, v.ownBlock = some j → w6.heap[j]? = w.heap[j]? := fun v hv j hj => by
    refine hG.block j ?_ fun e => ?_
    · rcases List.mem_cons.1 hv with rfl | hv
      · exact (hlt _ List.mem_cons_self j hj).2
      · exact (hlt _ (List.mem_cons_of_mem _ (List.mem_cons_of_mem _ hv)) j hj).2
    · rcases List.mem_cons.1 hv with rfl | hv
      · exact p1 _ List.mem_cons_self j hj e.symm
      · exact p2 v hv j e.symm hj
  have hsub : (rs.take i ++ rs.drop (i + 1)).Sublist rs := by
    rw [← List.eraseIdx_eq_take_drop_succ]
    exact List.eraseIdx_sublist ..
  have hrl := h.rlen; have hvl := h.vlen
  refine ⟨own_kept3 h.bag (hkp _ List.mem_cons_self), h.len, hO, by rw [List.length_append, List.length_take, List.length_drop, hrl]; omega, by show (s.vols.take i ++ s.vols.drop (i + 1)).length = _; rw [List.length_append, List.length_take, List.length_drop, hvl]; omega, fun j r v hr hv => ?_, ?_⟩
  · have hv' : (s.vols.take i ++ s.vols.drop (i + 1))[j]? = some v := hv
    have old : ∀ i' : Nat, rs[i']? = some r → s.vols[i']? = some v → r.name = v.name ∧ w6.ownsRow base 81 3 (.slice r.a r.n r.c) r.n (dv v.ids) ∧ v.ids.length = r.n := fun i' q1 q2 => by
      obtain ⟨h1, h2, h3⟩ := h.vol i' r v q1 q2
      exact ⟨h1, own_kept3 h2 (hkp r.sl (List.mem_cons_of_mem _ (List.mem_map_of_mem (List.mem_of_getElem? q1)))), h3⟩
    by_cases hj : j < i
    · rw [List.getElem?_append_left (by rw [List.length_take]; omega), List.getElem?_take, if_pos hj] at hr hv'
      exact old j hr hv'
    · rw [List.getElem?_append_right (by rw [List.length_take]; omega), List.length_take, List.getElem?_drop] at hr hv'
      rw [Nat.min_eq_left (by omega)] at hr hv'
      exact old (i + 1 + (j - i)) hr hv'
  · show Apart (_ :: _ :: _)
    rw [apart_cons, apart_cons]
    have hmm : ∀ y ∈ (rs.take i ++ rs.drop (i + 1)).map Rw.sl, y ∈ rs.map Rw.sl := fun y hy => (hsub.map Rw.sl).subset hy
    refine ⟨fun y hy j hj1 hj2 => ?_, fun y hy j hj1 hj2 => ?_, p3.sublist (hsub.map Rw.sl)⟩
    · rcases List.mem_cons.1 hy with rfl | hy
      · rw [hat] at hj2
        exact p1 _ List.mem_cons_self j hj1 hj2
      · exact p1 y (List.mem_cons_of_mem _ (hmm y hy)) j hj1 hj2
    · rw [hat] at hj1
      exact p2 y (hmm y hy) j hj1 hj2

/-- Another bag. -/
theorem StW.setBag {a' : Option Addr} {n' c' : Nat} {l : List Bg.It} (h : StW w base a n c b m d rs s) (hO : w.ownsRow base 75 4 (.slice a' n' c') n' (tv l)) (hl : l.length = n') (hne : ∀ v ∈ (Value.slice b m d) :: rs.map Rw.sl, ∀ j, (Value.slice a' n' c').ownBlock = some j → v.ownBlock ≠ some j) :
    StW w base a' n' c' b m d rs ⟨l, s.vols⟩ := by
  have hap := h.apart'
  unfold sls at hap
  rw [apart_cons] at hap
  exact ⟨hO, hl, h.row, h.rlen, h.vlen, h.vol, List.pairwise_cons.2 ⟨fun y hy j hj => hne y hy j hj, hap.2⟩⟩

/-- Another id. -/
theorem StW.setId {i k g : Nat} {r : Rw} {v : Vo.Vl} {id : Bg.Id} (h : StW w base a n c b m d rs s) (hr : rs[i]? = some r) (hv : s.vols[i]? = some v) (hk : k < v.ids.length) (ha : r.a = some ⟨g, 0, none⟩) :
    StW (((w.setCell ⟨g, k * 3, none⟩ (.bool id.is)).setCell ⟨g, k * 3 + 1, none⟩ (.int .i64 id.sum)).setCell ⟨g, k * 3 + 2, none⟩ (.int .i64 id.n)) base a n c b m d rs ⟨s.bag, Vo.setV s.vols i k id⟩ := by
  obtain ⟨e1, e2, e3⟩ := h.vol i r v hr hv
  have hap := h.apart'
  have hrl := h.rlen; have hvl := h.vlen
  have hmr : r.sl ∈ rs.map Rw.sl := List.mem_map_of_mem (List.mem_of_getElem? hr)
  have hgr : r.sl.ownBlock = some g := by unfold Rw.sl; rw [ha]; rfl
  unfold sls at hap
  rw [apart_cons, apart_cons] at hap
  obtain ⟨p1, p2, p3⟩ := hap
  have hblk : ∀ (B : Nat), B ≠ g → (((w.setCell ⟨g, k * 3, none⟩ (.bool id.is)).setCell ⟨g, k * 3 + 1, none⟩ (.int .i64 id.sum)).setCell ⟨g, k * 3 + 2, none⟩ (.int .i64 id.n)).heap[B]? = w.heap[B]? := fun B hB => by
    rw [heap_setCell_other _ _ B _ (fun e => hB e), heap_setCell_other _ _ B _ (fun e => hB e), heap_setCell_other _ _ B _ (fun e => hB e)]
  have hi : i < s.vols.length := (List.getElem?_eq_some_iff.1 hv).1
  have hset : Vo.setV s.vols i k id = s.vols.set i ⟨v.name, v.ids.set k id⟩ := by unfold Vo.setV; rw [hv]
  refine ⟨own_kept3 h.bag fun B hB => hblk B fun e => by subst e; exact p1 r.sl (List.mem_cons_of_mem _ hmr) _ hB hgr, h.len, own_kept3 h.row fun B hB => hblk B fun e => by subst e; exact p2 r.sl hmr _ hB hgr, h.rlen, by show (Vo.setV s.vols i k id).length = m; rw [hset, List.length_set, hvl], fun i' r' v' hr' hv' => ?_, h.apart⟩
  have hv2 : (Vo.setV s.vols i k id)[i']? = some v' := hv'
  rw [hset] at hv2
  by_cases hii : i' = i
  · subst hii
    rw [List.getElem?_set_self hi] at hv2
    obtain rfl := Option.some.inj hv2
    obtain rfl := Option.some.inj (hr.symm.trans hr')
    refine ⟨e1, ?_, by rw [List.length_set]; exact e3⟩
    have e2' := e2
    rw [ha] at e2' ⊢
    rw [dv_set id hk]
    exact (((e2'.stored (k * 3) (.bool id.is)).1.stored (k * 3 + 1) (.int .i64 id.sum)).1.stored (k * 3 + 2) (.int .i64 id.n)).1
  · rw [List.getElem?_set_ne (Ne.symm hii)] at hv2
    obtain ⟨h1, h2, h3⟩ := h.vol i' r' v' hr' hv2
    refine ⟨h1, own_kept3 h2 fun B hB => hblk B fun e => ?_, h3⟩
    subst e
    have hlr : i < rs.length := (List.getElem?_eq_some_iff.1 hr).1
    have hlr' : i' < rs.length := (List.getElem?_eq_some_iff.1 hr').1
    obtain rfl : rs[i] = r := Option.some.inj ((List.getElem?_eq_getElem hlr).symm.trans hr)
    obtain rfl : rs[i'] = r' := Option.some.inj ((List.getElem?_eq_getElem hlr').symm.trans hr')
    have hp := List.pairwise_iff_getElem.1 p3
    rcases Nat.lt_or_gt_of_ne hii with hlt | hlt
    · have := hp i' i (by simpa using hlr') (by simpa using hlr) hlt B (by simpa [Rw.sl] using hB)
      exact this (by simpa [Rw.sl] using hgr)
    · have := hp i i' (by simpa using hlr) (by simpa using hlr') hlt B (by simpa [Rw.sl] using hgr)
      exact this (by simpa [Rw.sl] using hB)
end

end Go.Proofs.YtenkdpogdfcbgaaGreat
