import Derived.Test.YtenkdpogdfcbgaaGreatVoD
import Derived.Laws.OwnMore
import Derived.Laws.MakeOwn
/- The walks of vol.add and vol.Make. -/
namespace Go.Proofs.YtenkdpogdfcbgaaGreat
open Go.RowKit

/-- What a call that answers a state and an error leaves. -/
def StTo (w : World) (R : Vo.An) (e : Ending) (w' : World) : Prop :=
  ∃ a n c b m d rs, e = .returned (.tuple #[.agg #[.slice a n c, .slice b m d], .int .i64 R.e]) ∧ StW w' w.heap.size a n c b m d rs R.s ∧ Below w.heap.size w w'

theorem stTo_err {w w' : World} {E : Nat} (hb : Below w.heap.size w w') : StTo w ⟨Vo.st0, E⟩ (.returned (.tuple #[.agg #[.slice none 0 0, .slice none 0 0], .int .i64 E])) w' :=
  ⟨none, 0, 0, none, 0, 0, [], rfl, stW0 _ _, hb⟩

theorem add_result {tmps : Array Value} {W : World} {B : Nat} {v0 v1 : Value} (h2 : tmps.getD 4 undef = .pointer (some ⟨B, 0, none⟩)) (h : Bxs W B [v0, v1]) :
    (results Tryz.f83 tmps).run Tryz.prog W = .ok (.agg #[v0, v1]) W := by
  have c0 := h.c 0 _ rfl; have c1 := h.c 1 _ rfl
  have hq : tmps[4]?.getD undef = .pointer (some ⟨B, 0, none⟩) := by simpa using h2
  simp [results, Tryz.results83, hq, go_sem, c0, c1]

theorem make_result {tmps : Array Value} {W : World} {B : Nat} {v0 v1 e : Value} (h2 : tmps.getD 6 undef = .pointer (some ⟨B, 0, none⟩)) (h3 : tmps.getD 7 undef = e) (h : Bxs W B [v0, v1]) :
    (results Tryz.f55 tmps).run Tryz.prog W = .ok (.tuple #[.agg #[v0, v1], e]) W := by
  have c0 := h.c 0 _ rfl; have c1 := h.c 1 _ rfl
  have hq : tmps[6]?.getD undef = .pointer (some ⟨B, 0, none⟩) := by simpa using h2
  have hr : tmps[7]?.getD undef = e := by simpa using h3
  simp [results, Tryz.results55, hq, hr, go_sem, c0, c1]

theorem insV_at {vs : List Vo.Vl} {v : Vo.Vl} {k : Nat} (hk : k ≤ vs.length) (h1 : ∀ m (hm : m < vs.length), m < k → Vo.cmpN vs[m].name v.name < 0) (h2 : ∀ m (hm : m < vs.length), k ≤ m → 0 ≤ Vo.cmpN vs[m].name v.name) : Vo.insV vs v = vs.take k ++ v :: vs.drop k := by
  have e : vs = vs.take k ++ vs.drop k := (List.take_append_drop k vs).symm
  have c1 : (vs.take k).countP (fun u => decide (Vo.cmpN u.name v.name < 0)) = (vs.take k).length := by
    rw [List.countP_eq_length]
    intro y hy
    obtain ⟨j, hj, rfl⟩ := List.getElem_of_mem hy
    rw [List.length_take] at hj
    rw [List.getElem_take]
    exact decide_eq_true (h1 j (by omega) (by omega))
  have c2 : (vs.drop k).countP (fun u => decide (Vo.cmpN u.name v.name < 0)) = 0 := by
    rw [List.countP_eq_zero]
    intro y hy
    obtain ⟨j, hj, rfl⟩ := List.getElem_of_mem hy
    rw [List.length_drop] at hj
    rw [List.getElem_drop]
    have := h2 (k + j) (by omega) (by omega)
    rw [decide_eq_true_iff]
    omega
  have hc : vs.countP (fun u => decide (Vo.cmpN u.name v.name < 0)) = k := by
    conv => lhs; rw [e]
    rw [List.countP_append, c1, c2, List.length_take]
    omega
  unfold Vo.insV
  rw [hc]

theorem rs_name {w : World} {base n c m d : Nat} {a b : Option Addr} {rs : List Rw} {s : Vo.St} (h : StW w base a n c b m d rs s) {j : Nat} (hj : j < rs.length) (hj' : j < s.vols.length) : rs[j].name = s.vols[j].name :=
  (h.vol j rs[j] s.vols[j] (List.getElem?_eq_getElem hj) (List.getElem?_eq_getElem hj')).1

theorem rowIs_vol (w : World) (z : ByteArray) (va : Option Addr) (vn vc : Nat) : (w.alloc (.cells #[.string z, .slice va vn vc] 78)).rowIs w.heap.size 78 2 (fun j => [Value.string z, .slice va vn vc].getD j (.string ⟨#[]⟩)) :=
  ⟨#[.string z, .slice va vn vc], by show (w.heap.push _)[w.heap.size]? = _; rw [Array.getElem?_push, if_pos rfl], rfl, fun j hj => by
    rcases j with _ | _ | j
    · rfl
    · rfl
    · omega⟩

set_option maxRecDepth 100000 in
set_option maxHeartbeats 4000000 in
theorem add_V (a b a5 : Option Addr) (n c m d n5 c5 base B : Nat) (rs : List Rw) (s : Vo.St) (nm : ByteArray) (ids : List Bg.Id) (W0 w : World) (hS : StW w base a n c b m d rs s) (hm : m ≤ 62) (hsrt : s.vols.Pairwise fun u v => Vo.cmpN u.name v.name < 0)
    (hR : w.ownsRow base 81 3 (.slice a5 n5 c5) n5 (dv ids)) (hl : ids.length = n5) (h5 : ∀ v ∈ sls a n c b m d rs, ∀ j, v.ownBlock = some j → (Value.slice a5 n5 c5).ownBlock ≠ some j) (hB : Below B W0 w) (hBb : B ≤ base) (hbs : base ≤ w.heap.size) :
    Calls Tryz.prog 83 #[.agg #[.slice a n c, .slice b m d], .agg #[.string nm, .slice a5 n5 c5]] w fun e w' =>
      ∃ b' d' rs', e = .returned (.agg #[.slice a n c, .slice b' (m + 1) d']) ∧ StW w' base a n c b' (m + 1) d' rs' ⟨s.bag, Vo.insV s.vols ⟨nm, ids⟩⟩ ∧ Below B W0 w' := by
  obtain ⟨w1, hw1⟩ : ∃ w1, w1 = ((w.alloc (.cells #[.slice a n c, .slice b m d] 33)).alloc (.cells #[.string nm, .slice a5 n5 c5] 78)).alloc (.cells #[.slice none 0 0, .slice none 0 0] 33) := ⟨_, rfl⟩
  have hB1 : Below w.heap.size w w1 := by
    rw [hw1]
    exact (((Below.refl _ w).alloc (Nat.le_refl _) _).alloc (by rw [World.size_alloc]; omega) _).alloc (by rw [World.size_alloc, World.size_alloc]; omega) _
  have hX : Bxs w1 w.heap.size [.slice a n c, .slice b m d] := by rw [hw1]; exact ((bxs_new w 33 _ _ rfl).alloc _).alloc _
  have hY : Bxs w1 (w.heap.size + 1) [.string nm, .slice a5 n5 c5] := by
    rw [hw1]
    have := bxs_new (w.alloc (.cells #[.slice a n c, .slice b m d] 33)) 78 #[.string nm, .slice a5 n5 c5] _ rfl
    rw [World.size_alloc] at this
    exact this.alloc _
  have hZ : Bxs w1 (w.heap.size + 2) [.slice none 0 0, .slice none 0 0] := by
    rw [hw1]
    have := bxs_new ((w.alloc (.cells #[.slice a n c, .slice b m d] 33)).alloc (.cells #[.string nm, .slice a5 n5 c5] 78)) 33 #[.slice none 0 0, .slice none 0 0] _ rfl
    rw [World.size_alloc, World.size_alloc] at this
    exact this
  have hs1 : w1.heap.size = w.heap.size + 3 := by rw [hw1, World.size_alloc, World.size_alloc, World.size_alloc]
  have S1 := Search_V nm a5 n5 c5 b m d base rs w1 (own_keep hS.row hB1) hS.rlen (by omega) (by
    rw [List.pairwise_iff_getElem]
    intro i j hi hj hij
    have hi' : i < s.vols.length := by rw [hS.vlen, ← hS.rlen]; exact hi
    have hj' : j < s.vols.length := by rw [hS.vlen, ← hS.rlen]; exact hj
    rw [rs_name hS hi hi', rs_name hS hj hj']
    exact (List.pairwise_iff_getElem.1 hsrt) i j hi' hj' hij)
  have HI : Hid (∀ k, k ≤ m → (∀ j (hj : j < rs.length), j < k → Vo.cmpN rs[j].name nm < 0) → (∀ j (hj : j < rs.length), k ≤ j → 0 ≤ Vo.cmpN rs[j].name nm) → Vo.insV s.vols ⟨nm, ids⟩ = s.vols.take k ++ ⟨nm, ids⟩ :: s.vols.drop k) := Lib.hid fun k hk h1 h2 => by
    have hrv : rs.length = s.vols.length := hS.rlen.trans hS.vlen.symm
    refine insV_at (by rw [hS.vlen]; exact hk) (fun j hj hjk => ?_) fun j hj hjk => ?_
    · have := h1 j (by omega) hjk
      rwa [rs_name hS (by omega) hj] at this
    · have := h2 j (by omega) hjk
      rwa [rs_name hS (by omega) hj] at this
  have HS := Lib.hid hS; have HR := Lib.hid hR; have HL := Lib.hid hl; have H5 := Lib.hid h5; have HB := Lib.hid hB; have HB1 := Lib.hid hB1; have HX := Lib.hid hX; have HY := Lib.hid hY; have HZ := Lib.hid hZ
  have x1 := hX.c 1 _ rfl; have y0 := hY.c 0 _ rfl; have y1 := hY.c 1 _ rfl
  have HBB := Lib.hid hBb
  have hlX := hX.lt
  clear hS hR hl h5 hB hB1 hX hY hZ hsrt hBb
  have hw1' := hw1.symm
  clear hw1
  go_enter Tryz.func83, Tryz.ntmps83
  go_wp2_with fail
  with_reducible refine S1.mono ?_
  rintro e w2 ⟨k, bb, rfl, hk, g1, g2, hb2⟩
  have HIK := Lib.hid (HI.out k hk g1 g2)
  have HB2 := Lib.hid (HB1.out.trans (hb2.mono HB1.out.size))
  have HX2 := Lib.hid (HX.out.on hb2); have HY2 := Lib.hid (HY.out.on hb2); have HZ2 := Lib.hid (HZ.out.on hb2)
  clear x1 y0 y1 hb2 S1 g1 g2 HI
  have x1 := HX2.out.c 1 _ rfl; have y0 := HY2.out.c 0 _ rfl; have y1 := HY2.out.c 1 _ rfl
  have xf := HX2.out.z 1 (show 1 < 2 by decide)
  have hs2 := HB2.out.size
  have hlx := HX2.out.lt
  have hlz := HZ2.out.lt
  have HO := Lib.hid (own_keep HS.out.row (HB2.out.alloc HB2.out.size (.cells #[.string nm, .slice a5 n5 c5] 78)))
  have I1 := Insert_V b m d k base w2.heap.size nm a5 n5 c5 rs (w2.alloc (.cells #[.string nm, .slice a5 n5 c5] 78)) HO.out hk (by omega) (by rw [World.size_alloc]; omega) (fun j hj => by have := own_block_lt HS.out.row j hj; omega) (rowIs_vol _ _ _ _ _)
  go_wp2_with fail
  with_reducible refine I1.mono ?_
  rintro e w3 ⟨b', d', rfl, ho3, hg3, hat3⟩
  have hnb : ∀ B', w.heap.size ≤ B' → some B' ≠ (Value.slice b m d).ownBlock := fun B' hB' e => by have := own_block_lt HS.out.row _ e.symm; omega
  have HX3 := Lib.hid ((HX2.out.alloc (.cells #[.string nm, .slice a5 n5 c5] 78)).grown hg3 (hnb _ (Nat.le_refl _)))
  have HZ3 := Lib.hid ((HZ2.out.alloc (.cells #[.string nm, .slice a5 n5 c5] 78)).grown hg3 (hnb _ (by omega)))
  have HB3 : Hid (Below B W0 w3) := Lib.hid ((HB.out.trans ((HB2.out.alloc HB2.out.size (.cells #[.string nm, .slice a5 n5 c5] 78)).mono (by have := HBB.out; omega))).grown hg3 (by have := HBB.out; rw [World.size_alloc]; omega) (fun j hj => by have := row_base HS.out.row j hj; have := HBB.out; omega))
  have HS3 : Hid (StW w3 base a n c b' (m + 1) d' (rs.take k ++ ⟨nm, a5, n5, c5⟩ :: rs.drop k) ⟨s.bag, Vo.insV s.vols ⟨nm, ids⟩⟩) := Lib.hid (by
    rw [HIK.out]
    refine HS.out.ins rfl (HB2.out.alloc HB2.out.size _) (own_keep HR.out (HB2.out.alloc HB2.out.size _)) HL.out hk H5.out hg3 ho3 fun j hj => ?_
    rcases hat3 j hj with h | h
    · exact Or.inl h
    · exact Or.inr (by omega))
  have HK3 : Hid (∀ v ∈ sls a n c b' (m + 1) d' (rs.take k ++ ⟨nm, a5, n5, c5⟩ :: rs.drop k), ∀ B', w.heap.size ≤ B' → B' ≤ w.heap.size + 2 → v.ownBlock ≠ some B') := Lib.hid fun v hv B' hB1 hB2 e => by
    unfold sls at hv
    rcases List.mem_cons.1 hv with rfl | hv
    · have := own_block_lt HS.out.bag _ e; omega
    rcases List.mem_cons.1 hv with rfl | hv
    · rcases hat3 _ e with h | h
      · exact hnb _ hB1 h.symm
      · have h : B' = (w2.alloc (.cells #[.string nm, .slice a5 n5 c5] 78)).heap.size := h
        rw [World.size_alloc] at h
        omega
    · obtain ⟨r, hr, rfl⟩ := List.mem_map.1 hv
      rcases List.mem_append.1 hr with hr | hr
      · have := (HS.out.lt r.sl (by unfold sls; exact List.mem_cons_of_mem _ (List.mem_cons_of_mem _ (List.mem_map_of_mem (List.mem_of_mem_take hr)))) _ e).2
        omega
      · rcases List.mem_cons.1 hr with rfl | hr
        · have := own_block_lt HR.out _ e; omega
        · have := (HS.out.lt r.sl (by unfold sls; exact List.mem_cons_of_mem _ (List.mem_cons_of_mem _ (List.mem_map_of_mem (List.mem_of_mem_drop hr)))) _ e).2
          omega
  have hs3 := hg3.size
  rw [World.size_alloc] at hs3
  clear x1 y0 y1 xf hg3 ho3 hat3 I1 hnb
  have x0 := HX3.out.c 0 _ rfl; have x1 := HX3.out.c 1 _ rfl
  have xf := HX3.out.z 1 (show 1 < 2 by decide)
  have HX4 := Lib.hid (HX3.out.set 1 (show 1 < 2 by decide) (.slice b' (m + 1) d') rfl)
  have HZ4 := Lib.hid (HZ3.out.other (b := w.heap.size) (i := 1) (by omega) (.slice b' (m + 1) d'))
  have z0 := HZ3.out.c 0 _ rfl; have z1 := HZ3.out.c 1 _ rfl
  have zf0 := HZ3.out.z 0 (show 0 < 2 by decide); have zf1 := HZ3.out.z 1 (show 1 < 2 by decide)
  go_wp2_with fail
  have s1 := HS3.out.other (B := w.heap.size) (i := 1) (fun v hv => HK3.out v hv _ (Nat.le_refl _) (by omega)) (.slice b' (m + 1) d')
  have s2 := s1.other (B := w.heap.size + 2) (i := 0) (fun v hv => HK3.out v hv _ (by omega) (Nat.le_refl _)) (.slice a n c)
  have s3 := s2.other (B := w.heap.size + 2) (i := 1) (fun v hv => HK3.out v hv _ (by omega) (Nat.le_refl _)) (.slice b' (m + 1) d')
  refine bodyPost_ret (add_result (B := w.heap.size + 2) rfl (HZ4.out.set2 _ _)) rfl ?_
  exact ⟨_, _, _, rfl, s3, below_set2 (HB3.out.setCell (show B ≤ w.heap.size by have := HBB.out; omega) _) (by have := HBB.out; omega) _ _⟩

end Go.Proofs.YtenkdpogdfcbgaaGreat

/- The walk of vol.Make. -/
namespace Go.Proofs.YtenkdpogdfcbgaaGreat
open Go.RowKit

theorem made_ids (n : Nat) : (madeCells (Value.agg #[.bool false, .int .i64 0, .int .i64 0]).cells (n * 3)).toList = dv (List.replicate n Bg.noId) := by
  apply List.ext_getElem?
  intro j
  by_cases hj : j < n * 3
  · obtain ⟨q, r, rfl, hr⟩ : ∃ q r, j = q * 3 + r ∧ r < 3 := ⟨j / 3, j % 3, by omega, by omega⟩
    have hq : (List.replicate n Bg.noId)[q]? = some Bg.noId := by rw [List.getElem?_replicate, if_pos (by omega)]
    have hd := dv_get hq
    rw [Array.getElem?_toList]
    unfold madeCells
    rw [Array.getElem?_map, Array.getElem?_range, if_pos (by simpa using hj)]
    have e : (q * 3 + r) % (Value.agg #[.bool false, .int .i64 0, .int .i64 0]).cells.size = r := by
      show (q * 3 + r) % 3 = r
      omega
    simp only [Option.map_some]
    rw [e]
    rcases r with _ | _ | _ | r
    · exact hd.1.symm
    · exact hd.2.1.symm
    · exact hd.2.2.symm
    · omega
  · rw [List.getElem?_eq_none (by rw [Array.length_toList, size_madeCells]; omega), List.getElem?_eq_none (by rw [dv_length, List.length_replicate]; omega)]

theorem mk_ids (n : Nat) (hn : n ≤ 1000) (_w : World) : ∃ cs : Array Value, cs.toList = dv (List.replicate n Bg.noId) ∧ ∀ V : World, (Instr.makeSlice 76 (.int .i64 (n : Int)) (.int .i64 (n : Int))).run Tryz.prog V = .ok (.slice (some ⟨V.heap.size, 0, none⟩) n n) (V.alloc (.cells cs 81)) := by
  obtain ⟨i0, hi, hz0, hz1, hz2⟩ := info_parts Tryz.infoId
  refine ⟨madeCells (Value.agg #[.bool false, .int .i64 0, .int .i64 0]).cells (n * 3), made_ids n, fun V => ?_⟩
  have h := run_makeSlice (P := Tryz.prog) V 76 81 i0 _ Tryz.underlying76 hi hz0 .i64 .i64 (n : Int) (n : Int) (by omega) (Int.le_refl _) (by rw [hz1]; omega) (by rw [hz2]; omega) (by omega)
  rw [hz1, Int.toNat_natCast] at h
  exact h

theorem mk_own (w : World) (n base : Nat) (cs : Array Value) (hc : cs.toList = dv (List.replicate n Bg.noId)) (hn : n ≤ 1000) (hb : base ≤ w.heap.size) : (w.alloc (.cells cs 81)).ownsRow base 81 3 (.slice (some ⟨w.heap.size, 0, none⟩) n n) n (dv (List.replicate n Bg.noId)) := by
  have hs : cs.size = n * 3 := by rw [← Array.length_toList, hc, dv_length, List.length_replicate]
  rw [← hc]
  exact World.ownsRow_lit w cs n hb (by unfold maxLen; omega) hs

set_option maxRecDepth 100000 in
set_option maxHeartbeats 4000000 in
theorem Make_V (a b : Option Addr) (n c m d base : Nat) (rs : List Rw) (s : Vo.St) (name : ByteArray) (k : Int) (w : World) (hS : StW w base a n c b m d rs s) (hR : Vo.Right s) (hnm : name.size ≤ maxLen) :
    Calls Tryz.prog 55 #[.agg #[.slice a n c, .slice b m d], .string name, .int .i64 k] w (StTo w (Vo.makeR s name k)) := by
  have hm : m ≤ 6 := by rw [← hS.vlen]; exact hR.len
  have hn : n ≤ 64 := by rw [← hS.len]; exact hR.bag.len
  obtain ⟨w0, hw0⟩ : ∃ w0, w0 = (w.alloc (.cells #[.slice a n c, .slice b m d] 33)).alloc (.cells #[.slice none 0 0, .slice none 0 0] 33) := ⟨_, rfl⟩
  have hB : Below w.heap.size w w0 := by
    rw [hw0]
    exact ((Below.refl _ w).alloc (Nat.le_refl _) _).alloc (by rw [World.size_alloc]; omega) _
  have hX : Bxs w0 w.heap.size [.slice a n c, .slice b m d] := by rw [hw0]; exact (bxs_new w 33 _ _ rfl).alloc _
  have hY : Bxs w0 (w.heap.size + 1) [.slice none 0 0, .slice none 0 0] := by
    rw [hw0]
    have := bxs_new (w.alloc (.cells #[.slice a n c, .slice b m d] 33)) 33 #[.slice none 0 0, .slice none 0 0] _ rfl
    rw [World.size_alloc] at this
    exact this
  have C1 := Check_V a b n c m d base rs s _ (hS.keep hB) hR
  have F1 : ∀ W, Below w.heap.size w W → Calls Tryz.prog 82 #[.agg #[.slice a n c, .slice b m d], .string name] W fun e w' => e = .returned (.int .i64 (Vo.freshE s.vols name)) ∧ Below W.heap.size W w' := fun W hb => fresh_V a b n c m d base rs s name W (hS.keep hb) (by omega) hnm
  have HCP : Hid (∀ W, Below w.heap.size w W → Calls Tryz.prog 30 #[.agg #[.slice a n c, .slice b m d]] W (StMade W s)) := Lib.hid fun W hb => Copied_V a b n c m d base rs s W (hS.keep hb) (by omega) (by omega) fun v hv => by have := (hR.vol v hv).len; omega
  have HB := Lib.hid hB; have HX := Lib.hid hX; have HY := Lib.hid hY
  have HSR := Lib.hid hR.srt
  have hw0' := hw0.symm
  have x0 := hX.c 0 _ rfl; have x1 := hX.c 1 _ rfl
  have hlx := hX.lt
  have hly := hY.lt
  have hmv : s.vols.length = m := hS.vlen
  have HMV := Lib.hid hmv
  clear hS hR hB hX hY hw0 hmv
  have hb1' : ¬ (k < 1 ∨ 32 < k) → 1 ≤ k ∧ k ≤ 32 := fun h => by omega
  by_cases hk : k < 1 ∨ 32 < k
  · have e : Vo.makeR s name k = ⟨Vo.st0, 1⟩ := by unfold Vo.makeR; rw [if_pos hk]
    rw [e]
    clear e hb1'
    have fin : ∀ w1 : World, Below w0.heap.size w0 w1 → Bxs w1 (w.heap.size + 1) [.slice none 0 0, .slice none 0 0] ∧ Below w.heap.size w w1 := fun w1 hb => ⟨HY.out.on hb, HB.out.trans (hb.mono HB.out.size)⟩
    have HF := Lib.hid fin
    clear fin
    rcases hk with hk | hk
    · go_enter Tryz.func55, Tryz.ntmps55
      go_wp2_with fail
      with_reducible refine C1.mono ?_
      rintro e w1 ⟨rfl, hb1⟩
      obtain ⟨hy, hb⟩ := HF.out w1 hb1
      have HY1 := Lib.hid hy; have HB1 := Lib.hid hb
      have y0 := hy.c 0 _ rfl; have y1 := hy.c 1 _ rfl; have yf0 := hy.z 0 (show 0 < 2 by decide); have yf1 := hy.z 1 (show 1 < 2 by decide)
      clear x0 x1 hb1 C1 hy hb
      go_wp2_with fail
      refine bodyPost_ret (make_result (B := w.heap.size + 1) rfl rfl (HY1.out.set2 _ _)) rfl ?_
      exact stTo_err (below_set2 HB1.out (by omega) _ _)
    · have hk1 : ¬ k < 1 := by omega
      go_enter Tryz.func55, Tryz.ntmps55
      go_wp2_with fail
      with_reducible refine C1.mono ?_
      rintro e w1 ⟨rfl, hb1⟩
      obtain ⟨hy, hb⟩ := HF.out w1 hb1
      have HY1 := Lib.hid hy; have HB1 := Lib.hid hb
      have y0 := hy.c 0 _ rfl; have y1 := hy.c 1 _ rfl; have yf0 := hy.z 0 (show 0 < 2 by decide); have yf1 := hy.z 1 (show 1 < 2 by decide)
      clear x0 x1 hb1 C1 hy hb
      go_wp2_with fail
      refine bodyPost_ret (make_result (B := w.heap.size + 1) rfl rfl (HY1.out.set2 _ _)) rfl ?_
      exact stTo_err (below_set2 HB1.out (by omega) _ _)
  · obtain ⟨hk1, hk2⟩ := hb1' hk
    obtain ⟨q, rfl⟩ : ∃ q : Nat, k = (q : Int) := ⟨k.toNat, by omega⟩
    clear hb1'
    by_cases hf : Vo.freshE s.vols name = 0
    · have e : Vo.makeR s name (q : Int) = ⟨⟨s.bag, Vo.insV s.vols ⟨name, List.replicate q Bg.noId⟩⟩, 0⟩ := by unfold Vo.makeR; rw [if_neg hk, if_neg (fun h => h hf)]; rfl
      rw [e]
      rw [hf] at F1
      obtain ⟨cs, hcs, hmk⟩ := mk_ids q (by omega) w
      have HCS := Lib.hid hcs
      clear e hf hk hcs
      go_enter Tryz.func55, Tryz.ntmps55
      go_wp2_with fail
      with_reducible refine C1.mono ?_
      rintro e w1 ⟨rfl, hb1⟩
      have HB1 := Lib.hid (HB.out.trans (hb1.mono HB.out.size))
      have HX1 := Lib.hid (HX.out.on hb1); have HY1 := Lib.hid (HY.out.on hb1)
      clear x0 x1 hb1 C1
      have x0 := HX1.out.c 0 _ rfl; have x1 := HX1.out.c 1 _ rfl
      go_wp2_with fail
      with_reducible refine (F1 _ HB1.out).mono ?_
      rintro e w2 ⟨rfl, hb2⟩
      have HB2 := Lib.hid (HB1.out.trans (hb2.mono HB1.out.size))
      have HX2 := Lib.hid (HX1.out.on hb2); have HY2 := Lib.hid (HY1.out.on hb2)
      clear x0 x1 hb2 F1
      have x0 := HX2.out.c 0 _ rfl; have x1 := HX2.out.c 1 _ rfl
      have hlx2 := HX2.out.lt; have hly2 := HY2.out.lt
      go_wp2_with fail
      have H1D := Lib.hid HX2.out.drew
      refine wp_region_noPanic ?_
      refine region_L (S := (fun X : World => X.cell? ⟨w.heap.size, 0, none⟩ = some (.slice a n c) ∧ X.cell? ⟨w.heap.size, 1, none⟩ = some (.slice b m d))) (E := [8]) (by kernel_rfl) (⟨H1D.out.c 0 _ rfl, H1D.out.c 1 _ rfl⟩) (fun hS => ?_)
      refine take_L (i := 2) (oi := _) (v := ?_) rfl (by kernel_rfl) (by kernel_rfl) (by kernel_rfl) (by kernel_rfl) (by kernel_rfl) (by kernel_rfl) (fun _ _ _ h => h) (Or.inl ⟨by rfl, ?_⟩) hS ?_
      rotate_left
      next => (rintro w' ⟨k0, k1⟩; go_simp; (try with_reducible rfl))
      (try simp only [Act.put, List.setIfInBounds_toArray])
      refine take_L (i := 3) (oi := _) (v := ?_) rfl (by kernel_rfl) (by kernel_rfl) (by kernel_rfl) (by kernel_rfl) (by kernel_rfl) (by kernel_rfl) (fun _ _ _ h => h) (Or.inl ⟨by rfl, ?_⟩) hS ?_
      rotate_left
      next => (rintro w' ⟨k0, k1⟩; go_simp; (try with_reducible rfl))
      (try simp only [Act.put])
      refine take_L (i := 0) (oi := _) (v := ?_) rfl (by kernel_rfl) (by kernel_rfl) (by kernel_rfl) (by kernel_rfl) (by kernel_rfl) (by kernel_rfl) (fun _ _ _ h => h) (Or.inl ⟨by rfl, ?_⟩) hS ?_
      rotate_left
      next => (rintro w' ⟨k0, k1⟩; go_simp; (try with_reducible rfl))
      (try simp only [Act.put])
      refine two_L (i := 1) (j := 4) (oi := _) (oj := _) (by kernel_rfl) rfl rfl (fun K hK => ?_) (fun K hK => ?_)
      · go_simp
        go_at_call 30
        with_reducible refine (HCP.out _ HB2.out.drew).mono ?_
        rintro e w4 ⟨a4, n4, c4, b4, m4, d4, rs4, rfl, hs4, hb4⟩
        have hm4 : m4 ≤ 62 := by rw [← hs4.vlen, HMV.out]; omega
        have hz4 := hb4.size
        have AD := add_V a4 b4 (some ⟨w4.heap.size, 0, none⟩) n4 c4 m4 d4 q q w2.heap.size w2.heap.size rs4 s name (List.replicate q Bg.noId) w2.drew (w4.alloc (.cells cs 81)) (hs4.keep ((Below.refl _ w4).alloc (Nat.le_refl _) _)) hm4 HSR.out (mk_own w4 q w2.heap.size cs HCS.out (by omega) hz4) (List.length_replicate ..)
          (fun v hv j hj e => by have h1 := (hs4.lt v hv j hj).2; have h2 : w4.heap.size = j := Option.some.inj e; omega) (hb4.alloc hb4.size _) (Nat.le_refl _) (by rw [World.size_alloc]; exact Nat.le_trans hz4 (Nat.le_succ _))
        have HX4 := Lib.hid (HX2.out.drew.on hb4)
        clear hs4 hb4
        refine hK.out _ _ (by exact ⟨HX4.out.c 0 _ rfl, HX4.out.c 1 _ rfl⟩) (fun hSn => ?_)
        clear hK K hS
        (try simp only [Act.put, List.setIfInBounds_toArray, List.set_cons_zero, List.set_cons_succ])
        have hS := hSn
        clear hSn
        refine one_L (i := 4) (o := _) (by kernel_rfl) rfl (fun K hK => ?_)
        go_simp
        refine hK.out _ _ (by exact ⟨(HX4.out.alloc _).c 0 _ rfl, (HX4.out.alloc _).c 1 _ rfl⟩) (fun hSn => ?_)
        clear hK K hS
        (try simp only [Act.put, List.setIfInBounds_toArray, List.set_cons_zero, List.set_cons_succ])
        have hS := hSn
        clear hSn
        refine take_L (i := 5) (oi := _) (v := ?_) rfl (by kernel_rfl) (by kernel_rfl) (by kernel_rfl) (by kernel_rfl) (by kernel_rfl) (by kernel_rfl) (fun _ _ _ h => h) (Or.inl ⟨by rfl, ?_⟩) hS ?_
        rotate_left
        next => (rintro w' ⟨k0, k1⟩; go_simp; (try with_reducible rfl))
        (try simp only [Act.put, List.setIfInBounds_toArray])
        refine one_L (i := 6) (o := _) (by kernel_rfl) rfl (fun K hK => ?_)
        go_simp
        go_at_call 83
        with_reducible refine AD.mono ?_
        rintro e w6 ⟨b6, d6, rs6, rfl, hs6, hb6⟩
        have HX6 := Lib.hid (HX2.out.drew.on hb6); have HY6 := Lib.hid (HY2.out.drew.on hb6); have HS6 := Lib.hid hs6
        have HB6 := Lib.hid (HB2.out.drew.trans (hb6.mono HB2.out.size))
        have y0 := HY6.out.c 0 _ rfl; have y1 := HY6.out.c 1 _ rfl; have yf0 := HY6.out.z 0 (show 0 < 2 by decide); have yf1 := HY6.out.z 1 (show 1 < 2 by decide)
        clear hb6 hs6
        refine hK.out _ _ (by exact ⟨HX6.out.c 0 _ rfl, HX6.out.c 1 _ rfl⟩) (fun hSn => ?_)
        clear hK K hS
        (try simp only [Act.put, List.setIfInBounds_toArray, List.set_cons_zero, List.set_cons_succ])
        have hS := hSn
        clear hSn
        refine one_L (i := 7) (o := _) (by kernel_rfl) rfl (fun K hK => ?_)
        go_simp
        refine hK.out _ _ (by exact ⟨((HX6.out.other (i := 0) (by omega) _).other (i := 1) (by omega) _).c 0 _ rfl, ((HX6.out.other (i := 0) (by omega) _).other (i := 1) (by omega) _).c 1 _ rfl⟩) (fun hSn => ?_)
        clear hK K hS
        (try simp only [Act.put, List.setIfInBounds_toArray, List.set_cons_zero, List.set_cons_succ])
        have hS := hSn
        clear hSn
        refine oneE_L (i := 8) (o := _) (by kernel_rfl) rfl (by kernel_rfl) (fun K hK => ?_)
        clear hS
        go_simp
        refine hK.out _ _ ?_
        clear hK K
        (try simp only [Act.put, List.setIfInBounds_toArray, List.set_cons_zero, List.set_cons_succ])
        refine done_L (by kernel_rfl) ?_ _
        refine NoPanic.normal ?_
        go_wp2_with fail
        have s1 := HS6.out.other (B := w.heap.size + 1) (i := 0) (HS6.out.off hly2) (.slice a4 n4 c4)
        have s2 := s1.other (B := w.heap.size + 1) (i := 1) (s1.off hly2) (.slice b6 (m4 + 1) d6)
        refine bodyPost_ret (make_result (B := w.heap.size + 1) rfl rfl (HY6.out.set2 _ _)) rfl ?_
        exact ⟨_, _, _, _, _, _, _, rfl, s2.low (by omega), below_set2 HB6.out (by omega) _ _⟩
      · go_simp
        refine hK.out _ _ (by exact ⟨(H1D.out.alloc _).c 0 _ rfl, (H1D.out.alloc _).c 1 _ rfl⟩) (fun hSn => ?_)
        clear hK K hS
        (try simp only [Act.put, List.setIfInBounds_toArray, List.set_cons_zero, List.set_cons_succ])
        have hS := hSn
        clear hSn
        refine take_L (i := 5) (oi := _) (v := ?_) rfl (by kernel_rfl) (by kernel_rfl) (by kernel_rfl) (by kernel_rfl) (by kernel_rfl) (by kernel_rfl) (fun _ _ _ h => h) (Or.inl ⟨by rfl, ?_⟩) hS ?_
        rotate_left
        next => (rintro w' ⟨k0, k1⟩; go_simp; (try with_reducible rfl))
        (try simp only [Act.put, List.setIfInBounds_toArray])
        refine one_L (i := 1) (o := _) (by kernel_rfl) rfl (fun K hK => ?_)
        go_simp
        go_at_call 30
        with_reducible refine (HCP.out _ (HB2.out.alloc HB2.out.size _).drew).mono ?_
        rintro e w4 ⟨a4, n4, c4, b4, m4, d4, rs4, rfl, hs4, hb4⟩
        have hm4 : m4 ≤ 62 := by rw [← hs4.vlen, HMV.out]; omega
        have hz4 := hb4.size
        have hb4' : Below w2.heap.size w2.drew w4 := (((Below.refl w2.heap.size w2.drew).alloc (Nat.le_refl _) _)).trans (hb4.mono (by show w2.heap.size ≤ (w2.alloc _).heap.size; rw [World.size_alloc]; omega))
        have hz5 : w2.heap.size + 1 ≤ w4.heap.size := by have h : (w2.alloc (.cells cs 81)).heap.size ≤ w4.heap.size := hz4; rwa [World.size_alloc] at h
        have AD := add_V a4 b4 (some ⟨w2.heap.size, 0, none⟩) n4 c4 m4 d4 q q w2.heap.size w2.heap.size rs4 s name (List.replicate q Bg.noId) w2.drew w4 (hs4.low (by show w2.heap.size ≤ (w2.alloc _).heap.size; rw [World.size_alloc]; omega)) hm4 HSR.out (own_keep (mk_own w2.drew q w2.heap.size cs HCS.out (by omega) (Nat.le_refl _)) hb4) (List.length_replicate ..)
          (fun v hv j hj e => by
            have h1 := (hs4.lt v hv j hj).1
            have h2 : w2.heap.size = j := Option.some.inj e
            have h3 : (w2.alloc (.cells cs 81)).heap.size ≤ j := h1
            rw [World.size_alloc] at h3
            omega) hb4' (Nat.le_refl _) (by omega)
        have HX4 := Lib.hid (HX2.out.drew.on hb4')
        clear hs4 hb4 hb4'
        refine hK.out _ _ (by exact ⟨HX4.out.c 0 _ rfl, HX4.out.c 1 _ rfl⟩) (fun hSn => ?_)
        clear hK K hS
        (try simp only [Act.put, List.setIfInBounds_toArray, List.set_cons_zero, List.set_cons_succ])
        have hS := hSn
        clear hSn
        refine one_L (i := 6) (o := _) (by kernel_rfl) rfl (fun K hK => ?_)
        go_simp
        go_at_call 83
        with_reducible refine AD.mono ?_
        rintro e w6 ⟨b6, d6, rs6, rfl, hs6, hb6⟩
        have HX6 := Lib.hid (HX2.out.drew.on hb6); have HY6 := Lib.hid (HY2.out.drew.on hb6); have HS6 := Lib.hid hs6
        have HB6 := Lib.hid (HB2.out.drew.trans (hb6.mono HB2.out.size))
        have y0 := HY6.out.c 0 _ rfl; have y1 := HY6.out.c 1 _ rfl; have yf0 := HY6.out.z 0 (show 0 < 2 by decide); have yf1 := HY6.out.z 1 (show 1 < 2 by decide)
        clear hb6 hs6
        refine hK.out _ _ (by exact ⟨HX6.out.c 0 _ rfl, HX6.out.c 1 _ rfl⟩) (fun hSn => ?_)
        clear hK K hS
        (try simp only [Act.put, List.setIfInBounds_toArray, List.set_cons_zero, List.set_cons_succ])
        have hS := hSn
        clear hSn
        refine one_L (i := 7) (o := _) (by kernel_rfl) rfl (fun K hK => ?_)
        go_simp
        refine hK.out _ _ (by exact ⟨((HX6.out.other (i := 0) (by omega) _).other (i := 1) (by omega) _).c 0 _ rfl, ((HX6.out.other (i := 0) (by omega) _).other (i := 1) (by omega) _).c 1 _ rfl⟩) (fun hSn => ?_)
        clear hK K hS
        (try simp only [Act.put, List.setIfInBounds_toArray, List.set_cons_zero, List.set_cons_succ])
        have hS := hSn
        clear hSn
        refine oneE_L (i := 8) (o := _) (by kernel_rfl) rfl (by kernel_rfl) (fun K hK => ?_)
        clear hS
        go_simp
        refine hK.out _ _ ?_
        clear hK K
        (try simp only [Act.put, List.setIfInBounds_toArray, List.set_cons_zero, List.set_cons_succ])
        refine done_L (by kernel_rfl) ?_ _
        refine NoPanic.normal ?_
        go_wp2_with fail
        have s1 := HS6.out.other (B := w.heap.size + 1) (i := 0) (HS6.out.off hly2) (.slice a4 n4 c4)
        have s2 := s1.other (B := w.heap.size + 1) (i := 1) (s1.off hly2) (.slice b6 (m4 + 1) d6)
        refine bodyPost_ret (make_result (B := w.heap.size + 1) rfl rfl (HY6.out.set2 _ _)) rfl ?_
        exact ⟨_, _, _, _, _, _, _, rfl, s2.low (by omega), below_set2 HB6.out (by omega) _ _⟩
    · have e : Vo.makeR s name (q : Int) = ⟨Vo.st0, Vo.freshE s.vols name⟩ := by unfold Vo.makeR; rw [if_neg hk, if_pos hf]
      rw [e]
      have hb : ((Vo.freshE s.vols name : Int) != 0) = true := bne_iff_ne.2 (by omega)
      generalize Vo.freshE s.vols name = E at *
      clear e hf hk
      go_enter Tryz.func55, Tryz.ntmps55
      go_wp2_with fail
      with_reducible refine C1.mono ?_
      rintro e w1 ⟨rfl, hb1⟩
      have HB1 := Lib.hid (HB.out.trans (hb1.mono HB.out.size))
      have HX1 := Lib.hid (HX.out.on hb1); have HY1 := Lib.hid (HY.out.on hb1)
      clear x0 x1 hb1 C1
      have x0 := HX1.out.c 0 _ rfl; have x1 := HX1.out.c 1 _ rfl
      go_wp2_with fail
      with_reducible refine (F1 _ HB1.out).mono ?_
      rintro e w2 ⟨rfl, hb2⟩
      have HB2 := Lib.hid (HB1.out.trans (hb2.mono HB1.out.size))
      have HY2 := Lib.hid (HY1.out.on hb2)
      clear x0 x1 hb2 F1
      have y0 := HY2.out.c 0 _ rfl; have y1 := HY2.out.c 1 _ rfl; have yf0 := HY2.out.z 0 (show 0 < 2 by decide); have yf1 := HY2.out.z 1 (show 1 < 2 by decide)
      go_wp2_with fail
      refine bodyPost_ret (make_result (B := w.heap.size + 1) rfl rfl (HY2.out.set2 _ _)) rfl ?_
      exact stTo_err (below_set2 HB2.out (by omega) _ _)

end Go.Proofs.YtenkdpogdfcbgaaGreat
