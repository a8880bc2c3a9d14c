import Derived.Test.YtenkdpogdfcbgaaGreatBgW2
import Derived.Test.YtenkdpogdfcbgaaGreatUse
import Derived.Deep.RegionHeld3
import Derived.Deep.CutRange
/- The walk of bag.Put: what is wrong, and what is there already. -/
namespace Go.Proofs.YtenkdpogdfcbgaaGreat
open Go.RowKit

/-- What Put answers. -/
def PutTo (w : World) (R : Bg.PutA) (e : Ending) (w' : World) : Prop :=
  ∃ a n c, e = .returned (.tuple #[.slice a n c, .agg #[.bool R.id.is, .int .i64 R.id.sum, .int .i64 R.id.n], .int .i64 R.e]) ∧ w'.ownsRow w.heap.size 75 4 (.slice a n c) n (tv R.l) ∧ R.l.length = n ∧ Below w.heap.size w w'

theorem putTo_err {w w' : World} {E : Nat} (hb : Below w.heap.size w w') : PutTo w ⟨[], Bg.noId, E⟩ (.returned (.tuple #[.slice none 0 0, .agg #[.bool false, .int .i64 0, .int .i64 0], .int .i64 E])) w' :=
  ⟨none, 0, 0, rfl, World.ownsRow_nil _ _ _ _, rfl, hb⟩

theorem put_result {tmps : Array Value} {W : World} {B : Nat} {v e : Value} {b : Bool} {x y : Int} (h4 : tmps.getD 4 undef = v) (h5 : tmps.getD 5 undef = .pointer (some ⟨B, 0, none⟩)) (h6 : tmps.getD 6 undef = e) (h : Bxs W B [.bool b, .int .i64 x, .int .i64 y]) :
    (results Tryz.f87 tmps).run Tryz.prog W = .ok (.tuple #[v, .agg #[.bool b, .int .i64 x, .int .i64 y], e]) W := by
  have c0 := h.c 0 _ rfl; have c1 := h.c 1 _ rfl; have c2 := h.c 2 _ rfl
  have hp : tmps[4]?.getD undef = v := by simpa using h4
  have hq : tmps[5]?.getD undef = .pointer (some ⟨B, 0, none⟩) := by simpa using h5
  have hr : tmps[6]?.getD undef = e := by simpa using h6
  simp [results, Tryz.results87, hp, hq, hr, go_sem, c0, c1, c2]

/-- The two boxes that Put makes first. -/
theorem put_boxes (w : World) (t : ByteArray) : ∀ T T', Below w.heap.size w ((w.alloc (.cells #[.string t] T)).alloc (.cells #[.bool false, .int .i64 0, .int .i64 0] T')) ∧ Bxs ((w.alloc (.cells #[.string t] T)).alloc (.cells #[.bool false, .int .i64 0, .int .i64 0] T')) w.heap.size [.string t] ∧ Bxs ((w.alloc (.cells #[.string t] T)).alloc (.cells #[.bool false, .int .i64 0, .int .i64 0] T')) (w.heap.size + 1) [.bool false, .int .i64 0, .int .i64 0] := fun T T' => by
  refine ⟨((Below.refl _ w).alloc (Nat.le_refl _) _).alloc (by rw [World.size_alloc]; omega) _, (bxs_new w T _ _ rfl).alloc _, ?_⟩
  have := bxs_new (w.alloc (.cells #[.string t] T)) T' #[.bool false, .int .i64 0, .int .i64 0] _ rfl
  rwa [World.size_alloc] at this

set_option maxRecDepth 100000 in
set_option maxHeartbeats 4000000 in
theorem Put_bad (a : Option Addr) (n c : Nat) (ts : List Bg.It) (t : ByteArray) (E : Nat) (w : World) (hT : ISl w a n c ts) (hs : ∀ t ∈ ts, t.text.size ≤ maxLen) (hE : Bg.checkE Bg.Pr ts = E) (h0 : E ≠ 0) :
    Calls Tryz.prog 87 #[.slice a n c, .string t] w (PutTo w ⟨[], Bg.noId, E⟩) := by
  obtain ⟨hB0, hX, hY⟩ := put_boxes w t 9 81
  have C1 := Check_I a n c ts _ (hT.keep hB0) hs
  rw [hE] at C1
  have HB := Lib.hid hB0; have HY := Lib.hid hY
  have hb : ((E : Int) != 0) = true := bne_iff_ne.2 (by omega)
  clear hT hB0 hs hX hY hE h0
  go_enter Tryz.func87, Tryz.ntmps87
  go_wp2_with fail
  with_reducible refine C1.mono ?_
  rintro e w1 ⟨rfl, hb1⟩
  have HB1 := Lib.hid (HB.out.trans (hb1.mono HB.out.size))
  have HY1 := Lib.hid (HY.out.on hb1)
  have c0 := HY1.out.c 0 _ rfl; have c1 := HY1.out.c 1 _ rfl; have c2 := HY1.out.c 2 _ rfl
  have z0 := HY1.out.z 0 (by decide); have z1 := HY1.out.z 1 (by decide); have z2 := HY1.out.z 2 (by decide)
  clear hb1 C1
  go_wp2_with fail
  refine bodyPost_ret (put_result (B := w.heap.size + 1) rfl rfl rfl (HY1.out.set3 _ _ _)) rfl ?_
  exact putTo_err (below_set3 HB1.out (by omega) _ _ _)

set_option maxRecDepth 100000 in
set_option maxHeartbeats 4000000 in
theorem Put_large (a : Option Addr) (n c : Nat) (ts : List Bg.It) (t : ByteArray) (w : World) (hT : ISl w a n c ts) (hs : ∀ t ∈ ts, t.text.size ≤ maxLen) (hE : Bg.checkE Bg.Pr ts = 0) (ht : 64 < t.size) (htm : t.size ≤ maxLen) :
    Calls Tryz.prog 87 #[.slice a n c, .string t] w (PutTo w ⟨[], Bg.noId, 2⟩) := by
  obtain ⟨hB0, hX, hY⟩ := put_boxes w t 9 81
  have C1 := Check_I a n c ts _ (hT.keep hB0) hs
  rw [hE] at C1
  have HB := Lib.hid hB0; have HY := Lib.hid hY; have HX := Lib.hid hX
  clear hT hB0 hs hX hY hE
  unfold maxLen at htm
  go_enter Tryz.func87, Tryz.ntmps87
  go_wp2_with fail
  with_reducible refine C1.mono ?_
  rintro e w1 ⟨rfl, hb1⟩
  have HB1 := Lib.hid (HB.out.trans (hb1.mono HB.out.size))
  have HY1 := Lib.hid (HY.out.on hb1)
  have c0 := HY1.out.c 0 _ rfl; have c1 := HY1.out.c 1 _ rfl; have c2 := HY1.out.c 2 _ rfl
  have z0 := HY1.out.z 0 (by decide); have z1 := HY1.out.z 1 (by decide); have z2 := HY1.out.z 2 (by decide)
  have x0 := (HX.out.on hb1).c 0 _ rfl
  clear hb1 C1
  go_wp2_with fail
  refine bodyPost_ret (put_result (B := w.heap.size + 1) rfl rfl rfl (HY1.out.set3 _ _ _)) rfl ?_
  exact putTo_err (below_set3 HB1.out (by omega) _ _ _)

theorem eg_put : ∀ args w, (callFunc 105 args).run Tryz.prog w = .ok (.enter 105 args) w := enters_of Tryz.func105 (by kernel_rfl) rfl

theorem pred_put (w : World) (B : Nat) (s : ByteArray) (hB : B < w.heap.size) (hc : w.cell? ⟨B, 0, none⟩ = some (.string s)) : PredI w 105 #[.pointer (some ⟨B, 0, none⟩)] (Bg.same s) := fun W x y q z hb => by
  have hc' := (hb.cell (p := ⟨B, 0, none⟩) hB).trans hc
  have hBW : B < W.heap.size := Nat.lt_of_lt_of_le hB hb.size
  have HB := Lib.hid hb
  clear hb hc hB
  show Calls Tryz.prog 105 #[.agg #[.int .i64 x, .int .i64 y, .string z, .int .i64 q], .pointer (some ⟨B, 0, none⟩)] W _
  go_enter Tryz.func105, Tryz.ntmps105
  go_wp2_with fail
  go_ret
  exact ⟨rfl, HB.out.alloc HB.out.size _⟩

set_option maxRecDepth 100000 in
set_option maxHeartbeats 4000000 in
theorem Put_there (a : Option Addr) (n c : Nat) (ts : List Bg.It) (t : ByteArray) (k : Nat) (w : World) (hT : ISl w a n c ts) (hs : ∀ t ∈ ts, t.text.size ≤ maxLen) (hE : Bg.checkE Bg.Pr ts = 0) (ht : t.size ≤ 64) (hr : ts.findIdx? (Bg.same t) = some k) (hk : k < ts.length) (R : Bg.PutA)
    (hR : R = if ts[k].refs = 1000000 then ⟨[], Bg.noId, 8⟩ else ⟨ts.set k ⟨ts[k].sum, ts[k].n, ts[k].text, ts[k].refs + 1⟩, ⟨true, ts[k].sum, ts[k].n⟩, 0⟩) :
    Calls Tryz.prog 87 #[.slice a n c, .string t] w (PutTo w R) := by
  obtain ⟨hB0, hX, hY⟩ := put_boxes w t 9 81
  have C1 := Check_I a n c ts _ (hT.keep hB0) hs
  rw [hE] at C1
  have hn : n ≤ 64 := by rw [← hT.len]; exact Bg.check_len hE
  have hkn : k < n := by rw [← hT.len]; exact hk
  have hf := Bg.one_fit (Bg.check_one hE (List.getElem_mem hk))
  have hf1 := hf.2.2.2.2.2.1
  have hf2 := hf.2.2.2.2.2.2
  have CL : ∀ V, Below w.heap.size w V → Calls Tryz.prog 61 #[.slice a n c] V fun e w' => ∃ v, e = .returned v ∧ w'.ownsRow V.heap.size 75 4 v n (tv ts) ∧ Below V.heap.size V w' := fun V hb => Clone_I a n c ts V (hT.keep hb) (by omega)
  have HT := Lib.hid hT
  have HB := Lib.hid hB0; have HY := Lib.hid hY; have HX := Lib.hid hX
  have HI := Lib.hid (idx_some hr).1
  have HR := Lib.hid hR
  clear hR hT hB0 hs hX hY hE hf hr
  go_enter Tryz.func87, Tryz.ntmps87
  go_wp2_with fail
  with_reducible refine C1.mono ?_
  rintro e w1 ⟨rfl, hb1⟩
  have HB1 := Lib.hid (HB.out.trans (hb1.mono HB.out.size))
  have HY1 := Lib.hid (HY.out.on hb1)
  have HX1 := Lib.hid (HX.out.on hb1)
  have x0 := HX1.out.c 0 _ rfl
  clear hb1 C1
  go_wp2_with fail
  with_reducible refine (CL _ HB1.out).mono ?_
  rintro e w2 ⟨v, rfl, ho2, hb2⟩
  have HB2 := Lib.hid (HB1.out.trans (hb2.mono HB1.out.size))
  have HY2 := Lib.hid (HY1.out.on hb2)
  have HX2 := Lib.hid (HX1.out.on hb2)
  obtain ⟨g, c3, rfl, hg1, hg2⟩ := ho2.form (by omega)
  have hgw : w.heap.size + 1 < g := Nat.lt_of_lt_of_le HY1.out.lt (row_base ho2 g rfl)
  have HO2 := Lib.hid (own_low ho2 HB1.out.size)
  obtain ⟨a3, n3, he3, hS⟩ := isl_own ho2 HT.out.len
  cases he3
  have I1 := IndexFunc_I _ n _ ts _ #[.pointer (some ⟨w.heap.size, 0, none⟩)] (Bg.same t) w2 (by omega) eg_put hS (pred_put w2 w.heap.size t HX2.out.lt (HX2.out.c 0 _ rfl))
  rw [HI.out] at I1
  clear hb2 CL x0 hS ho2
  go_wp2_with fail
  with_reducible refine I1.mono ?_
  rintro e w3 ⟨rfl, hb3⟩
  have HB3 := Lib.hid (HB2.out.trans (hb3.mono HB2.out.size))
  have HY3 := Lib.hid (HY2.out.on hb3)
  have HO3 := Lib.hid (own_keep HO2.out hb3)
  clear hb3 I1
  have s0 : w3.cell? ⟨g, k * 4, none⟩ = some (.int .i64 ts[k].sum) := by
    rw [HO3.out.cellAt _ (by omega), (tv_get (List.getElem?_eq_getElem hk)).1]
  have s1 : w3.cell? ⟨g, k * 4 + 1, none⟩ = some (.int .i64 ts[k].n) := by
    rw [HO3.out.cellAt _ (by omega), (tv_get (List.getElem?_eq_getElem hk)).2.1]
  have s3 : w3.cell? ⟨g, k * 4 + 3, none⟩ = some (.int .i64 ts[k].refs) := by
    rw [HO3.out.cellAt _ (by omega), (tv_get (List.getElem?_eq_getElem hk)).2.2.2]
  have z3 := HO3.out.frozenAt (k * 4 + 3)
  have c0 := HY3.out.c 0 _ rfl; have c1 := HY3.out.c 1 _ rfl; have c2 := HY3.out.c 2 _ rfl
  have f0 := HY3.out.z 0 (by decide); have f1 := HY3.out.z 1 (by decide); have f2 := HY3.out.z 2 (by decide)
  have hgB : g ≠ w.heap.size + 1 := by omega
  by_cases h1 : ts[k].refs = 1000000
  · rw [h1] at s3
    have HD := Lib.hid h1
    clear hf1 hf2 h1
    go_wp2_with fail
    refine bodyPost_ret (put_result (B := w.heap.size + 1) rfl rfl rfl (HY3.out.set3 _ _ _)) rfl ?_
    rw [HR.out, if_pos HD.out]
    exact putTo_err (below_set3 HB3.out (by omega) _ _ _)
  · have HO4 : Hid ((w3.setCell ⟨g, k * 4 + 3, none⟩ (.int .i64 (ts[k].refs + 1))).ownsRow w.heap.size 75 4 (.slice (some ⟨g, 0, none⟩) n c3) n (tv (ts.set k ⟨ts[k].sum, ts[k].n, ts[k].text, ts[k].refs + 1⟩))) := Lib.hid (by
      rw [tv_set_refs hk]
      exact (HO3.out.stored (k * 4 + 3) (.int .i64 (ts[k].refs + 1))).1)
    have HB4 : Hid (Below w.heap.size w (w3.setCell ⟨g, k * 4 + 3, none⟩ (.int .i64 (ts[k].refs + 1)))) := Lib.hid (HB3.out.setCell (show w.heap.size ≤ g by omega) _)
    have HD := Lib.hid h1
    have HLL : Hid ((ts.set k ⟨ts[k].sum, ts[k].n, ts[k].text, ts[k].refs + 1⟩).length = n) := Lib.hid (by rw [List.length_set, HT.out.len])
    have hz1 : (ts[k].refs == 1000000) = false := beq_eq_false_iff_ne.2 h1
    have HY4 := Lib.hid (HY3.out.other (i := k * 4 + 3) hgB (.int .i64 (ts[k].refs + 1)))
    clear h1
    generalize ts[k].refs = q4 at *
    generalize ts[k].sum = q1 at *
    generalize ts[k].n = q2 at *
    go_wp2_with fail
    have ne : ∀ (W : World) (B i j : Nat) (u : Value) (p : Addr) (x : Value), g ≠ B ∨ i ≠ j → W.cell? ⟨g, j, none⟩ = some x → (W.setCell ⟨B, i, none⟩ u).cell? ⟨g, j, none⟩ = some x := fun W B i j u p x h h2 =>
      (World.cell?_setCell_other _ _ _ _ (by simp only [ne_eq, Addr.mk.injEq, not_and]; omega)).trans h2
    have HSA : Hid ((w3.setCell ⟨g, k * 4 + 3, none⟩ (.int .i64 (q4 + 1))).drew.cell? ⟨g, k * 4, none⟩ = some (.int .i64 q1) ∧ (w3.setCell ⟨g, k * 4 + 3, none⟩ (.int .i64 (q4 + 1))).drew.cell? ⟨g, k * 4 + 1, none⟩ = some (.int .i64 q2)) := Lib.hid ⟨ne _ _ _ _ _ ⟨0, 0, none⟩ _ (Or.inr (by omega)) s0, ne _ _ _ _ _ ⟨0, 0, none⟩ _ (Or.inr (by omega)) s1⟩
    clear s0 s1 ne c0 c1 c2 f0 f1 f2 s3 z3
    generalize w3.setCell ⟨g, k * 4 + 3, none⟩ (.int .i64 (q4 + 1)) = w4 at *
    have c0 := HY4.out.c 0 _ rfl; have c1 := HY4.out.c 1 _ rfl; have c2 := HY4.out.c 2 _ rfl
    have f0 := HY4.out.z 0 (by decide); have f1 := HY4.out.z 1 (by decide); have f2 := HY4.out.z 2 (by decide)
    have ne : ∀ (W : World) (i j : Nat) (u : Value) {x : Value}, W.cell? ⟨g, j, none⟩ = some x → (W.setCell ⟨w.heap.size + 1, i, none⟩ u).cell? ⟨g, j, none⟩ = some x := fun W i j u x h2 =>
      (World.cell?_setCell_other _ _ _ _ (by simp only [ne_eq, Addr.mk.injEq, not_and]; omega)).trans h2
    have HSB : Hid ((((w4.setCell ⟨w.heap.size + 1, 0, none⟩ (.bool true)).setCell ⟨w.heap.size + 1, 1, none⟩ (.int .i64 q1)).setCell ⟨w.heap.size + 1, 2, none⟩ (.int .i64 q2)).drew.cell? ⟨g, k * 4, none⟩ = some (.int .i64 q1) ∧ (((w4.setCell ⟨w.heap.size + 1, 0, none⟩ (.bool true)).setCell ⟨w.heap.size + 1, 1, none⟩ (.int .i64 q1)).setCell ⟨w.heap.size + 1, 2, none⟩ (.int .i64 q2)).drew.cell? ⟨g, k * 4 + 1, none⟩ = some (.int .i64 q2)) :=
      Lib.hid ⟨ne _ _ _ _ (ne _ _ _ _ (ne _ _ _ _ HSA.out.1)), ne _ _ _ _ (ne _ _ _ _ (ne _ _ _ _ HSA.out.2))⟩
    clear ne
    go_region_held3 (fun V => V.cell? ⟨g, k * 4, none⟩ = some (.int .i64 q1) ∧ V.cell? ⟨g, k * 4 + 1, none⟩ = some (.int .i64 q2)) (first | with_reducible exact HSA.out | with_reducible exact HSB.out) (fail)
    go_wp2_with fail
    refine bodyPost_ret (put_result (B := w.heap.size + 1) rfl rfl rfl ((HY4.out.set3 _ _ _).drew)) rfl ?_
    rw [HR.out, if_neg HD.out]
    exact ⟨_, _, _, rfl, ((own_other (own_other (own_other HO4.out (fun h => hgB (Option.some.inj h)) _) (fun h => hgB (Option.some.inj h)) _) (fun h => hgB (Option.some.inj h)) _)).drew, HLL.out, (below_set3 HB4.out (by omega) _ _ _).drew⟩

end Go.Proofs.YtenkdpogdfcbgaaGreat

/- The walk of bag.Put: a text that is not there yet. -/
namespace Go.Proofs.YtenkdpogdfcbgaaGreat
open Go.RowKit

theorem rowIs_item (w : World) (x y q : Int) (z : ByteArray) : (w.alloc (.cells #[.int .i64 x, .int .i64 y, .string z, .int .i64 q] 75)).rowIs w.heap.size 75 4 (fun j => [Value.int .i64 x, .int .i64 y, .string z, .int .i64 q].getD j (.int .i64 0)) :=
  ⟨#[.int .i64 x, .int .i64 y, .string z, .int .i64 q], by show (w.heap.push _)[w.heap.size]? = _; rw [Array.getElem?_push, if_pos rfl], rfl, fun j hj => by
    rcases j with _ | _ | _ | _ | j
    · rfl
    · rfl
    · rfl
    · rfl
    · omega⟩

theorem bxs_four {W : World} {B : Nat} {v0 v1 v2 v3 : Value} (h : Bxs W B [v0, v1, v2, v3]) : W.cell? ⟨B, 0, none⟩ = some v0 ∧ W.cell? ⟨B, 1, none⟩ = some v1 ∧ W.cell? ⟨B, 2, none⟩ = some v2 ∧ W.cell? ⟨B, 3, none⟩ = some v3 :=
  ⟨h.c 0 _ rfl, h.c 1 _ rfl, h.c 2 _ rfl, h.c 3 _ rfl⟩

set_option maxRecDepth 100000 in
set_option maxHeartbeats 4000000 in
theorem Put_full (a : Option Addr) (n c : Nat) (ts : List Bg.It) (t : ByteArray) (w : World) (hT : ISl w a n c ts) (hs : ∀ t ∈ ts, t.text.size ≤ maxLen) (hE : Bg.checkE Bg.Pr ts = 0) (ht : t.size ≤ 64) (hr : ts.findIdx? (Bg.same t) = none) (hn : n = 64) :
    Calls Tryz.prog 87 #[.slice a n c, .string t] w (PutTo w ⟨[], Bg.noId, 8⟩) := by
  obtain ⟨hB0, hX, hY⟩ := put_boxes w t 9 81
  have C1 := Check_I a n c ts _ (hT.keep hB0) hs
  rw [hE] at C1
  have CL : ∀ V, Below w.heap.size w V → Calls Tryz.prog 61 #[.slice a n c] V fun e w' => ∃ v, e = .returned v ∧ w'.ownsRow V.heap.size 75 4 v n (tv ts) ∧ Below V.heap.size V w' := fun V hb => Clone_I a n c ts V (hT.keep hb) (by omega)
  have HT := Lib.hid hT
  have HB := Lib.hid hB0; have HY := Lib.hid hY; have HX := Lib.hid hX
  have HI := Lib.hid (idx_none hr)
  have HN := Lib.hid hn
  have hnl : n ≤ 64 := by omega
  clear hT hB0 hs hX hY hE hr hn
  go_enter Tryz.func87, Tryz.ntmps87
  go_wp2_with fail
  with_reducible refine C1.mono ?_
  rintro e w1 ⟨rfl, hb1⟩
  have HB1 := Lib.hid (HB.out.trans (hb1.mono HB.out.size))
  have HY1 := Lib.hid (HY.out.on hb1)
  have HX1 := Lib.hid (HX.out.on hb1)
  have x0 := HX1.out.c 0 _ rfl
  clear hb1 C1
  go_wp2_with fail
  with_reducible refine (CL _ HB1.out).mono ?_
  rintro e w2 ⟨v, rfl, ho2, hb2⟩
  have HB2 := Lib.hid (HB1.out.trans (hb2.mono HB1.out.size))
  have HY2 := Lib.hid (HY1.out.on hb2)
  have HX2 := Lib.hid (HX1.out.on hb2)
  obtain ⟨a3, n3, rfl, hS⟩ := isl_own ho2 HT.out.len
  have I1 := IndexFunc_I _ n _ ts _ #[.pointer (some ⟨w.heap.size, 0, none⟩)] (Bg.same t) w2 (by rw [HN.out]; omega) eg_put hS (pred_put w2 w.heap.size t HX2.out.lt (HX2.out.c 0 _ rfl))
  rw [HI.out] at I1
  clear hb2 CL x0 hS ho2
  go_wp2_with fail
  with_reducible refine I1.mono ?_
  rintro e w3 ⟨rfl, hb3⟩
  have HB3 := Lib.hid (HB2.out.trans (hb3.mono HB2.out.size))
  have HY3 := Lib.hid (HY2.out.on hb3)
  clear hb3 I1
  have c0 := HY3.out.c 0 _ rfl; have c1 := HY3.out.c 1 _ rfl; have c2 := HY3.out.c 2 _ rfl
  have f0 := HY3.out.z 0 (by decide); have f1 := HY3.out.z 1 (by decide); have f2 := HY3.out.z 2 (by decide)
  have hn64 : ((n : Int) == 64) = true := by rw [HN.out]; rfl
  go_wp2_with fail
  refine bodyPost_ret (put_result (B := w.heap.size + 1) rfl rfl rfl (HY3.out.set3 _ _ _)) rfl ?_
  exact putTo_err (below_set3 HB3.out (by omega) _ _ _)

set_option maxRecDepth 100000 in
set_option maxHeartbeats 8000000 in
theorem Put_new (a : Option Addr) (n c : Nat) (ts : List Bg.It) (t : ByteArray) (w : World) (hT : ISl w a n c ts) (hs : ∀ t ∈ ts, t.text.size ≤ maxLen) (hE : Bg.checkE Bg.Pr ts = 0) (ht : t.size ≤ 64) (hr : ts.findIdx? (Bg.same t) = none) (hn64 : n ≠ 64)
    (fr : Nat) (hf1 : fr ≤ ts.length) (hf2 : ∀ j : Nat, j < fr → ts.any (Bg.hit ⟨true, Bg.Pr t, (j : Int)⟩) = true) (hf3 : ts.any (Bg.hit ⟨true, Bg.Pr t, (fr : Int)⟩) = false) :
    Calls Tryz.prog 87 #[.slice a n c, .string t] w (PutTo w ⟨Bg.ins ts ⟨Bg.Pr t, fr, t, 1⟩, ⟨true, Bg.Pr t, fr⟩, 0⟩) := by
  obtain ⟨hB0, hX, hY⟩ := put_boxes w t 9 81
  have C1 := Check_I a n c ts _ (hT.keep hB0) hs
  rw [hE] at C1
  have hn : n ≤ 64 := by rw [← hT.len]; exact Bg.check_len hE
  have hfn : fr ≤ n := by rw [← hT.len]; exact hf1
  have CL : ∀ V, Below w.heap.size w V → Calls Tryz.prog 61 #[.slice a n c] V fun e w' => ∃ v, e = .returned v ∧ w'.ownsRow V.heap.size 75 4 v n (tv ts) ∧ Below V.heap.size V w' := fun V hb => Clone_I a n c ts V (hT.keep hb) (by omega)
  have FC : ∀ (k : Int) V, Below w.heap.size w V → Calls Tryz.prog 80 #[.slice a n c, .agg #[.bool true, .int .i64 (Bg.Pr t), .int .i64 k]] V fun e w' => e = .returned (.int .i64 (idx (Bg.hit ⟨true, Bg.Pr t, k⟩) ts)) ∧ Below V.heap.size V w' := fun k V hb => Find_I a n c ts true (Bg.Pr t) k V (hT.keep hb) (by omega)
  have HSo := Lib.hid (Bg.check_sorted hE)
  have HFi : Hid (∀ x ∈ ts, Bg.Fit x) := Lib.hid fun x hx => (Bg.one_fit (Bg.check_one hE hx)).1
  have HT := Lib.hid hT
  have HB := Lib.hid hB0; have HY := Lib.hid hY; have HX := Lib.hid hX
  have HI := Lib.hid (idx_none hr)
  have HF2 := Lib.hid hf2; have HF3 := Lib.hid hf3
  have PL := Plain_I t (by unfold maxLen; omega)
  have hp := Bg.Pr_lt t
  clear hT hB0 hs hX hY hE hr hf2 hf3 hf1
  generalize Bg.Pr t = p at *
  obtain ⟨hp1, hp2⟩ := hp
  have HIN : Hid (∀ k, k ≤ ts.length → (∀ m (hm : m < ts.length), m < k → Bg.cmp ts[m] ⟨p, fr, t, 1⟩ < 0) → (∀ m (hm : m < ts.length), k ≤ m → 0 ≤ Bg.cmp ts[m] ⟨p, fr, t, 1⟩) → Bg.ins ts ⟨p, fr, t, 1⟩ = ts.take k ++ ⟨p, fr, t, 1⟩ :: ts.drop k) := Lib.hid fun k h0 h1 h2 => Bg.ins_at h0 h1 h2
  have hb64 : ((n : Int) == 64) = false := beq_eq_false_iff_ne.2 (by omega)
  generalize hRR : Bg.ins ts ⟨p, fr, t, 1⟩ = RR at *
  clear hRR hn64
  go_enter Tryz.func87, Tryz.ntmps87
  go_wp2_with fail
  with_reducible refine C1.mono ?_
  rintro e w1 ⟨rfl, hb1⟩
  have HB1 := Lib.hid (HB.out.trans (hb1.mono HB.out.size))
  have HY1 := Lib.hid (HY.out.on hb1)
  have HX1 := Lib.hid (HX.out.on hb1)
  have x0 := HX1.out.c 0 _ rfl
  clear hb1 C1
  go_wp2_with fail
  with_reducible refine (CL _ HB1.out).mono ?_
  rintro e w2 ⟨v, rfl, ho2, hb2⟩
  have HB2 := Lib.hid (HB1.out.trans (hb2.mono HB1.out.size))
  have HY2 := Lib.hid (HY1.out.on hb2)
  have HX2 := Lib.hid (HX1.out.on hb2)
  obtain ⟨a3, n3, rfl, hS⟩ := isl_own ho2 HT.out.len
  have I1 := IndexFunc_I _ n _ ts _ #[.pointer (some ⟨w.heap.size, 0, none⟩)] (Bg.same t) w2 (by omega) eg_put hS (pred_put w2 w.heap.size t HX2.out.lt (HX2.out.c 0 _ rfl))
  rw [HI.out] at I1
  have HO2 := Lib.hid ho2
  have hb2s := hb2.size
  clear hb2 CL x0 hS ho2
  go_wp2_with fail
  with_reducible refine I1.mono ?_
  rintro e w3 ⟨rfl, hb3⟩
  have hw13 : w1.heap.size ≤ w3.heap.size := Nat.le_trans hb2s hb3.size
  have HB3 := Lib.hid (HB2.out.trans (hb3.mono HB2.out.size))
  have HY3 := Lib.hid (HY2.out.on hb3)
  have HX3 := Lib.hid (HX2.out.on hb3)
  have HO3 := Lib.hid (own_keep HO2.out hb3)
  have x0 := HX3.out.c 0 _ rfl
  clear hb3 I1
  go_wp2_with fail
  go_upto_region 15 with (fail)
  go_cut [10] from 61 to 64 (fun s10 wx => ∃ B : Nat, s10 = .pointer (some ⟨B, 0, none⟩) ∧ w3.heap.size ≤ B ∧ Hid (Bxs wx B [.int .i64 p, .int .i64 0, .string t, .int .i64 1]) ∧ Hid (Below w3.heap.size w3 wx))
  case first =>
    go_region_held3 (fun V => V.cell? ⟨w.heap.size, 0, none⟩ = some (.string t))
      (first | with_reducible exact HX3.out.drew.c 0 _ rfl | with_reducible exact (HX3.out.alloc _).drew.c 0 _ rfl | with_reducible exact HX3.out.drew.drew.c 0 _ rfl)
      ((go_at_call 81; refine (PL _).mono ?_; rintro e w' ⟨rfl, rfl⟩))
    all_goals
      go_wp2_with fail
      go_meet
      case rel => exact ⟨w3.heap.size, rfl, Nat.le_refl _, Lib.hid (by first | exact (bxs_new _ _ _ _ rfl).drew), Lib.hid (((Below.refl _ w3).alloc (Nat.le_refl _) _).drew)⟩
  case rest =>
    obtain ⟨B, rfl, hB, HZ, HW⟩ := hcut
    have HNE : Hid (∀ m k, (Value.slice a3 m n3).ownBlock = some k → w1.heap.size ≤ k ∧ k < w3.heap.size) := Lib.hid fun m j hj => ⟨row_base HO3.out j (by cases a3 <;> exact hj), own_block_lt HO3.out j (by cases a3 <;> exact hj)⟩
    have hw1 := HY1.out.lt
    have hw3 := HB3.out.size
    clear x0 PL
    go_wp2_with fail
    go_loopg [] n (fun gg wr => ∃ k : Nat, k ≤ fr ∧ n - k ≤ gg ∧ Hid (Bxs wr B [.int .i64 p, .int .i64 k, .string t, .int .i64 1]) ∧ Hid (Below w3.heap.size w3 wr))
    case atStart => exact ⟨0, Nat.zero_le _, by omega, HZ, HW⟩
    case round =>
      obtain ⟨k, hk, hg, HZk, HWk⟩ := hrel
      have HB4 := Lib.hid (HB3.out.trans (HWk.out.mono hw3))
      have z0 := HZk.out.c 0 _ rfl; have z1 := HZk.out.c 1 _ rfl; have z2 := HZk.out.c 2 _ rfl; have z3 := HZk.out.c 3 _ rfl
      have zf := HZk.out.z 1 (show 1 < 4 by decide)
      have F1 := FC (k : Int) wr HB4.out
      by_cases hlt : k < fr
      · have hge : 0 ≤ idx (Bg.hit ⟨true, p, (k : Int)⟩) ts := of_decide_eq_true ((idx_any _ _).trans (HF2.out k hlt))
        generalize idx (Bg.hit ⟨true, p, (k : Int)⟩) ts = r at *
        go_wp2_with fail
        with_reducible refine F1.mono ?_
        rintro e w5 ⟨rfl, hb5⟩
        have HZ5 := Lib.hid (HZk.out.on hb5)
        have HW5 := Lib.hid (HWk.out.trans (hb5.mono HWk.out.size))
        clear z0 z1 z2 z3 zf hb5 F1
        have z1 := HZ5.out.c 1 _ rfl
        have zf := HZ5.out.z 1 (show 1 < 4 by decide)
        have HZ6 := Lib.hid (HZ5.out.set 1 (show 1 < 4 by decide) (.int .i64 ((k : Int) + 1)) rfl)
        have HW6 := Lib.hid (HW5.out.setCell hB (p := ⟨B, 1, none⟩) (.int .i64 ((k : Int) + 1)))
        go_wp2_with fail
        go_roundg (n - (k + 1))
        case measure => omega
        case rel => exact ⟨k + 1, hlt, by omega, HZ6, HW6⟩
      · obtain rfl : k = fr := by omega
        have hge : idx (Bg.hit ⟨true, p, (k : Int)⟩) ts < 0 := by
          have h := of_decide_eq_false ((idx_any _ _).trans HF3.out)
          omega
        generalize idx (Bg.hit ⟨true, p, (k : Int)⟩) ts = r at *
        go_wp2_with fail
        with_reducible refine F1.mono ?_
        rintro e w5 ⟨rfl, hb5⟩
        have HZ5 := Lib.hid (HZk.out.on hb5)
        have HW5 := Lib.hid (HWk.out.trans (hb5.mono HWk.out.size))
        clear z0 z1 z2 z3 zf hb5 F1
        have z0 := HZ5.out.c 0 _ rfl; have z1 := HZ5.out.c 1 _ rfl; have z2 := HZ5.out.c 2 _ rfl; have z3 := HZ5.out.c 3 _ rfl
        have HO5 := Lib.hid (own_keep HO3.out HW5.out)
        obtain ⟨a5, n5, he5, hS5⟩ := isl_own HO5.out HT.out.len
        cases he5
        have S1 := Search_I p k 1 t a3 n n3 ts w5 hS5 hn ⟨hp1, hp2, by show (0 : Int) ≤ (k : Int); omega, by show (k : Int) ≤ 64; omega⟩ HSo.out HFi.out
        clear hS5
        go_wp2_with fail
        with_reducible refine S1.mono ?_
        rintro e w6 ⟨kk, bb, rfl, hk6, hA6, hC6, hb6⟩
        have HRR := Lib.hid (HIN.out kk (by rw [HT.out.len]; exact hk6) hA6 hC6)
        have HZ6 := Lib.hid (HZ5.out.on hb6)
        have HW6 := Lib.hid (HW5.out.trans (hb6.mono HW5.out.size))
        have HO6 := Lib.hid (own_keep HO5.out hb6)
        clear z0 z1 z2 z3 hb6 S1 hA6 hC6
        have HO6' := Lib.hid ((HO6.out.alloc (.cells #[.int .i64 p, .int .i64 k, .string t, .int .i64 1] 75)).drew)
        have K7 := Insert_I a3 n n3 kk w1.heap.size w6.heap.size p k 1 t ts _ HO6'.out hk6 hn (by show w1.heap.size ≤ (w6.alloc _).heap.size; have := HW6.out.size; have := hw13; rw [World.size_alloc]; omega) (fun j hj => by have := HNE.out n j hj; have := HW6.out.size; omega) (rowIs_drew (rowIs_item w6 p k 1 t))
        have HY6 := Lib.hid (HY3.out.on HW6.out)
        have hBne : w.heap.size + 1 ≠ B := by omega
        clear HB4
        go_wp2_with fail
        go_region_held3 (fun V => V.cell? ⟨B, 0, none⟩ = some (.int .i64 p) ∧ V.cell? ⟨B, 1, none⟩ = some (.int .i64 k) ∧ V.cell? ⟨B, 2, none⟩ = some (.string t) ∧ V.cell? ⟨B, 3, none⟩ = some (.int .i64 1))
          (first | with_reducible exact bxs_four HZ8.out | with_reducible exact bxs_four HZ7.out | with_reducible exact bxs_four HZ6.out.drew | with_reducible exact bxs_four (HZ6.out.alloc _).drew)
          ((go_at_call 107; with_reducible refine K7.mono ?_; rintro e w7 ⟨a7, c7, rfl, hO7, hg7, hl7⟩; have HZ7 : Hid (Bxs w7 B [.int .i64 p, .int .i64 k, .string t, .int .i64 1]) := Lib.hid ((HZ6.out.alloc _).drew.grown hg7 (fun e => by have := HNE.out n _ e.symm; omega)); have HY7 : Hid (Bxs w7 (w.heap.size + 1) [.bool false, .int .i64 0, .int .i64 0]) := Lib.hid ((HY6.out.alloc _).drew.grown hg7 (fun e => by have := HNE.out n _ e.symm; omega)); have c0 := HY7.out.c 0 _ rfl; have c1 := HY7.out.c 1 _ rfl; have c2 := HY7.out.c 2 _ rfl; have f0 := HY7.out.z 0 (by decide); have f1 := HY7.out.z 1 (by decide); have f2 := HY7.out.z 2 (by decide); have HZ8 := Lib.hid (((HZ7.out.other (i := 0) hBne (.bool true)).other (i := 1) hBne (.int .i64 p)).other (i := 2) hBne (.int .i64 k))))
        have HB6 := Lib.hid (HB3.out.trans (HW6.out.mono hw3))
        have hw6 := HW6.out.size
        have HB7 := Lib.hid (own_grown HO6'.out ((HB6.out.alloc HB6.out.size (.cells #[.int .i64 p, .int .i64 k, .string t, .int .i64 1] 75)).drew) (by omega) (by show w.heap.size ≤ (w6.alloc _).heap.size; rw [World.size_alloc]; omega) hg7)
        have HNB : Hid ((Value.slice a7 (n + 1) c7).ownBlock ≠ some (w.heap.size + 1)) := Lib.hid fun h => by
          rcases hl7 _ h with h | h
          · have := HNE.out n _ h; omega
          · have h : w.heap.size + 1 = (w6.alloc (.cells #[.int .i64 p, .int .i64 k, .string t, .int .i64 1] 75)).heap.size := h
            rw [World.size_alloc] at h; omega
        have HO7 := Lib.hid (own_low hO7 (show w.heap.size ≤ w1.heap.size by omega))
        clear hO7 hg7 hl7 K7
        go_wp2_with fail
        refine bodyPost_ret (put_result (B := w.heap.size + 1) rfl rfl rfl (HY7.out.set3 _ _ _)) rfl ?_
        exact ⟨_, _, _, rfl, HRR.out ▸ (own_other (own_other (own_other HO7.out HNB.out _) HNB.out _) HNB.out _), by
          show RR.length = n + 1
          rw [HRR.out, List.length_append, List.length_cons, List.length_take, List.length_drop, HT.out.len]; omega, below_set3 HB7.out (by omega) _ _ _⟩

end Go.Proofs.YtenkdpogdfcbgaaGreat

/- bag.Put, whole. -/
namespace Go.Proofs.YtenkdpogdfcbgaaGreat
open Go.RowKit

theorem Put_I (a : Option Addr) (n c : Nat) (ts : List Bg.It) (t : ByteArray) (w : World) (hT : ISl w a n c ts) (hs : ∀ t ∈ ts, t.text.size ≤ maxLen) (htm : t.size ≤ maxLen) :
    Calls Tryz.prog 87 #[.slice a n c, .string t] w (PutTo w (Bg.putR Bg.Pr ts t)) := by
  by_cases h0 : Bg.checkE Bg.Pr ts = 0
  · by_cases ht : 64 < t.size
    · have := Put_large a n c ts t w hT hs h0 ht htm
      unfold Bg.putR
      rw [if_neg (fun h => h h0), if_pos ht]
      exact this
    · cases hr : ts.findIdx? (Bg.same t) with
      | some k =>
        have hk := (idx_some hr).2
        have := Put_there a n c ts t k w hT hs h0 (by omega) hr hk _ rfl
        unfold Bg.putR
        rw [if_neg (fun h => h h0), if_neg ht, hr]
        simp only [List.getElem?_eq_getElem hk]
        exact this
      | none =>
        by_cases hn : n = 64
        · have := Put_full a n c ts t w hT hs h0 (by omega) hr hn
          unfold Bg.putR
          rw [if_neg (fun h => h h0), if_neg ht, hr]
          simp only
          rw [if_pos (by rw [hT.len]; exact hn)]
          exact this
        · obtain ⟨k, hk, h1, h2⟩ := Bg.free_ex (Bg.check_sorted h0) (Bg.Pr t)
          have := Put_new a n c ts t w hT hs h0 (by omega) hr hn k hk h1 h2
          unfold Bg.putR
          rw [if_neg (fun h => h h0), if_neg ht, hr]
          simp only
          rw [if_neg (by rw [hT.len]; exact hn), Bg.free_at hk h1 h2]
          exact this
  · have := Put_bad a n c ts t _ w hT hs rfl h0
    unfold Bg.putR
    rw [if_pos h0]
    exact this

end Go.Proofs.YtenkdpogdfcbgaaGreat

/- The walks of woolkeep.two, used, refs, and of slices.Equal at items. -/
namespace Go.Proofs.YtenkdpogdfcbgaaGreat
open Go.RowKit

def Bg.tA : ByteArray := ⟨#[97]⟩
def Bg.tB : ByteArray := ⟨#[98]⟩
def Bg.tC : ByteArray := ⟨#[99]⟩
def Bg.twoL : List Bg.It := [⟨353, 0, Bg.tA, 1⟩, ⟨354, 0, Bg.tB, 1⟩]

theorem two1 : Bg.putR Bg.Pr [] ⟨#[97]⟩ = ⟨[⟨353, 0, ⟨#[97]⟩, 1⟩], ⟨true, 353, 0⟩, 0⟩ := by kernel_rfl
theorem two2 : Bg.putR Bg.Pr [⟨353, 0, ⟨#[97]⟩, 1⟩] ⟨#[98]⟩ = ⟨Bg.twoL, ⟨true, 354, 0⟩, 0⟩ := by kernel_rfl
theorem two_check : Bg.checkE Bg.Pr Bg.twoL = 0 := by kernel_rfl

theorem isl_nil (w : World) : ISl w none 0 0 [] := ⟨fun h => absurd rfl h, rfl, Nat.le_refl _, Nat.zero_le _, fun _ => ⟨rfl, rfl⟩⟩

theorem own_isl {w : World} {base n c : Nat} {e : TypeId} {a : Option Addr} {ts : List Bg.It} (h : w.ownsRow base e 4 (.slice a n c) n (tv ts)) (hn : ts.length = n) : ISl w a n c ts := by
  obtain ⟨a', c', he, h'⟩ := isl_own h hn
  cases he
  exact h'

/-- How often a text is used. -/
def Bg.usedV (l : List Bg.It) (s : ByteArray) : Int := match l.find? (Bg.same s) with
  | some x => x.refs
  | none => 0

theorem Bg.usedV_hit {l : List Bg.It} {s : ByteArray} {k : Nat} (hk : k < l.length) (h : Bg.same s l[k] = true) (hb : ∀ j (hj : j < k), Bg.same s (l[j]'(by omega)) = false) : Bg.usedV l s = l[k].refs := by
  have : l.find? (Bg.same s) = some l[k] := List.find?_eq_some_iff_getElem.2 ⟨h, k, hk, rfl, fun j hj => by rw [hb j hj]; rfl⟩
  unfold Bg.usedV
  rw [this]

theorem Bg.usedV_miss {l : List Bg.It} {s : ByteArray} (hb : ∀ j (hj : j < l.length), Bg.same s l[j] = false) : Bg.usedV l s = 0 := by
  have : l.find? (Bg.same s) = none := List.find?_eq_none.2 fun x hx => by
    obtain ⟨j, hj, rfl⟩ := List.getElem_of_mem hx
    rw [hb j hj]; decide
  unfold Bg.usedV
  rw [this]

/-- How often all blocks are used. -/
def Bg.refsV (l : List Bg.It) : Int := (l.map fun x => x.refs).sum

theorem Bg.refsV_take (l : List Bg.It) {k : Nat} (hk : k < l.length) : Bg.refsV (l.take (k + 1)) = Bg.refsV (l.take k) + l[k].refs := by
  unfold Bg.refsV
  rw [List.take_succ_eq_append_getElem hk, List.map_append, List.sum_append]
  simp

theorem Bg.refsV_bound (l : List Bg.It) (h : ∀ x ∈ l, 1 ≤ x.refs ∧ x.refs ≤ 1000000) : 0 ≤ Bg.refsV l ∧ Bg.refsV l ≤ 1000000 * l.length := by
  induction l with
  | nil => exact ⟨Int.le_refl _, by simp [Bg.refsV]⟩
  | cons x l ih =>
    have h1 := h x List.mem_cons_self
    have h2 := ih fun y hy => h y (List.mem_cons_of_mem _ hy)
    have e : Bg.refsV (x :: l) = x.refs + Bg.refsV l := by unfold Bg.refsV; simp
    rw [e, List.length_cons]
    omega

set_option maxRecDepth 100000 in
set_option maxHeartbeats 2000000 in
theorem Equal_I (a b : Option Addr) (n c1 c2 : Nat) (l : List Bg.It) (w : World) (h1 : ISl w a n c1 l) (h2 : ISl w b n c2 l) (hn : n ≤ 1099511627776) :
    Calls Tryz.prog 36 #[.slice a n c1, .slice b n c2] w fun e w' => e = .returned (.bool true) ∧ ∃ q, w' = w.drewN q := by
  have H1 := Lib.hid h1; have H2 := Lib.hid h2; clear h1 h2
  go_enter Tryz.func36, Tryz.ntmps36
  go_wp2_with fail
  go_loopw [13] (fun x wr => ∃ k : Nat, k ≤ n ∧ x = .int .i64 k ∧ ∃ j, wr = w.drewN j) (fun x _ => n - (intOf x).toNat)
  case atStart => exact ⟨0, Nat.zero_le _, rfl, 0, rfl⟩
  case round =>
    obtain ⟨k, hk, rfl, hj⟩ := hrel
    by_cases hlt : k < n
    · have hk' : k < l.length := by rw [H1.out.len]; exact hlt
      obtain ⟨A, b1, o1, q1, rfl, hX, c1, c2, c3, c4⟩ := H1.out.get hk'
      obtain ⟨B, b2, o2, q2, rfl, hY, d1, d2, d3, d4⟩ := H2.out.get hk'
      generalize l[k].sum = f1 at *
      generalize l[k].n = f2 at *
      generalize l[k].text = f3 at *
      generalize l[k].refs = f4 at *
      obtain ⟨j, rfl⟩ := hj
      go_wp2_with fail
      go_region
      all_goals
        go_wp2_with fail
        go_roundw
        case rel => exact ⟨k + 1, hlt, by go_num, j + 1, rfl⟩
        case measure => simp [intOf]; omega
    · obtain rfl : k = n := by omega
      go_wp2_with fail
      go_ret
      exact ⟨rfl, hj⟩

end Go.Proofs.YtenkdpogdfcbgaaGreat
