import Derived.Test.YthccdoejnklidaaBgW2
import Derived.Test.YthccdoejnklidaaBgP2
/- The walk of bag.Get. -/
namespace Go.Proofs.Ythccdoejnklidaa
open Go.RowKit

theorem getR_bad {l : List Bg.It} {id : Bg.Id} {E : Nat} (h : Bg.checkE Bg.Pr l = E) (h0 : E ≠ 0) : Bg.getR Bg.Pr l id = (Bg.noText, E) := by
  unfold Bg.getR
  rw [h, if_pos h0]

theorem getR_none {l : List Bg.It} {id : Bg.Id} (h : Bg.checkE Bg.Pr l = 0) (h0 : l.findIdx? (Bg.hit id) = none) : Bg.getR Bg.Pr l id = (Bg.noText, 4) := by
  unfold Bg.getR
  rw [h, if_neg (fun h => h rfl), h0]

theorem getR_some {l : List Bg.It} {id : Bg.Id} {i : Nat} (h : Bg.checkE Bg.Pr l = 0) (h0 : l.findIdx? (Bg.hit id) = some i) (hi : i < l.length) : Bg.getR Bg.Pr l id = (l[i].text, 0) := by
  unfold Bg.getR
  rw [h, if_neg (fun h => h rfl), h0]
  simp only [List.getElem?_eq_getElem hi]

theorem idx_none {p : Bg.It → Bool} {ts : List Bg.It} (h : ts.findIdx? p = none) : idx p ts = -1 := by unfold idx; rw [h]
theorem idx_some {p : Bg.It → Bool} {ts : List Bg.It} {i : Nat} (h : ts.findIdx? p = some i) : idx p ts = (i : Int) ∧ i < ts.length := by
  refine ⟨by unfold idx; rw [h], ?_⟩
  exact (List.findIdx?_eq_some_iff_getElem.1 h).1

end Go.Proofs.Ythccdoejnklidaa

/- The walk of bag.Drop. -/
namespace Go.Proofs.Ythccdoejnklidaa
open Go.RowKit

theorem tv_set_refs {l : List Bg.It} {i : Nat} (hi : i < l.length) (r : Int) : tv (l.set i ⟨l[i].sum, l[i].n, l[i].text, r⟩) = (tv l).set (i * 4 + 3) (.int .i64 r) := by
  induction l generalizing i with
  | nil => exact absurd hi (Nat.not_lt_zero _)
  | cons x l ih =>
    cases i with
    | zero => rfl
    | succ i =>
      have hi' : i < l.length := by simpa using hi
      rw [show (i + 1) * 4 + 3 = i * 4 + 3 + 1 + 1 + 1 + 1 from by omega]
      show tv (x :: l.set i ⟨l[i].sum, l[i].n, l[i].text, r⟩) = _
      rw [tv, tv, ih hi']
      rfl

theorem dropR_bad {l : List Bg.It} {id : Bg.Id} {E : Nat} (h : Bg.checkE Bg.Pr l = E) (h0 : E ≠ 0) : Bg.dropR Bg.Pr l id = ([], E) := by
  unfold Bg.dropR
  rw [h, if_pos h0]

theorem dropR_none {l : List Bg.It} {id : Bg.Id} (h : Bg.checkE Bg.Pr l = 0) (h0 : l.findIdx? (Bg.hit id) = none) : Bg.dropR Bg.Pr l id = ([], 4) := by
  unfold Bg.dropR
  rw [h, if_neg (fun h => h rfl), h0]

theorem dropR_one {l : List Bg.It} {id : Bg.Id} {i : Nat} (h : Bg.checkE Bg.Pr l = 0) (h0 : l.findIdx? (Bg.hit id) = some i) (hi : i < l.length) (h1 : l[i].refs = 1) : Bg.dropR Bg.Pr l id = (l.take i ++ l.drop (i + 1), 0) := by
  unfold Bg.dropR
  rw [h, if_neg (fun h => h rfl), h0]
  show (Bg.less l i, 0) = _
  unfold Bg.less
  rw [List.getElem?_eq_getElem hi]
  show (if l[i].refs = 1 then _ else _, 0) = _
  rw [if_pos h1]

theorem dropR_many {l : List Bg.It} {id : Bg.Id} {i : Nat} (h : Bg.checkE Bg.Pr l = 0) (h0 : l.findIdx? (Bg.hit id) = some i) (hi : i < l.length) (h1 : l[i].refs ≠ 1) : Bg.dropR Bg.Pr l id = (l.set i ⟨l[i].sum, l[i].n, l[i].text, l[i].refs - 1⟩, 0) := by
  unfold Bg.dropR
  rw [h, if_neg (fun h => h rfl), h0]
  show (Bg.less l i, 0) = _
  unfold Bg.less
  rw [List.getElem?_eq_getElem hi]
  show (if l[i].refs = 1 then _ else _, 0) = _
  rw [if_neg h1]

/-- What a call that makes a bag answers. -/
def BagTo (w : World) (l : List Bg.It) (E : Nat) (e : Ending) (w' : World) : Prop :=
  ∃ a n c, e = .returned (.tuple #[.slice a n c, .int .i64 E]) ∧ w'.ownsRow w.heap.size 61 4 (.slice a n c) n (tv l) ∧ l.length = n ∧ Below w.heap.size w w'

theorem bagTo_nil {w w' : World} {E : Nat} (hb : Below w.heap.size w w') : BagTo w [] E (.returned (.tuple #[.slice none 0 0, .int .i64 E])) w' :=
  ⟨none, 0, 0, rfl, World.ownsRow_nil _ _ _ _, rfl, hb⟩

set_option maxRecDepth 100000 in
set_option maxHeartbeats 4000000 in
theorem Drop_I (a : Option Addr) (n c : Nat) (ts : List Bg.It) (i : Bool) (x y : Int) (w : World) (hT : ISl w a n c ts) (hs : ∀ t ∈ ts, t.text.size ≤ maxLen) :
    Calls Try.prog 47 #[.slice a n c, .agg #[.bool i, .int .i64 x, .int .i64 y]] w (BagTo w (Bg.dropR Bg.Pr ts ⟨i, x, y⟩).1 (Bg.dropR Bg.Pr ts ⟨i, x, y⟩).2) := by
  have hB0 : Below w.heap.size w (w.alloc (.cells #[.bool i, .int .i64 x, .int .i64 y] 68)) := (Below.refl _ w).alloc (Nat.le_refl _) _
  have HN : Hid (∀ V, Below (w.alloc (.cells #[.bool i, .int .i64 x, .int .i64 y] 68)).heap.size (w.alloc (.cells #[.bool i, .int .i64 x, .int .i64 y] 68)) V → V.cell? ⟨w.heap.size, 0, none⟩ = some (.bool i) ∧ V.cell? ⟨w.heap.size, 1, none⟩ = some (.int .i64 x) ∧ V.cell? ⟨w.heap.size, 2, none⟩ = some (.int .i64 y)) := Lib.hid fun V hb => new3 hb
  have C1 := Check_I a n c ts (w.alloc (.cells #[.bool i, .int .i64 x, .int .i64 y] 68)) (hT.keep hB0) hs
  have HT := Lib.hid hT
  have HB := Lib.hid hB0
  clear hT hB0 hs
  obtain ⟨E, hE⟩ : ∃ E, Bg.checkE Bg.Pr ts = E := ⟨_, rfl⟩
  rw [hE] at C1
  by_cases h0 : E = 0
  · subst h0
    obtain ⟨r, hr⟩ : ∃ r, ts.findIdx? (Bg.hit ⟨i, x, y⟩) = r := ⟨_, rfl⟩
    have hn : n ≤ 64 := by rw [← HT.out.len]; exact Bg.check_len hE
    have F1 : ∀ V, Below w.heap.size w V → Calls Try.prog 42 #[.slice a n c, .agg #[.bool i, .int .i64 x, .int .i64 y]] V fun e w' => e = .returned (.int .i64 (idx (Bg.hit ⟨i, x, y⟩) ts)) ∧ Below V.heap.size V w' := fun V hb => Find_I a n c ts i x y V (HT.out.keep hb) (by omega)
    cases r with
    | none =>
      rw [dropR_none hE hr]
      rw [idx_none hr] at F1
      clear hE hr
      go_enter Try.func47, Try.ntmps47
      go_wp2_with fail
      with_reducible refine C1.mono ?_
      rintro e w1 ⟨rfl, hb1⟩
      obtain ⟨n0, n1, n2⟩ := HN.out w1 hb1
      have HB1 := Lib.hid (HB.out.trans (hb1.mono HB.out.size))
      clear hb1 C1
      go_wp2_with fail
      with_reducible refine (F1 _ HB1.out).mono ?_
      rintro e w2 ⟨rfl, hb2⟩
      have HB2 := Lib.hid (HB1.out.trans (hb2.mono HB1.out.size))
      clear hb2 F1 n0 n1 n2
      go_wp2_with fail
      go_ret2
      exact bagTo_nil HB2.out
    | some k =>
      obtain ⟨hi1, hk⟩ := idx_some hr
      have HD1 := Lib.hid (dropR_one hE hr hk)
      have HD2 := Lib.hid (dropR_many hE hr hk)
      rw [hi1] at F1
      have hkn : k < n := by rw [← HT.out.len]; exact hk
      have hf := Bg.one_fit (Bg.check_one hE (List.getElem_mem hk))
      have hf1 := hf.2.2.2.2.2.1
      have hf2 := hf.2.2.2.2.2.2
      have CL : ∀ V, Below w.heap.size w V → Calls Try.prog 59 #[.slice a n c] V fun e w' => ∃ v, e = .returned v ∧ w'.ownsRow V.heap.size 61 4 v n (tv ts) ∧ Below V.heap.size V w' := fun V hb => Clone_I a n c ts V (HT.out.keep hb) (by omega)
      clear hE hr hi1 hf
      go_enter Try.func47, Try.ntmps47
      go_wp2_with fail
      with_reducible refine C1.mono ?_
      rintro e w1 ⟨rfl, hb1⟩
      obtain ⟨n0, n1, n2⟩ := HN.out w1 hb1
      have HB1 := Lib.hid (HB.out.trans (hb1.mono HB.out.size))
      clear hb1 C1
      go_wp2_with fail
      with_reducible refine (F1 _ HB1.out).mono ?_
      rintro e w2 ⟨rfl, hb2⟩
      have HB2 := Lib.hid (HB1.out.trans (hb2.mono HB1.out.size))
      clear hb2 F1 n0 n1 n2
      go_wp2_with fail
      with_reducible refine (CL _ HB2.out).mono ?_
      rintro e w3 ⟨v, rfl, ho3, hb3⟩
      have HB3 := Lib.hid (HB2.out.trans (hb3.mono HB2.out.size))
      obtain ⟨g, c3, rfl, hg1, hg2⟩ := ho3.form (by omega)
      have HO3 := Lib.hid (own_low ho3 HB2.out.size)
      have hgw : w.heap.size ≤ g := Nat.le_trans HB2.out.size (row_base ho3 g rfl)
      clear hb3 CL ho3
      have s1 : w3.cell? ⟨g, k * 4 + 3, none⟩ = some (.int .i64 ts[k].refs) := by
        rw [HO3.out.cellAt _ (by omega), (tv_get (List.getElem?_eq_getElem hk)).2.2.2]
      have z1 := HO3.out.frozenAt (k * 4 + 3)
      have HO4 : Hid ((w3.setCell ⟨g, k * 4 + 3, none⟩ (.int .i64 (ts[k].refs - 1))).ownsRow w.heap.size 61 4 (.slice (some ⟨g, 0, none⟩) n c3) n (tv (ts.set k ⟨ts[k].sum, ts[k].n, ts[k].text, ts[k].refs - 1⟩))) := Lib.hid (by
        rw [tv_set_refs hk]
        exact (HO3.out.stored (k * 4 + 3) (.int .i64 (ts[k].refs - 1))).1)
      have HB4 : Hid (Below w.heap.size w (w3.setCell ⟨g, k * 4 + 3, none⟩ (.int .i64 (ts[k].refs - 1)))) := Lib.hid (HB3.out.setCell hgw _)
      have HTL : Hid (tv ((ts.set k ⟨ts[k].sum, ts[k].n, ts[k].text, ts[k].refs - 1⟩).take k ++ (ts.set k ⟨ts[k].sum, ts[k].n, ts[k].text, ts[k].refs - 1⟩).drop (k + 1)) = tv (ts.take k ++ ts.drop (k + 1))) := Lib.hid (by
        rw [List.take_set_of_le (Nat.le_refl _), List.drop_set_of_lt (Nat.lt_succ_self _)])
      by_cases h1 : ts[k].refs = 1
      · have HD := Lib.hid (HD1.out h1)
        rw [h1, show (1 : Int) - 1 = 0 from rfl] at HO4 HB4 HTL
        rw [h1] at s1
        have D1 := Delete_I g c3 n k (n - (k + 1)) w.heap.size _ _ HO4.out (by omega) (by omega) w HB4.out HB4.out.size
        have HLL : Hid ((ts.take k ++ ts.drop (k + 1)).length = k + (n - (k + 1))) := Lib.hid (by rw [List.length_append, List.length_take, List.length_drop, HT.out.len]; omega)
        clear h1 HD1 HD2 hf1 hf2
        go_wp2_with fail
        with_reducible refine D1.mono ?_
        rintro e w5 ⟨rfl, ho5, hb5⟩
        have HO5 := Lib.hid ho5
        have HB5 := Lib.hid hb5
        clear ho5 hb5 D1 s1 z1
        go_wp2_with fail
        go_ret2
        rw [HD.out]
        exact ⟨_, _, _, rfl, HTL.out ▸ HO5.out, HLL.out, HB5.out⟩
      · have HD := Lib.hid (HD2.out h1)
        have HLL : Hid ((ts.set k ⟨ts[k].sum, ts[k].n, ts[k].text, ts[k].refs - 1⟩).length = n) := Lib.hid (by rw [List.length_set, HT.out.len])
        have hz1 : (ts[k].refs - 1 == 0) = false := beq_eq_false_iff_ne.2 (by omega)
        clear HD1 HD2 HTL h1
        generalize ts[k].refs = f4 at *
        go_wp2_with fail
        go_ret2
        rw [HD.out]
        exact ⟨_, _, _, rfl, HO4.out, HLL.out, HB4.out⟩
  · rw [dropR_bad (id := ⟨i, x, y⟩) hE h0]
    have hb : ((E : Int) != 0) = true := bne_iff_ne.2 (by omega)
    clear hE h0
    go_enter Try.func47, Try.ntmps47
    go_wp2_with fail
    with_reducible refine C1.mono ?_
    rintro e w1 ⟨rfl, hb1⟩
    have HB1 := Lib.hid (HB.out.trans (hb1.mono HB.out.size))
    clear hb1 C1
    go_wp2_with fail
    go_ret2
    exact bagTo_nil HB1.out

end Go.Proofs.Ythccdoejnklidaa
