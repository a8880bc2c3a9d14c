/- The walk of bag.Get. -/
import Derived.Test.YteddendidjhmbaaBgW3
import Derived.Test.YteddendidjhmbaaBgP3
namespace Go.Proofs.Yteddendidjhmbaa
open Go.RowKit

theorem getR_bad {l : List Bg.It} {id : Bg.Id} {E : Nat} (h : Bg.checkE Bg.Pr l = E) (h0 : E ≠ 0) : Bg.getR Bg.Pr l id = (Bg.noText, E) := by
  unfold Bg.getR
  rw [h, if_pos h0]

theorem getR_none {l : List Bg.It} {id : Bg.Id} (h : Bg.checkE Bg.Pr l = 0) (h0 : l.findIdx? (Bg.hit id) = none) : Bg.getR Bg.Pr l id = (Bg.noText, 4) := by
  unfold Bg.getR
  rw [h, if_neg (fun h => h rfl), h0]

theorem getR_some {l : List Bg.It} {id : Bg.Id} {i : Nat} (h : Bg.checkE Bg.Pr l = 0) (h0 : l.findIdx? (Bg.hit id) = some i) (hi : i < l.length) : Bg.getR Bg.Pr l id = (l[i].text, 0) := by
  unfold Bg.getR
  rw [h, if_neg (fun h => h rfl), h0]
  simp only [List.getElem?_eq_getElem hi]

theorem idx_none {p : Bg.It → Bool} {ts : List Bg.It} (h : ts.findIdx? p = none) : idx p ts = -1 := by unfold idx; rw [h]
theorem idx_some {p : Bg.It → Bool} {ts : List Bg.It} {i : Nat} (h : ts.findIdx? p = some i) : idx p ts = (i : Int) ∧ i < ts.length := by
  refine ⟨by unfold idx; rw [h], ?_⟩
  exact (List.findIdx?_eq_some_iff_getElem.1 h).1

set_option maxRecDepth 100000 in
set_option maxHeartbeats 2000000 in
theorem Get_I (a : Option Addr) (n c : Nat) (ts : List Bg.It) (i : Bool) (x y : Int) (w : World) (hT : ISl w a n c ts) (hs : ∀ t ∈ ts, t.text.size ≤ maxLen) :
    Calls Try.prog 24 #[.slice a n c, .agg #[.bool i, .int .i64 x, .int .i64 y]] w fun e w' => e = .returned (.tuple #[.string (Bg.getR Bg.Pr ts ⟨i, x, y⟩).1, .int .i64 (Bg.getR Bg.Pr ts ⟨i, x, y⟩).2]) ∧ Below w.heap.size w w' := by
  have hB0 : Below w.heap.size w (w.alloc (.cells #[.bool i, .int .i64 x, .int .i64 y] 26)) := (Below.refl _ w).alloc (Nat.le_refl _) _
  have HN : Hid (∀ V, Below (w.alloc (.cells #[.bool i, .int .i64 x, .int .i64 y] 26)).heap.size (w.alloc (.cells #[.bool i, .int .i64 x, .int .i64 y] 26)) V → V.cell? ⟨w.heap.size, 0, none⟩ = some (.bool i) ∧ V.cell? ⟨w.heap.size, 1, none⟩ = some (.int .i64 x) ∧ V.cell? ⟨w.heap.size, 2, none⟩ = some (.int .i64 y)) := Lib.hid fun V hb => new3 hb
  have C1 := Check_I a n c ts (w.alloc (.cells #[.bool i, .int .i64 x, .int .i64 y] 26)) (hT.keep hB0) hs
  have HT := Lib.hid hT
  have HB := Lib.hid hB0
  clear hT hB0 hs
  obtain ⟨E, hE⟩ : ∃ E, Bg.checkE Bg.Pr ts = E := ⟨_, rfl⟩
  rw [hE] at C1
  by_cases h0 : E = 0
  · subst h0
    obtain ⟨r, hr⟩ : ∃ r, ts.findIdx? (Bg.hit ⟨i, x, y⟩) = r := ⟨_, rfl⟩
    have hn : n ≤ 64 := by rw [← HT.out.len]; exact Bg.check_len hE
    have F1 : ∀ V, Below w.heap.size w V → Calls Try.prog 61 #[.slice a n c, .agg #[.bool i, .int .i64 x, .int .i64 y]] V fun e w' => e = .returned (.int .i64 (idx (Bg.hit ⟨i, x, y⟩) ts)) ∧ Below V.heap.size V w' := fun V hb => Find_I a n c ts i x y V (HT.out.keep hb) (by omega)
    cases r with
    | none =>
      have HR := Lib.hid (getR_none hE hr)
      rw [idx_none hr] at F1
      clear hE hr
      go_enter Try.func24, Try.ntmps24
      go_wp2_with fail
      with_reducible refine C1.mono ?_
      rintro e w1 ⟨rfl, hb1⟩
      obtain ⟨n0, n1, n2⟩ := HN.out w1 hb1
      have HB1 := Lib.hid (HB.out.trans (hb1.mono HB.out.size))
      clear hb1 C1
      go_wp2_with fail
      with_reducible refine (F1 _ HB1.out).mono ?_
      rintro e w2 ⟨rfl, hb2⟩
      have HB2 := Lib.hid (HB1.out.trans (hb2.mono HB1.out.size))
      clear hb2 F1 n0 n1 n2
      go_wp2_with fail
      go_ret2
      exact ⟨by rw [HR.out]; rfl, HB2.out⟩
    | some k =>
      obtain ⟨hi1, hk⟩ := idx_some hr
      have HR := Lib.hid (getR_some hE hr hk)
      rw [hi1] at F1

      have hkn : k < n := by rw [← HT.out.len]; exact hk
      clear hE hr hi1
      go_enter Try.func24, Try.ntmps24
      go_wp2_with fail
      with_reducible refine C1.mono ?_
      rintro e w1 ⟨rfl, hb1⟩
      obtain ⟨n0, n1, n2⟩ := HN.out w1 hb1
      have HB1 := Lib.hid (HB.out.trans (hb1.mono HB.out.size))
      clear hb1 C1
      go_wp2_with fail
      with_reducible refine (F1 _ HB1.out).mono ?_
      rintro e w2 ⟨rfl, hb2⟩
      have HB2 := Lib.hid (HB1.out.trans (hb2.mono HB1.out.size))
      obtain ⟨X, b, o, s, rfl, hX, c1, c2, c3, c4⟩ := (HT.out.keep HB2.out).get hk
      clear hb2 F1 n0 n1 n2
      generalize ts[k].sum = f1 at *
      generalize ts[k].n = f2 at *
      generalize ts[k].text = f3 at *
      generalize ts[k].refs = f4 at *
      go_wp2_with fail
      go_ret2
      exact ⟨by rw [HR.out]; rfl, HB2.out⟩
  · have HR := Lib.hid (getR_bad (id := ⟨i, x, y⟩) hE h0)
    have hb : ((E : Int) != 0) = true := bne_iff_ne.2 (by omega)
    clear hE h0
    go_enter Try.func24, Try.ntmps24
    go_wp2_with fail
    with_reducible refine C1.mono ?_
    rintro e w1 ⟨rfl, hb1⟩
    have HB1 := Lib.hid (HB.out.trans (hb1.mono HB.out.size))
    clear hb1 C1
    go_wp2_with fail
    go_ret2
    exact ⟨by rw [HR.out]; rfl, HB1.out⟩

end Go.Proofs.Yteddendidjhmbaa
