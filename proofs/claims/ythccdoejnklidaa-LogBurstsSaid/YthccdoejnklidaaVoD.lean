/- The walks of vol.Blocks, vol.place, vol.Read on right states. -/
import Derived.Test.YthccdoejnklidaaVoC
namespace Go.Proofs.Ythccdoejnklidaa
open Go.RowKit

/-- What a call that answers ids and an error leaves. -/
def IdsTo (w : World) (R : List Bg.Id × Nat) (e : Ending) (w' : World) : Prop :=
  ∃ a n c, e = .returned (.tuple #[.slice a n c, .int .i64 R.2]) ∧ w'.ownsRow w.heap.size 68 3 (.slice a n c) n (dv R.1) ∧ R.1.length = n ∧ Below w.heap.size w w'

theorem blocks_none {s : Vo.St} {name : ByteArray} (h : Vo.find s.vols name = none) : Vo.blocksR s name = ([], 4) := by unfold Vo.blocksR; rw [h]
theorem blocks_some {s : Vo.St} {name : ByteArray} {i : Nat} (h : Vo.find s.vols name = some i) (hi : i < s.vols.length) : Vo.blocksR s name = (s.vols[i].ids, 0) := by
  unfold Vo.blocksR
  rw [h]
  simp only [List.getElem?_eq_getElem hi]

theorem placeE_none {s : Vo.St} {name : ByteArray} {k : Int} (h : Vo.find s.vols name = none) : Vo.placeE s name k = 4 := by unfold Vo.placeE; rw [h]
theorem placeE_some {s : Vo.St} {name : ByteArray} {k : Int} {i : Nat} (h : Vo.find s.vols name = some i) (hi : i < s.vols.length) : Vo.placeE s name k = if k < 0 ∨ (s.vols[i].ids.length : Int) ≤ k then 1 else 0 := by
  unfold Vo.placeE
  rw [h]
  simp only [List.getElem?_eq_getElem hi]
theorem fd_some {s : Vo.St} {name : ByteArray} {i : Nat} (h : Vo.find s.vols name = some i) : Vo.fd s name = i := by unfold Vo.fd; rw [h]; rfl

/-- What place answers first. -/
def Vo.placeI (s : Vo.St) (name : ByteArray) (k : Int) : Nat := if Vo.placeE s name k = 0 then Vo.fd s name else 0

set_option maxRecDepth 100000 in
set_option maxHeartbeats 4000000 in
theorem place_V (a b : Option Addr) (n c m d base : Nat) (rs : List Rw) (s : Vo.St) (name : ByteArray) (k : Int) (w : World) (hS : StW w base a n c b m d rs s) (hR : Vo.Right s) :
    Calls Try.prog 49 #[.agg #[.slice a n c, .slice b m d], .string name, .int .i64 k] w fun e w' => e = .returned (.tuple #[.int .i64 (Vo.placeI s name k), .int .i64 (Vo.placeE s name k)]) ∧ Below w.heap.size w w' := by
  have hm : m ≤ 6 := by rw [← hS.vlen]; exact hR.len
  have hB : Below w.heap.size w (w.alloc (.cells #[.slice a n c, .slice b m d] 32)) := (Below.refl _ w).alloc (Nat.le_refl _) _
  have hX := bxs_new w 32 #[.slice a n c, .slice b m d] [.slice a n c, .slice b m d] rfl
  have C1 := Check_V a b n c m d base rs s _ (hS.keep hB) hR
  have F1 : ∀ W, Below w.heap.size w W → Calls Try.prog 46 #[.agg #[.slice a n c, .slice b m d], .string name] W fun e w' => e = .returned (.int .i64 (Vo.findI s.vols name)) ∧ Below W.heap.size W w' := fun W hb => find_V a b n c m d base rs s name W (hS.keep hb) (by omega)
  have HS := Lib.hid hS; have HB := Lib.hid hB; have HX := Lib.hid hX; have HR := Lib.hid hR
  have c0 := hX.c 0 _ rfl; have c1 := hX.c 1 _ rfl
  clear hS hB hX hR
  unfold Vo.placeI
  cases hf : Vo.find s.vols name with
  | none =>
    rw [findI_none hf] at F1
    rw [placeE_none hf]
    clear hf
    go_enter Try.func49, Try.ntmps49
    go_wp2_with fail
    with_reducible refine C1.mono ?_
    rintro e w1 ⟨rfl, hb1⟩
    have HB1 := Lib.hid (HB.out.trans (hb1.mono HB.out.size))
    have HX1 := Lib.hid (HX.out.on hb1)
    clear c0 c1 hb1 C1
    have c0 := HX1.out.c 0 _ rfl; have c1 := HX1.out.c 1 _ rfl
    go_wp2_with fail
    with_reducible refine (F1 _ HB1.out).mono ?_
    rintro e w2 ⟨rfl, hb2⟩
    have HB2 := Lib.hid (HB1.out.trans (hb2.mono HB1.out.size))
    clear c0 c1 hb2 F1
    go_wp2_with fail
    go_ret2
    exact ⟨rfl, HB2.out⟩
  | some i =>
    obtain ⟨hfi, hi⟩ := findI_some hf
    rw [hfi] at F1
    rw [placeE_some hf hi, fd_some hf]
    have hir : i < rs.length := by rw [HS.out.rlen, ← HS.out.vlen]; exact hi
    have him : i < m := by rw [← HS.out.vlen]; exact hi
    obtain ⟨e1, e2, e3⟩ := HS.out.vol i rs[i] s.vols[i] (List.getElem?_eq_getElem hir) (List.getElem?_eq_getElem hi)
    have hn1 : rs[i].n ≤ 32 := by rw [← e3]; exact (HR.out.vol s.vols[i] (List.getElem_mem hi)).len
    rw [e3]
    clear e1 e2 e3 hf hfi
    obtain ⟨E, hE⟩ : ∃ E, (if k < 0 ∨ (rs[i].n : Int) ≤ k then 1 else 0 : Nat) = E := ⟨_, rfl⟩
    rw [hE]
    have HE := Lib.hid hE
    clear hE
    go_enter Try.func49, Try.ntmps49
    go_wp2_with fail
    with_reducible refine C1.mono ?_
    rintro e w1 ⟨rfl, hb1⟩
    have HB1 := Lib.hid (HB.out.trans (hb1.mono HB.out.size))
    have HX1 := Lib.hid (HX.out.on hb1)
    clear c0 c1 hb1 C1
    have c0 := HX1.out.c 0 _ rfl; have c1 := HX1.out.c 1 _ rfl
    go_wp2_with fail
    with_reducible refine (F1 _ HB1.out).mono ?_
    rintro e w2 ⟨rfl, hb2⟩
    have HB2 := Lib.hid (HB1.out.trans (hb2.mono HB1.out.size))
    have HX2 := Lib.hid (HX1.out.on hb2)
    clear c0 c1 hb2 F1
    obtain ⟨g, rfl, hg, d0, d1⟩ := rv_at (own_keep HS.out.row HB2.out) hir
    have c1 := HX2.out.c 1 _ rfl
    generalize rs[i].name = f1 at *
    generalize rs[i].a = f2 at *
    generalize rs[i].n = f3 at *
    generalize rs[i].c = f4 at *
    by_cases hk0 : k < 0
    · obtain rfl : E = 1 := by rw [← HE.out, if_pos (Or.inl hk0)]
      clear HE
      go_wp2_with fail
      go_ret2
      exact ⟨rfl, HB2.out⟩
    · have hk1 : 0 ≤ k := by omega
      by_cases hk2 : (f3 : Int) ≤ k
      · obtain rfl : E = 1 := by rw [← HE.out, if_pos (Or.inr hk2)]
        clear HE hk0
        go_wp2_with fail
        go_ret2
        exact ⟨rfl, HB2.out⟩
      · obtain rfl : E = 0 := by rw [← HE.out, if_neg (by omega)]
        have hk3 : k < (f3 : Int) := by omega
        clear HE hk0 hk2
        go_wp2_with fail
        go_ret2
        exact ⟨rfl, HB2.out⟩

/-- What place finds. -/
theorem place_ok {s : Vo.St} {name : ByteArray} {k : Int} (h : Vo.placeE s name k = 0) : ∃ (i j : Nat) (hi : i < s.vols.length), Vo.find s.vols name = some i ∧ k = (j : Int) ∧ j < s.vols[i].ids.length ∧ Vo.fd s name = i ∧ Vo.placeI s name k = i := by
  cases hf : Vo.find s.vols name with
  | none => rw [placeE_none hf] at h; cases h
  | some i =>
    obtain ⟨hfi, hi⟩ := findI_some hf
    have h' := h
    rw [placeE_some hf hi] at h
    split at h
    · cases h
    · refine ⟨i, k.toNat, hi, rfl, by omega, by omega, fd_some hf, ?_⟩
      unfold Vo.placeI
      rw [if_pos h', fd_some hf]

theorem idAt_is {s : Vo.St} {i j : Nat} (hi : i < s.vols.length) (hj : j < s.vols[i].ids.length) : Vo.idAt s i j = s.vols[i].ids[j] := by
  unfold Vo.idAt
  rw [getD_in _ _ _ hi, getD_in _ _ _ hj]

theorem readR_bad {s : Vo.St} {name : ByteArray} {k : Int} (h : Vo.placeE s name k ≠ 0) : Vo.readR s name k = (Bg.noText, Vo.placeE s name k) := by unfold Vo.readR; rw [if_pos h]
theorem readR_ok {s : Vo.St} {name : ByteArray} {i j : Nat} (h : Vo.placeE s name (j : Int) = 0) (hf : Vo.fd s name = i) : Vo.readR s name (j : Int) = if (Vo.idAt s i j).is = true then Bg.getR Bg.Pr s.bag (Vo.idAt s i j) else (Bg.noText, 0) := by
  unfold Vo.readR
  rw [if_neg (fun h' => h' h), hf]
  rfl

end Go.Proofs.Ythccdoejnklidaa
