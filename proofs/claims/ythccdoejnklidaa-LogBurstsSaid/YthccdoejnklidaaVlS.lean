/- The walks of vol.add's order and of slices.BinarySearchFunc at volumes. -/
import Derived.Test.YthccdoejnklidaaVlD
import Derived.Test.YthccdoejnklidaaShelf
import Derived.Deep.RegionHeld3
namespace Go.Proofs.Ythccdoejnklidaa
open Go.RowKit

set_option maxHeartbeats 1000000 in
theorem cmpV_I (z z' : ByteArray) (va va' : Option Addr) (vn vc vn' vc' : Nat) (w : World) :
    Calls Try.prog 56 #[.agg #[.string z, .slice va vn vc], .agg #[.string z', .slice va' vn' vc']] w fun e w' => e = .returned (.int .i64 (Vo.cmpN z z')) ∧ Below w.heap.size w w' := by
  have HB : Hid (Below w.heap.size w ((w.alloc (.cells #[.string z, .slice va vn vc] 65)).alloc (.cells #[.string z', .slice va' vn' vc'] 65))) :=
    Lib.hid (((Below.refl _ w).alloc (Nat.le_refl _) _).alloc (by rw [World.size_alloc]; omega) _)
  have HC := fun w => Try.strings_Compare z z' w
  unfold Vo.cmpN
  go_enter Try.func56, Try.ntmps56
  go_wp2_with fail
  with_reducible refine (HC _).mono ?_
  rintro e w' ⟨rfl, rfl⟩
  go_wp2_with fail
  go_ret
  exact ⟨rfl, HB.out⟩

/-- Cells of a box of the call's own, and of a volume; what stands below. -/
abbrev S4 (w : World) (B b o : Nat) (v0 v1 u0 u1 : Value) (V : World) : Prop :=
  V.cell? ⟨B, 0, none⟩ = some v0 ∧ V.cell? ⟨B, 1, none⟩ = some v1 ∧ V.cell? ⟨b, o, none⟩ = some u0 ∧ V.cell? ⟨b, o + 1, none⟩ = some u1 ∧ Below w.heap.size w V

theorem S4.on {w : World} {B b o : Nat} {v0 v1 u0 u1 : Value} {V V' : World} (h : S4 w B b o v0 v1 u0 u1 V) (hb : Below V.heap.size V V') : S4 w B b o v0 v1 u0 u1 V' := by
  obtain ⟨a0, a1, b0, b1, hB⟩ := h
  have k : ∀ {p : Addr} {x : Value}, V.cell? p = some x → V'.cell? p = some x := fun h => by rw [hb.cell (World.block_lt_of_cell? V _ h)]; exact h
  exact ⟨k a0, k a1, k b0, k b1, hB.trans (hb.mono hB.size)⟩

theorem S4.drew {w : World} {B b o : Nat} {v0 v1 u0 u1 : Value} {V : World} (h : S4 w B b o v0 v1 u0 u1 V) : S4 w B b o v0 v1 u0 u1 V.drew := h.on (Below.refl _ V).drew

set_option maxRecDepth 100000 in
set_option maxHeartbeats 4000000 in
theorem Search_V (z : ByteArray) (va : Option Addr) (vn vc : Nat) (a : Option Addr) (n c base : Nat) (rs : List Rw) (w : World) (hT : w.ownsRow base 65 2 (.slice a n c) n (rv rs)) (hl : rs.length = n) (hn : n ≤ 64) (hi : rs.Pairwise fun s t => Vo.cmpN s.name t.name < 0) :
    Calls Try.prog 55 #[.slice a n c, .agg #[.string z, .slice va vn vc], .func (.func 56) #[] #[]] w fun e w' =>
      ∃ (k : Nat) (b : Bool), e = .returned (.tuple #[.int .i64 k, .bool b]) ∧ k ≤ n ∧ (∀ m (hm : m < rs.length), m < k → Vo.cmpN rs[m].name z < 0) ∧ (∀ m (hm : m < rs.length), k ≤ m → 0 ≤ Vo.cmpN rs[m].name z) ∧ Below w.heap.size w w' := by
  have HT := Lib.hid hT; have HI := Lib.hid hi; have HLN := Lib.hid hl
  have hB0 : Below w.heap.size w (w.alloc (.cells #[.string z, .slice va vn vc] 65)) := (Below.refl _ w).alloc (Nat.le_refl _) _
  have HB0 := Lib.hid hB0
  have HN : Hid (∀ V, Below (w.alloc (.cells #[.string z, .slice va vn vc] 65)).heap.size (w.alloc (.cells #[.string z, .slice va vn vc] 65)) V → V.cell? ⟨w.heap.size, 0, none⟩ = some (.string z) ∧ V.cell? ⟨w.heap.size, 1, none⟩ = some (.slice va vn vc)) := Lib.hid fun V hb => by
    have k : ∀ {p : Addr} {v : Value}, (w.alloc (.cells #[.string z, .slice va vn vc] 65)).cell? p = some v → V.cell? p = some v := fun h => by rw [hb.cell (World.block_lt_of_cell? _ _ h)]; exact h
    exact ⟨k (cell_new w (k := 0) rfl), k (cell_new w (k := 1) rfl)⟩
  clear hT hi hB0 hl
  go_enter Try.func55, Try.ntmps55
  go_wp2_with fail
  go_loopw [9, 10] (fun vi vj wr => ∃ i j : Nat, i ≤ j ∧ j ≤ n ∧ vi = .int .i64 i ∧ vj = .int .i64 j ∧ Hid (∀ m (hm : m < rs.length), m < i → Vo.cmpN rs[m].name z < 0) ∧ Hid (∀ m (hm : m < rs.length), j ≤ m → 0 ≤ Vo.cmpN rs[m].name z) ∧ Hid (Below (w.alloc (.cells #[.string z, .slice va vn vc] 65)).heap.size (w.alloc (.cells #[.string z, .slice va vn vc] 65)) wr)) (fun vi vj _ => (intOf vj).toNat - (intOf vi).toNat)
  case atStart => exact ⟨0, n, Nat.zero_le _, Nat.le_refl _, rfl, rfl, Lib.hid fun m hm h => absurd h (Nat.not_lt_zero _), Lib.hid fun m hm h => absurd hm (by rw [HLN.out]; omega), Lib.hid (Below.refl _ _)⟩
  case round =>
    obtain ⟨i, j, hij, hj, rfl, rfl, hA, hC, hB⟩ := hrel
    have BW := Lib.hid (HB0.out.trans (hB.out.mono HB0.out.size))
    obtain ⟨k0, k1⟩ := HN.out wr hB.out
    by_cases hlt : i < j
    · obtain ⟨h, hh⟩ : ∃ h, (i + j) / 2 = h := ⟨_, rfl⟩
      have h1 : i ≤ h := by omega
      have h2 : h < j := by omega
      have hk' : h < rs.length := by rw [HLN.out]; omega
      obtain ⟨X, rfl, hX, c1, c2⟩ := rv_at (own_keep HT.out BW.out) hk'
      have K1 := fun w => cmpV_I rs[h].name z rs[h].a va rs[h].n rs[h].c vn vc w
      have eh : ((i : Int) + (j : Int)) / 2 = (h : Int) := by omega
      have HL : Hid (Vo.cmpN rs[h].name z < 0 → ∀ m (hm : m < rs.length), m < h + 1 → Vo.cmpN rs[m].name z < 0) := Lib.hid fun hlt m hm hmh => by
        by_cases e : m = h
        · subst e; exact hlt
        · exact Vo.cmp_trans ((List.pairwise_iff_getElem.1 HI.out) m h hm hk' (by omega)) hlt
      have HR : Hid (0 ≤ Vo.cmpN rs[h].name z → ∀ m (hm : m < rs.length), h ≤ m → 0 ≤ Vo.cmpN rs[m].name z) := Lib.hid fun hge m hm hmh => by
        by_cases e : m = h
        · subst e; exact hge
        · have h7 := (List.pairwise_iff_getElem.1 HI.out) h m hk' hm (by omega)
          rcases Int.lt_or_le (Vo.cmpN rs[m].name z) 0 with h9 | h9
          · have := Vo.cmp_trans h7 h9; omega
          · exact h9
      clear hh
      generalize rs[h].name = f1 at *
      generalize rs[h].a = f2 at *
      generalize rs[h].n = f3 at *
      generalize rs[h].c = f4 at *
      generalize Vo.cmpN f1 z = d at *
      have HS : Hid (S4 w w.heap.size X (h * 2) (.string z) (.slice va vn vc) (.string f1) (.slice f2 f3 f4) wr) := Lib.hid ⟨k0, k1, c1, c2, BW.out⟩
      have e1 : (0 : Int) ≤ (h : Int) := by omega
      have e2 : (h : Int) < (n : Int) := by omega
      have e3 : h < n := by omega
      by_cases hp : d < 0
      · have HL' := Lib.hid (HL.out hp)
        clear HL HR
        go_wp2_with fail
        go_region_held3 (fun V => V.cell? ⟨w.heap.size, 0, none⟩ = some (.string z) ∧ V.cell? ⟨w.heap.size, 1, none⟩ = some (.slice va vn vc) ∧ V.cell? ⟨X, h * 2, none⟩ = some (.string f1) ∧ V.cell? ⟨X, h * 2 + 1, none⟩ = some (.slice f2 f3 f4) ∧ Below w.heap.size w V)
          (first | with_reducible exact HSS.out | with_reducible exact S4.drew HS.out | with_reducible exact HS.out)
          ((go_at_call 56; with_reducible refine (K1 _).mono ?_; rintro e ws ⟨rfl, hbs⟩; have HSS := Lib.hid (S4.on (S4.drew HS.out) hbs)))
        have HB' := Lib.hid (hB.out.trans ((show Below wr.heap.size wr ws from (Below.refl _ wr).drew.trans hbs).mono hB.out.size))
        clear hbs K1
        go_wp2_with fail
        go_roundw
        case rel => exact ⟨h + 1, j, h2, hj, by go_num, rfl, HL', hC, HB'⟩
        case measure => simp [intOf]; omega
      · have hd : 0 ≤ d := by omega
        have HR' := Lib.hid (HR.out (by omega))
        clear HL HR hp
        go_wp2_with fail
        go_region_held3 (fun V => V.cell? ⟨w.heap.size, 0, none⟩ = some (.string z) ∧ V.cell? ⟨w.heap.size, 1, none⟩ = some (.slice va vn vc) ∧ V.cell? ⟨X, h * 2, none⟩ = some (.string f1) ∧ V.cell? ⟨X, h * 2 + 1, none⟩ = some (.slice f2 f3 f4) ∧ Below w.heap.size w V)
          (first | with_reducible exact HSS.out | with_reducible exact S4.drew HS.out | with_reducible exact HS.out)
          ((go_at_call 56; with_reducible refine (K1 _).mono ?_; rintro e ws ⟨rfl, hbs⟩; have HSS := Lib.hid (S4.on (S4.drew HS.out) hbs)))
        have HB' := Lib.hid (hB.out.trans ((show Below wr.heap.size wr ws from (Below.refl _ wr).drew.trans hbs).mono hB.out.size))
        clear hbs K1
        go_wp2_with fail
        go_roundw
        case rel => exact ⟨i, h, h1, by omega, rfl, rfl, hA, HR', HB'⟩
        case measure => simp [intOf]; omega
    · obtain rfl : i = j := by omega
      by_cases hin : i < n
      · have hk' : i < rs.length := by rw [HLN.out]; omega
        obtain ⟨X, rfl, hX, c1, c2⟩ := rv_at (own_keep HT.out BW.out) hk'
        have K1 := fun w => cmpV_I rs[i].name z rs[i].a va rs[i].n rs[i].c vn vc w
        generalize rs[i].name = f1 at *
        generalize rs[i].a = f2 at *
        generalize rs[i].n = f3 at *
        generalize rs[i].c = f4 at *
        generalize Vo.cmpN f1 z = d at *
        have HS : Hid (S4 w w.heap.size X (i * 2) (.string z) (.slice va vn vc) (.string f1) (.slice f2 f3 f4) wr) := Lib.hid ⟨k0, k1, c1, c2, BW.out⟩
        have e1 : (0 : Int) ≤ (i : Int) := by omega
        have e2 : (i : Int) < (n : Int) := by omega
        go_wp2_with fail
        go_region_held3 (fun V => V.cell? ⟨w.heap.size, 0, none⟩ = some (.string z) ∧ V.cell? ⟨w.heap.size, 1, none⟩ = some (.slice va vn vc) ∧ V.cell? ⟨X, i * 2, none⟩ = some (.string f1) ∧ V.cell? ⟨X, i * 2 + 1, none⟩ = some (.slice f2 f3 f4) ∧ Below w.heap.size w V)
          (first | with_reducible exact HSS.out | with_reducible exact S4.drew HS.out | with_reducible exact HS.out)
          ((go_at_call 56; with_reducible refine (K1 _).mono ?_; rintro e ws ⟨rfl, hbs⟩; have HSS := Lib.hid (S4.on (S4.drew HS.out) hbs)))
        go_wp2_with fail
        go_ret2
        exact ⟨i, _, rfl, hj, hA.out, hC.out, HSS.out.2.2.2.2⟩
      · clear k0 k1
        have e4 : ¬ ((i : Int) < (n : Int)) := by omega
        go_wp2_with fail
        go_quiet (fail)
        go_wp2_with fail
        go_ret2
        exact ⟨i, _, rfl, hj, hA.out, hC.out, below_drewN BW.out _⟩

end Go.Proofs.Ythccdoejnklidaa
