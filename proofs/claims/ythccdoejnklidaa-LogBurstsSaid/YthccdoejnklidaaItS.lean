/- The walks of bag.cmp and of slices.BinarySearchFunc at items. -/
import Derived.Test.YthccdoejnklidaaItD
import Derived.Deep.RegionHeld3
namespace Go.Proofs.Ythccdoejnklidaa
open Go.RowKit

/-- An item within bounds. -/
def Bg.Fit (x : Bg.It) : Prop := 0 ≤ x.sum ∧ x.sum ≤ 70000 ∧ 0 ≤ x.n ∧ x.n ≤ 64

theorem Bg.cmp_lt {a b : Bg.It} : Bg.cmp a b < 0 ↔ a.sum < b.sum ∨ (a.sum = b.sum ∧ a.n < b.n) := by
  unfold Bg.cmp
  split <;> omega

theorem Bg.cmp_zero {a b : Bg.It} : Bg.cmp a b = 0 ↔ a.sum = b.sum ∧ a.n = b.n := by
  unfold Bg.cmp
  split <;> omega

set_option maxHeartbeats 1000000 in
theorem cmp_I (s n r s' n' r' : Int) (t t' : ByteArray) (w : World) (h : Bg.Fit ⟨s, n, t, r⟩) (h' : Bg.Fit ⟨s', n', t', r'⟩) :
    Calls Try.prog 38 #[.agg #[.int .i64 s, .int .i64 n, .string t, .int .i64 r], .agg #[.int .i64 s', .int .i64 n', .string t', .int .i64 r']] w fun e w' => e = .returned (.int .i64 (Bg.cmp ⟨s, n, t, r⟩ ⟨s', n', t', r'⟩)) ∧ Below w.heap.size w w' := by
  obtain ⟨h1, h2, h3, h4⟩ := h
  obtain ⟨g1, g2, g3, g4⟩ := h'
  dsimp only at h1 h2 h3 h4 g1 g2 g3 g4
  have HB : Hid (Below w.heap.size w ((w.alloc (.cells #[.int .i64 s, .int .i64 n, .string t, .int .i64 r] 61)).alloc (.cells #[.int .i64 s', .int .i64 n', .string t', .int .i64 r'] 61))) :=
    Lib.hid (((Below.refl _ w).alloc (Nat.le_refl _) _).alloc (by rw [World.size_alloc]; omega) _)
  by_cases e : s = s'
  · have hc : Bg.cmp ⟨s, n, t, r⟩ ⟨s', n', t', r'⟩ = n - n' := by unfold Bg.cmp; rw [if_pos e]
    rw [hc]
    subst e
    clear hc
    go_enter Try.func38, Try.ntmps38
    go_wp2_with fail
    go_ret
    exact ⟨rfl, HB.out⟩
  · have hc : Bg.cmp ⟨s, n, t, r⟩ ⟨s', n', t', r'⟩ = s - s' := by unfold Bg.cmp; rw [if_neg e]
    rw [hc]
    clear hc
    go_enter Try.func38, Try.ntmps38
    go_wp2_with fail
    go_ret
    exact ⟨rfl, HB.out⟩

/-- Four cells of a box of the call's own, and four of an item; what stands below. -/
abbrev S8 (w : World) (B b o : Nat) (s : Option Nat) (v0 v1 v2 v3 u0 u1 u2 u3 : Value) (V : World) : Prop :=
  V.cell? ⟨B, 0, none⟩ = some v0 ∧ V.cell? ⟨B, 1, none⟩ = some v1 ∧ V.cell? ⟨B, 2, none⟩ = some v2 ∧ V.cell? ⟨B, 3, none⟩ = some v3 ∧ V.cell? ⟨b, o, s⟩ = some u0 ∧ V.cell? ⟨b, o + 1, none⟩ = some u1 ∧ V.cell? ⟨b, o + 2, none⟩ = some u2 ∧ V.cell? ⟨b, o + 3, none⟩ = some u3 ∧ Below w.heap.size w V

theorem S8.on {w : World} {B b o : Nat} {s : Option Nat} {v0 v1 v2 v3 u0 u1 u2 u3 : Value} {V V' : World} (h : S8 w B b o s v0 v1 v2 v3 u0 u1 u2 u3 V) (hb : Below V.heap.size V V') : S8 w B b o s v0 v1 v2 v3 u0 u1 u2 u3 V' := by
  obtain ⟨a0, a1, a2, a3, b0, b1, b2, b3, hB⟩ := h
  have k : ∀ {p : Addr} {x : Value}, V.cell? p = some x → V'.cell? p = some x := fun h => by rw [hb.cell (World.block_lt_of_cell? V _ h)]; exact h
  exact ⟨k a0, k a1, k a2, k a3, k b0, k b1, k b2, k b3, hB.trans (hb.mono hB.size)⟩

theorem S8.drew {w : World} {B b o : Nat} {s : Option Nat} {v0 v1 v2 v3 u0 u1 u2 u3 : Value} {V : World} (h : S8 w B b o s v0 v1 v2 v3 u0 u1 u2 u3 V) : S8 w B b o s v0 v1 v2 v3 u0 u1 u2 u3 V.drew := h.on (Below.refl _ V).drew

set_option maxRecDepth 100000 in
set_option maxHeartbeats 4000000 in
theorem Search_I (x y q : Int) (z : ByteArray) (a : Option Addr) (n c : Nat) (ts : List Bg.It) (w : World) (hT : ISl w a n c ts) (hn : n ≤ 64) (hx : Bg.Fit ⟨x, y, z, q⟩) (hi : ts.Pairwise fun s t => Bg.cmp s t < 0) (h1 : ∀ t, t ∈ ts → Bg.Fit t) :
    Calls Try.prog 64 #[.slice a n c, .agg #[.int .i64 x, .int .i64 y, .string z, .int .i64 q], .func (.func 38) #[] #[]] w fun e w' =>
      ∃ (k : Nat) (b : Bool), e = .returned (.tuple #[.int .i64 k, .bool b]) ∧ k ≤ n ∧ (∀ m (hm : m < ts.length), m < k → Bg.cmp ts[m] ⟨x, y, z, q⟩ < 0) ∧ (∀ m (hm : m < ts.length), k ≤ m → 0 ≤ Bg.cmp ts[m] ⟨x, y, z, q⟩) ∧ Below w.heap.size w w' := by
  have HT := Lib.hid hT; have HI := Lib.hid hi; have H1 := Lib.hid h1; have HX := Lib.hid hx
  have hB0 : Below w.heap.size w (w.alloc (.cells #[.int .i64 x, .int .i64 y, .string z, .int .i64 q] 61)) := (Below.refl _ w).alloc (Nat.le_refl _) _
  have HB0 := Lib.hid hB0
  have HN : Hid (∀ V, Below (w.alloc (.cells #[.int .i64 x, .int .i64 y, .string z, .int .i64 q] 61)).heap.size (w.alloc (.cells #[.int .i64 x, .int .i64 y, .string z, .int .i64 q] 61)) V → V.cell? ⟨w.heap.size, 0, none⟩ = some (.int .i64 x) ∧ V.cell? ⟨w.heap.size, 1, none⟩ = some (.int .i64 y) ∧ V.cell? ⟨w.heap.size, 2, none⟩ = some (.string z) ∧ V.cell? ⟨w.heap.size, 3, none⟩ = some (.int .i64 q)) := Lib.hid fun V hb => by
    have k : ∀ {p : Addr} {v : Value}, (w.alloc (.cells #[.int .i64 x, .int .i64 y, .string z, .int .i64 q] 61)).cell? p = some v → V.cell? p = some v := fun h => by rw [hb.cell (World.block_lt_of_cell? _ _ h)]; exact h
    exact ⟨k (cell_new w (k := 0) rfl), k (cell_new w (k := 1) rfl), k (cell_new w (k := 2) rfl), k (cell_new w (k := 3) rfl)⟩
  clear hT hi h1 hx hB0
  go_enter Try.func64, Try.ntmps64
  go_wp2_with fail
  go_loopw [9, 10] (fun vi vj wr => ∃ i j : Nat, i ≤ j ∧ j ≤ n ∧ vi = .int .i64 i ∧ vj = .int .i64 j ∧ Hid (∀ m (hm : m < ts.length), m < i → Bg.cmp ts[m] ⟨x, y, z, q⟩ < 0) ∧ Hid (∀ m (hm : m < ts.length), j ≤ m → 0 ≤ Bg.cmp ts[m] ⟨x, y, z, q⟩) ∧ Hid (Below (w.alloc (.cells #[.int .i64 x, .int .i64 y, .string z, .int .i64 q] 61)).heap.size (w.alloc (.cells #[.int .i64 x, .int .i64 y, .string z, .int .i64 q] 61)) wr)) (fun vi vj _ => (intOf vj).toNat - (intOf vi).toNat)
  case atStart => exact ⟨0, n, Nat.zero_le _, Nat.le_refl _, rfl, rfl, Lib.hid fun m hm h => absurd h (Nat.not_lt_zero _), Lib.hid fun m hm h => absurd hm (by rw [HT.out.len]; omega), Lib.hid (Below.refl _ _)⟩
  case round =>
    obtain ⟨i, j, hij, hj, rfl, rfl, hA, hC, hB⟩ := hrel
    have BW := Lib.hid (HB0.out.trans (hB.out.mono HB0.out.size))
    obtain ⟨k0, k1, k2, k3⟩ := HN.out wr hB.out
    by_cases hlt : i < j
    · obtain ⟨h, hh⟩ : ∃ h, (i + j) / 2 = h := ⟨_, rfl⟩
      have h1 : i ≤ h := by omega
      have h2 : h < j := by omega
      have hk' : h < ts.length := by rw [HT.out.len]; omega
      obtain ⟨X, b, o, s, rfl, hX, c1, c2, c3, c4⟩ := (HT.out.keep BW.out).get hk'
      have K1 := fun w => cmp_I ts[h].sum ts[h].n ts[h].refs x y q ts[h].text z w (H1.out ts[h] (List.getElem_mem hk')) HX.out
      have eh : ((i : Int) + (j : Int)) / 2 = (h : Int) := by omega
      have HL : Hid (Bg.cmp ⟨ts[h].sum, ts[h].n, ts[h].text, ts[h].refs⟩ ⟨x, y, z, q⟩ < 0 → ∀ m (hm : m < ts.length), m < h + 1 → Bg.cmp ts[m] ⟨x, y, z, q⟩ < 0) := Lib.hid fun hlt m hm hmh => by
        by_cases e : m = h
        · subst e; exact hlt
        · have := (List.pairwise_iff_getElem.1 HI.out) m h hm hk' (by omega)
          rw [Bg.cmp_lt] at this hlt ⊢
          dsimp only at hlt ⊢
          omega
      have HR : Hid (0 ≤ Bg.cmp ⟨ts[h].sum, ts[h].n, ts[h].text, ts[h].refs⟩ ⟨x, y, z, q⟩ → ∀ m (hm : m < ts.length), h ≤ m → 0 ≤ Bg.cmp ts[m] ⟨x, y, z, q⟩) := Lib.hid fun hge m hm hmh => by
        by_cases e : m = h
        · subst e; exact hge
        · have := (List.pairwise_iff_getElem.1 HI.out) h m hk' hm (by omega)
          rcases Int.lt_or_le (Bg.cmp ts[m] ⟨x, y, z, q⟩) 0 with h9 | h9
          · exfalso
            rw [Bg.cmp_lt] at this h9
            have h8 : Bg.cmp ⟨ts[h].sum, ts[h].n, ts[h].text, ts[h].refs⟩ ⟨x, y, z, q⟩ < 0 := by
              rw [Bg.cmp_lt]
              dsimp only at h9 ⊢
              omega
            omega
          · exact h9
      clear hh
      generalize ts[h].sum = f1 at *
      generalize ts[h].n = f2 at *
      generalize ts[h].text = f3 at *
      generalize ts[h].refs = f4 at *
      generalize Bg.cmp ⟨f1, f2, f3, f4⟩ ⟨x, y, z, q⟩ = d at *
      have HS : Hid (S8 w w.heap.size b o s (.int .i64 x) (.int .i64 y) (.string z) (.int .i64 q) (.int .i64 f1) (.int .i64 f2) (.string f3) (.int .i64 f4) wr) := Lib.hid ⟨k0, k1, k2, k3, c1, c2, c3, c4, BW.out⟩
      have e1 : (0 : Int) ≤ (h : Int) := by omega
      have e2 : (h : Int) < (n : Int) := by omega
      have e3 : h < n := by omega
      by_cases hp : d < 0
      · have HL' := Lib.hid (HL.out hp)
        clear HL HR
        go_wp2_with fail
        go_region_held3 (fun V => V.cell? ⟨w.heap.size, 0, none⟩ = some (.int .i64 x) ∧ V.cell? ⟨w.heap.size, 1, none⟩ = some (.int .i64 y) ∧ V.cell? ⟨w.heap.size, 2, none⟩ = some (.string z) ∧ V.cell? ⟨w.heap.size, 3, none⟩ = some (.int .i64 q) ∧ V.cell? ⟨b, o, s⟩ = some (.int .i64 f1) ∧ V.cell? ⟨b, o + 1, none⟩ = some (.int .i64 f2) ∧ V.cell? ⟨b, o + 2, none⟩ = some (.string f3) ∧ V.cell? ⟨b, o + 3, none⟩ = some (.int .i64 f4) ∧ Below w.heap.size w V)
          (first | with_reducible exact HSS.out | with_reducible exact S8.drew HS.out | with_reducible exact HS.out)
          ((go_at_call 38; with_reducible refine (K1 _).mono ?_; rintro e ws ⟨rfl, hbs⟩; have HSS := Lib.hid (S8.on (S8.drew HS.out) hbs)))
        have HB' := Lib.hid (hB.out.trans ((show Below wr.heap.size wr ws from (Below.refl _ wr).drew.trans hbs).mono hB.out.size))
        clear hbs K1
        go_wp2_with fail
        go_roundw
        case rel => exact ⟨h + 1, j, h2, hj, by go_num, rfl, HL', hC, HB'⟩
        case measure => simp [intOf]; omega
      · have hd : 0 ≤ d := by omega
        have HR' := Lib.hid (HR.out (by omega))
        clear HL HR hp
        go_wp2_with fail
        go_region_held3 (fun V => V.cell? ⟨w.heap.size, 0, none⟩ = some (.int .i64 x) ∧ V.cell? ⟨w.heap.size, 1, none⟩ = some (.int .i64 y) ∧ V.cell? ⟨w.heap.size, 2, none⟩ = some (.string z) ∧ V.cell? ⟨w.heap.size, 3, none⟩ = some (.int .i64 q) ∧ V.cell? ⟨b, o, s⟩ = some (.int .i64 f1) ∧ V.cell? ⟨b, o + 1, none⟩ = some (.int .i64 f2) ∧ V.cell? ⟨b, o + 2, none⟩ = some (.string f3) ∧ V.cell? ⟨b, o + 3, none⟩ = some (.int .i64 f4) ∧ Below w.heap.size w V)
          (first | with_reducible exact HSS.out | with_reducible exact S8.drew HS.out | with_reducible exact HS.out)
          ((go_at_call 38; with_reducible refine (K1 _).mono ?_; rintro e ws ⟨rfl, hbs⟩; have HSS := Lib.hid (S8.on (S8.drew HS.out) hbs)))
        have HB' := Lib.hid (hB.out.trans ((show Below wr.heap.size wr ws from (Below.refl _ wr).drew.trans hbs).mono hB.out.size))
        clear hbs K1
        go_wp2_with fail
        go_roundw
        case rel => exact ⟨i, h, h1, by omega, rfl, rfl, hA, HR', HB'⟩
        case measure => simp [intOf]; omega
    · obtain rfl : i = j := by omega
      by_cases hin : i < n
      · have hk' : i < ts.length := by rw [HT.out.len]; omega
        obtain ⟨X, b, o, s, rfl, hX, c1, c2, c3, c4⟩ := (HT.out.keep BW.out).get hk'
        have K1 := fun w => cmp_I ts[i].sum ts[i].n ts[i].refs x y q ts[i].text z w (H1.out ts[i] (List.getElem_mem hk')) HX.out
        generalize ts[i].sum = f1 at *
        generalize ts[i].n = f2 at *
        generalize ts[i].text = f3 at *
        generalize ts[i].refs = f4 at *
        generalize Bg.cmp ⟨f1, f2, f3, f4⟩ ⟨x, y, z, q⟩ = d at *
        have HS : Hid (S8 w w.heap.size b o s (.int .i64 x) (.int .i64 y) (.string z) (.int .i64 q) (.int .i64 f1) (.int .i64 f2) (.string f3) (.int .i64 f4) wr) := Lib.hid ⟨k0, k1, k2, k3, c1, c2, c3, c4, BW.out⟩
        have e1 : (0 : Int) ≤ (i : Int) := by omega
        have e2 : (i : Int) < (n : Int) := by omega
        go_wp2_with fail
        go_region_held3 (fun V => V.cell? ⟨w.heap.size, 0, none⟩ = some (.int .i64 x) ∧ V.cell? ⟨w.heap.size, 1, none⟩ = some (.int .i64 y) ∧ V.cell? ⟨w.heap.size, 2, none⟩ = some (.string z) ∧ V.cell? ⟨w.heap.size, 3, none⟩ = some (.int .i64 q) ∧ V.cell? ⟨b, o, s⟩ = some (.int .i64 f1) ∧ V.cell? ⟨b, o + 1, none⟩ = some (.int .i64 f2) ∧ V.cell? ⟨b, o + 2, none⟩ = some (.string f3) ∧ V.cell? ⟨b, o + 3, none⟩ = some (.int .i64 f4) ∧ Below w.heap.size w V)
          (first | with_reducible exact HSS.out | with_reducible exact S8.drew HS.out | with_reducible exact HS.out)
          ((go_at_call 38; with_reducible refine (K1 _).mono ?_; rintro e ws ⟨rfl, hbs⟩; have HSS := Lib.hid (S8.on (S8.drew HS.out) hbs)))
        go_wp2_with fail
        go_ret2
        exact ⟨i, _, rfl, hj, hA.out, hC.out, HSS.out.2.2.2.2.2.2.2.2⟩
      · clear k0 k1 k2 k3
        have e4 : ¬ ((i : Int) < (n : Int)) := by omega
        go_wp2_with fail
        go_quiet (fail)
        go_wp2_with fail
        go_ret2
        exact ⟨i, _, rfl, hj, hA.out, hC.out, below_drewN BW.out _⟩

end Go.Proofs.Ythccdoejnklidaa
