/- Walks: resv.Check, resv.keyed. -/
import Derived.Test.YtoglkellaliegaaRgW6
import Derived.BigQuiet
namespace Go.Proofs.Ytoglkellaliegaa
open Go.RowKit

theorem R4.drewN {w : World} {B : Nat} {v0 v1 v2 v3 : Value} (h : R4 w B v0 v1 v2 v3) (k : Nat) : R4 (w.drewN k) B v0 v1 v2 v3 := h.on (below_drewN (Below.refl _ w) k)
theorem R4.keep {w w' : World} {B : Nat} {v0 v1 v2 v3 : Value} (h : R4 w B v0 v1 v2 v3) (hb : Below w.heap.size w w') : R4 w' B v0 v1 v2 v3 := h.on hb

/-- Of what is right Check says so. -/
theorem Check_R (g k q : Int) (a : Option Addr) (n c : Nat) (ts : List Qu.T) (w : World) (hG : Rg.Good ⟨g, ts, k, q⟩) (hT : TSl w a n c ts) :
    Calls Try.prog 43 #[.agg #[.int .i64 g, .slice a n c, .int .i64 k, .int .i64 q]] w fun e w' => e = .returned (.int .i64 0) ∧ Below w.heap.size w w' := by
  have hg0 : 0 ≤ g := hG.gen0
  have hg1 : g ≤ 1000 := hG.gen1
  have hn8 : n ≤ 8 := by have := hG.len; rw [hT.len] at this; exact this
  have HX : Hid (∀ T, R4 (w.alloc (.cells #[.int .i64 g, .slice a n c, .int .i64 k, .int .i64 q] T)) w.heap.size (.int .i64 g) (.slice a n c) (.int .i64 k) (.int .i64 q)) := Lib.hid fun T => r4_new w T _ _ _ _
  have HB : Hid (∀ o, Below w.heap.size w (w.alloc o)) := Lib.hid fun o => (Below.refl _ w).alloc (Nat.le_refl _) _
  have HT := Lib.hid hT; have HG := Lib.hid hG
  clear hT hG
  go_enter Try.func43, Try.ntmps43
  go_wp2_with fail
  go_loopw [16] (fun x wr => ∃ j : Nat, j ≤ n ∧ x = .int .i64 j ∧ Hid (R4 wr w.heap.size (.int .i64 g) (.slice a n c) (.int .i64 k) (.int .i64 q)) ∧ Hid (Below w.heap.size w wr)) (fun x _ => n - (intOf x).toNat)
  case atStart => exact ⟨0, Nat.zero_le _, rfl, HX.out _, HB.out _⟩
  case round =>
    obtain ⟨j, hj, rfl, hX, hB⟩ := hrel
    obtain ⟨hl, c0, c1, c2, c3, z0, z1, z2, z3⟩ := hX.out
    by_cases hlt : j < n
    · have hk' : j < ts.length := by rw [HT.out.len]; exact hlt
      have hne : ts ≠ [] := by rintro rfl; simp at hk'
      obtain ⟨b, o, rfl, hb, hc⟩ := (HT.out.keep hB.out).at_ hne
      obtain ⟨e1, e2⟩ := hc j ts[j] (List.getElem?_eq_getElem hk')
      have ho := HG.out.one ts[j] (List.getElem_mem hk')
      have hlt1 : ∀ i (hi : i < j), (ts[i]'(Nat.lt_trans hi hk')).1 < ts[j].1 := fun i hi => (List.pairwise_iff_getElem.1 HG.out.inc) i j (Nat.lt_trans hi hk') hk' hi
      have hsz := hB.out.size
      rcases j with _ | i
      · simp only [Nat.zero_mul, Nat.add_zero] at e1 e2
        clear hlt1 hc hne
        generalize ts[0].1 = x at *
        generalize ts[0].2 = y at *
        obtain ⟨o1, o2, o3, o4⟩ := ho
        have W1 := fun w => who_R x true (by unfold Rg.who; rw [decide_eq_true o1, decide_eq_true o2]; rfl) w
        go_wp2_with fail
        with_reducible refine (W1 _).mono ?_
        rintro e w2 ⟨rfl, rfl⟩
        go_wp2_with fail
        go_quiet (fail)
        go_wp2_with fail
        go_roundw
        case rel => exact ⟨1, by omega, by go_num, Lib.hid ((hX.out.alloc _).drewN _), Lib.hid (below_drewN (hB.out.alloc hsz _) _)⟩
        case measure => simp [intOf]; omega
      · have hpre := hlt1 i (Nat.lt_succ_self _)
        obtain ⟨d1, -⟩ := hc i (ts[i]'(by omega)) (List.getElem?_eq_getElem (by omega))
        clear hlt1 hc hne
        have HBo : Hid (b < wr.heap.size) := Lib.hid hb
        generalize (ts[i]'_).1 = p at *
        generalize ts[i + 1].1 = x at *
        generalize ts[i + 1].2 = y at *
        obtain ⟨o1, o2, o3, o4⟩ := ho
        have W1 := fun w => who_R x true (by unfold Rg.who; rw [decide_eq_true o1, decide_eq_true o2]; rfl) w
        have hge : ¬ x ≤ p := by omega
        have hgd : decide (x ≤ p) = false := decide_eq_false hge
        have hpos : decide ((0 : Int) < (i : Int) + 1) = true := decide_eq_true (by omega)
        have hsub : IntKind.i64.wrap ((i : Int) + 1 - 1) = (i : Int) := by rw [Int.add_sub_cancel]; exact IntWalk.i64_in _ (by omega)
        go_wp2_with fail
        with_reducible refine (W1 _).mono ?_
        rintro e w2 ⟨rfl, rfl⟩
        go_wp2_with fail
        go_quiet (fail)
        go_wp2_with fail
        go_roundw
        case rel => exact ⟨i + 2, by omega, by go_num, Lib.hid ((hX.out.alloc _).drewN _), Lib.hid (below_drewN (hB.out.alloc hsz _) _)⟩
        case measure => simp [intOf]; omega
    · obtain rfl : j = n := by omega
      have A1 := fun w => all_R k _ rfl w
      have F1 := fun hh => find_R g k q q a j c ts wr (HT.out.keep hB.out) hh
      have hkind := HG.out.kind
      have hnone := HG.out.none
      have hsome := HG.out.some
      have hheld := HG.out.held
      by_cases h0 : k = 0
      · obtain rfl : q = 0 := hnone (Or.inl h0)
        subst h0
        clear hkind hnone hsome hheld F1 A1
        have A1 := fun w => all_R 0 false rfl w
        go_wp2_with fail
        with_reducible refine (A1 _).mono ?_
        rintro e w2 ⟨rfl, rfl⟩
        go_wp2_with fail
        go_ret
        exact ⟨rfl, hB.out⟩
      · have e0 : (k == 0) = false := beq_eq_false_iff_ne.2 h0
        cases ha : Rg.all k with
        | true =>
          obtain rfl : q = 0 := hnone (Or.inr ha)
          have hj0 : ((j : Int) == 0) = false := beq_eq_false_iff_ne.2 (by
            have h1 := hsome ha
            have h2 := HT.out.len
            have h3 : ts.length ≠ 0 := fun e => h1 (List.length_eq_zero_iff.1 e)
            omega)
          have A1 := fun w => all_R k true ha w
          clear hkind hnone hsome hheld F1 ha h0
          go_wp2_with fail
          with_reducible refine (A1 _).mono ?_
          rintro e w2 ⟨rfl, rfl⟩
          go_wp2_with fail
          with_reducible refine (A1 _).mono ?_
          rintro e w2 ⟨rfl, rfl⟩
          go_wp2_with fail
          go_ret
          exact ⟨rfl, hB.out⟩
        | false =>
          have hk : Rg.kindB k = true := hkind.resolve_right h0
          have hh := hheld h0 ha
          have A1 := fun w => all_R k false ha w
          have K1 := fun w => kind_R k true hk w
          have hi : decide (0 ≤ idx (Qu.tg q) ts) = true := by rw [idx_has]; exact hh
          have hi' : ¬ idx (Qu.tg q) ts < 0 := by have := of_decide_eq_true hi; omega
          have F2 := F1 (by omega)
          clear hkind hnone hsome hheld F1 ha h0 hk hh hi
          generalize idx (Qu.tg q) ts = ii at *
          go_wp2_with fail
          with_reducible refine (A1 _).mono ?_
          rintro e w2 ⟨rfl, rfl⟩
          go_wp2_with fail
          with_reducible refine (K1 _).mono ?_
          rintro e w2 ⟨rfl, rfl⟩
          go_wp2_with fail
          with_reducible refine F2.mono ?_
          rintro e w2 ⟨rfl, hb2⟩
          have HF := Lib.hid (hB.out.trans (hb2.mono hB.out.size))
          clear hb2
          go_wp2_with fail
          go_ret
          exact ⟨rfl, HF.out⟩

/-- What 'keyed' answers. -/
def keyE (ts : List Qu.T) (x y : Int) : Nat := if Rg.kd ts x y = false then 9 else 0

theorem idx_cases (ts : List Qu.T) (x : Int) : (Qu.has ts x = false ∧ idx (Qu.tg x) ts = -1) ∨ ∃ (i : Nat) (hi : i < ts.length), idx (Qu.tg x) ts = i ∧ Qu.has ts x = true ∧ (ts[i]).1 = x ∧ Rg.key ts x = (ts[i]).2 := by
  cases h : ts.findIdx? (Qu.tg x) with
  | none =>
    left
    refine ⟨?_, by unfold idx; rw [h]⟩
    unfold Qu.has
    rw [List.any_eq_false]
    intro t ht
    rw [List.findIdx?_eq_none_iff] at h
    rw [h t ht]; decide
  | some i =>
    right
    obtain ⟨hi, h1, h2⟩ := List.findIdx?_eq_some_iff_getElem.1 h
    refine ⟨i, hi, by unfold idx; rw [h], ?_, by simpa [Qu.tg] using h1, ?_⟩
    · unfold Qu.has
      rw [List.any_eq_true]
      exact ⟨_, List.getElem_mem hi, h1⟩
    · unfold Rg.key
      have : ts.find? (Qu.tg x) = some ts[i] := by
        rw [List.find?_eq_some_iff_getElem]
        exact ⟨h1, i, hi, rfl, fun j hj => by simpa using h2 j hj⟩
      rw [this]

theorem keyed_R (g k q x y : Int) (a : Option Addr) (n c : Nat) (ts : List Qu.T) (w : World) (hG : Rg.Good ⟨g, ts, k, q⟩) (hT : TSl w a n c ts) (hx0 : 0 ≤ x) (hx7 : x ≤ 7) :
    Calls Try.prog 66 #[.agg #[.int .i64 g, .slice a n c, .int .i64 k, .int .i64 q], .int .i64 x, .int .i64 y] w fun e w' => e = .returned (.int .i64 (keyE ts x y : Nat)) ∧ Below w.heap.size w w' := by
  have hn8 : n ≤ 8 := by have := hG.len; rw [hT.len] at this; exact this
  have HX : Hid (∀ T, R4 (w.alloc (.cells #[.int .i64 g, .slice a n c, .int .i64 k, .int .i64 q] T)) w.heap.size (.int .i64 g) (.slice a n c) (.int .i64 k) (.int .i64 q)) := Lib.hid fun T => r4_new w T _ _ _ _
  have HB : Hid (∀ o, Below w.heap.size w (w.alloc o)) := Lib.hid fun o => (Below.refl _ w).alloc (Nat.le_refl _) _
  have C1 := fun o => Check_R g k q a n c ts (w.alloc o) hG (hT.keep (HB.out o))
  have W1 := fun w => who_R x true (by unfold Rg.who; rw [decide_eq_true hx0, decide_eq_true hx7]; rfl) w
  have HF : Hid (∀ w', Below w.heap.size w w' → Calls Try.prog 72 #[.agg #[.int .i64 g, .slice a n c, .int .i64 k, .int .i64 q], .int .i64 x] w' fun e w'' => e = .returned (.int .i64 (idx (Qu.tg x) ts)) ∧ Below w'.heap.size w' w'') := Lib.hid fun w' hb => find_R g k q x a n c ts w' (hT.keep hb) (by omega)
  have HT := Lib.hid hT
  have HC := Lib.hid (idx_cases ts x)
  obtain ⟨E, hE⟩ : ∃ E, keyE ts x y = E := ⟨_, rfl⟩
  have HE : Hid (E = if (Qu.has ts x && (Rg.key ts x == y)) = false then 9 else 0) := Lib.hid (by rw [← hE]; rfl)
  rw [hE]
  clear hT hG hE
  go_enter Try.func66, Try.ntmps66
  go_wp2_with fail
  with_reducible refine (C1 _).mono ?_
  rintro e w1 ⟨rfl, hb1⟩
  have HB1 := Lib.hid ((HB.out _).trans (hb1.mono (HB.out _).size))
  have HX1 := Lib.hid ((HX.out 49).on hb1)
  obtain ⟨hl, c0, c1, c2, c3, z0, z1, z2, z3⟩ := HX1.out
  have F1 := HF.out w1 HB1.out
  clear hb1 C1
  go_wp2_with fail
  with_reducible refine (W1 _).mono ?_
  rintro e w2 ⟨rfl, rfl⟩
  go_wp2_with fail
  with_reducible refine F1.mono ?_
  rintro e w2 ⟨rfl, hb2⟩
  have HB2 := Lib.hid (HB1.out.trans (hb2.mono HB1.out.size))
  have HX2 := Lib.hid (HX1.out.on hb2)
  clear c0 c1 c2 c3 z0 z1 z2 z3 hl hb2 F1
  obtain ⟨hl, c0, c1, c2, c3, z0, z1, z2, z3⟩ := HX2.out
  rcases HC.out with ⟨h1, h2⟩ | ⟨i, hi, h2, h1, h3, h4⟩
  · obtain rfl : E = 9 := by rw [HE.out, h1]; rfl
    rw [h2]
    clear HE h1 h2
    go_wp2_with fail
    go_ret
    exact ⟨rfl, HB2.out⟩
  · rw [h1, h4, Bool.true_and] at HE
    obtain ⟨b, o, rfl, hb, hc⟩ := (HT.out.keep HB2.out).at_ (by rintro rfl; simp at hi)
    obtain ⟨d1, d2⟩ := hc i ts[i] (List.getElem?_eq_getElem hi)
    have hin : i < n := by rw [← HT.out.len]; exact hi
    rw [h2]
    have HE' := HE.out
    clear HE h1 h2 h4 hc h3 d1
    generalize ts[i].2 = z at *
    by_cases hz : z = y
    · subst hz
      obtain rfl : E = 0 := by rw [HE']; simp
      clear HE'
      go_wp2_with fail
      go_ret
      exact ⟨rfl, HB2.out⟩
    · have ez : (z == y) = false := beq_eq_false_iff_ne.2 hz
      have ez' : (z != y) = true := bne_iff_ne.2 hz
      obtain rfl : E = 9 := by rw [HE', ez]; rfl
      clear HE' hz
      go_wp2_with fail
      go_ret
      exact ⟨rfl, HB2.out⟩

end Go.Proofs.Ytoglkellaliegaa
