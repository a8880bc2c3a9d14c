import Derived.Test.YthccdoejnklidaaBgW
/- The walk of bag.Check. -/
namespace Go.Proofs.Ythccdoejnklidaa
open Go.RowKit

theorem eg_check : ∀ args w, (callFunc 40 args).run Try.prog w = .ok (.enter 40 args) w := enters_of Try.func40 (by kernel_rfl) rfl

theorem pred_check (w : World) (B : Nat) (s : ByteArray) (hB : B < w.heap.size) (hc : w.cell? ⟨B, 2, none⟩ = some (.string s)) : PredI w 40 #[.pointer (some ⟨B, 0, none⟩)] (Bg.same s) := fun W x y q z hb => by
  have hc' := (hb.cell (p := ⟨B, 2, none⟩) hB).trans hc
  have hBW : B < W.heap.size := Nat.lt_of_lt_of_le hB hb.size
  have HB := Lib.hid hb
  clear hb hc hB
  show Calls Try.prog 40 #[.agg #[.int .i64 x, .int .i64 y, .string z, .int .i64 q], .pointer (some ⟨B, 0, none⟩)] W _
  go_enter Try.func40, Try.ntmps40
  go_wp2_with fail
  go_ret
  exact ⟨rfl, HB.out.alloc HB.out.size _⟩

set_option maxRecDepth 100000 in
set_option maxHeartbeats 8000000 in
theorem Check_I (a : Option Addr) (n c : Nat) (ts : List Bg.It) (w : World) (hT : ISl w a n c ts) (hs : ∀ t ∈ ts, t.text.size ≤ maxLen) :
    Calls Try.prog 25 #[.slice a n c] w fun e w' => e = .returned (.int .i64 (Bg.checkE Bg.Pr ts)) ∧ Below w.heap.size w w' := by
  have hnm : n ≤ maxLen := Nat.le_trans hT.cap hT.max
  unfold maxLen at hnm
  have hl := hT.len
  obtain ⟨R, hR⟩ : ∃ R, Bg.checkE Bg.Pr ts = R := ⟨_, rfl⟩
  rw [hR]
  have HR := Lib.hid hR
  clear hR
  by_cases h6 : 64 < n
  · obtain rfl : R = 2 := by rw [← HR.out]; unfold Bg.checkE; rw [if_pos (by omega)]
    clear HR hl
    go_enter Try.func25, Try.ntmps25
    go_wp2_with fail
    go_ret
    exact ⟨rfl, Below.refl _ _⟩
  · have HT := Lib.hid hT; have HS := Lib.hid hs; have HL := Lib.hid hl
    clear hT hs hl
    go_enter Try.func25, Try.ntmps25
    go_wp2_with fail
    go_loopw [11] (fun x wr => ∃ k : Nat, k ≤ n ∧ x = .int .i64 k ∧ Hid (Bg.scan Bg.Pr ts k = 0) ∧ Hid (Below w.heap.size w wr)) (fun x _ => n - (intOf x).toNat)
    case atStart => exact ⟨0, Nat.zero_le _, rfl, Lib.hid rfl, Lib.hid (Below.refl _ _)⟩
    case round =>
      obtain ⟨k, hk, rfl, hA, hB⟩ := hrel
      by_cases hlt : k < n
      · have hk' : k < ts.length := by rw [HL.out]; exact hlt
        have hsz := hB.out.size
        obtain ⟨X, b, o, s, rfl, hX, c1, c2, c3, c4⟩ := (HT.out.keep hB.out).get hk'
        have O1 := fun w => one_I ts[k].sum ts[k].n ts[k].refs ts[k].text w (HS.out ts[k] (List.getElem_mem hk'))
        have HW : Hid (∀ V, Below w.heap.size w V → ISl V (some X) n c ts) := Lib.hid fun V hb => HT.out.keep hb
        by_cases h1 : Bg.oneE Bg.Pr ts[k] = 0
        · have h1' : Bg.oneE Bg.Pr ⟨ts[k].sum, ts[k].n, ts[k].text, ts[k].refs⟩ = 0 := h1
          rw [h1'] at O1
          clear h1'
          have HF : Hid (Bg.Fit ⟨ts[k].sum, ts[k].n, ts[k].text, ts[k].refs⟩) := Lib.hid (Bg.one_fit h1).1
          have HAT : Hid (k = 0 ∨ (∃ h0 : 0 < k, Bg.cmp (ts[k - 1]'(by omega)) ⟨ts[k].sum, ts[k].n, ts[k].text, ts[k].refs⟩ < 0) → Bg.atE Bg.Pr ts k = if (ts.take k).any (Bg.same ts[k].text) = true then 5 else 0) := Lib.hid fun h => Bg.atE_rest hk' h1 h
          have HFM : Hid (∀ h0 : 0 < k, 0 ≤ Bg.cmp (ts[k - 1]'(by omega)) ⟨ts[k].sum, ts[k].n, ts[k].text, ts[k].refs⟩ → Bg.atE Bg.Pr ts k = 3) := Lib.hid fun h0 h => Bg.atE_form hk' h1 h0 h
          clear h1
          generalize ts[k].sum = f1 at *
          generalize ts[k].n = f2 at *
          generalize ts[k].text = f3 at *
          generalize ts[k].refs = f4 at *
          go_wp2_with fail
          with_reducible refine (O1 _).mono ?_
          rintro e w2 ⟨rfl, hb2⟩
          obtain ⟨n0, n1, n2, n3⟩ := new4 hb2
          have hsz2 : wr.heap.size < w2.heap.size := by have := hb2.size; rw [World.size_alloc] at this; omega
          have HB2 := Lib.hid ((hB.out.alloc hB.out.size _).trans (hb2.mono (by rw [World.size_alloc]; omega)))
          clear hb2 O1 c1 c2 c3 c4
          have hkn : k ≤ n := by omega
          have CF : ∀ v, (ts.take k).any (Bg.same f3) = v → ∀ W, Below w2.heap.size w2 W → Calls Try.prog 39 #[.slice (some X) k c, .func (.func 40) #[] #[.pointer (some ⟨wr.heap.size, 0, none⟩)]] W fun e w' => e = .returned (.bool v) ∧ Below W.heap.size W w' := fun v hv W hb =>
            ContainsFunc_I (some X) k c (ts.take k) _ _ (Bg.same f3) v W (by omega) eg_check ((HW.out W (HB2.out.trans (hb.mono (by omega)))).take hkn) (pred_check W wr.heap.size f3 (Nat.lt_of_lt_of_le hsz2 hb.size) ((hb.cell (p := ⟨wr.heap.size, 2, none⟩) hsz2).trans n2)) hv
          obtain ⟨v, hv⟩ : ∃ v, (ts.take k).any (Bg.same f3) = v := ⟨_, rfl⟩
          have CV := CF v hv
          have HV := Lib.hid hv
          clear CF hv
          have hki : (k : Int) ≤ (c : Int) := by have := HT.out.cap; omega
          have hci : (c : Int) ≤ 9223372036854775807 := by have := HT.out.max; unfold maxLen at this; omega
          rcases Nat.eq_zero_or_pos k with hk0 | hk0
          · have HA2 := HAT.out (Or.inl hk0)
            have hgd : decide (0 < k) = false := decide_eq_false (by omega)
            clear HAT HFM
            have HA2' := Lib.hid HA2
            clear HA2 hk0
            go_wp2_with fail
            go_quiet (fail)
            cases v with
            | true =>
              obtain rfl : R = 5 := by
                rw [← HR.out]
                exact Bg.check_at (by rw [HL.out]; omega) hk' hA.out (by rw [HA2'.out, HV.out]; rfl) (by omega)
              go_wp2_with (go_at_call 39; with_reducible refine (CV _ (below_drewN (Below.refl _ _) _)).mono ?_; rintro e w3 ⟨rfl, hb3⟩)
              go_ret
              exact ⟨rfl, HB2.out.trans (((below_drewN (Below.refl _ _) _).trans hb3).mono HB2.out.size)⟩
            | false =>
              have hA' := Lib.hid (show Bg.scan Bg.Pr ts (k + 1) = 0 by rw [Bg.scan_step hA.out, HA2'.out, HV.out]; rfl)
              go_wp2_with (go_at_call 39; with_reducible refine (CV _ (below_drewN (Below.refl _ _) _)).mono ?_; rintro e w3 ⟨rfl, hb3⟩)
              have HB3 := Lib.hid (HB2.out.trans (((below_drewN (Below.refl _ _) _).trans hb3).mono HB2.out.size))
              clear hb3
              go_roundw
              case rel => exact ⟨k + 1, by omega, by go_num, hA', HB3⟩
              case measure => simp [intOf]; omega
          · have hk1 : k - 1 < ts.length := by omega
            obtain ⟨X', b', o', s', hX', hX2, d1, d2, d3, d4⟩ := (HW.out w2 HB2.out).get hk1
            obtain rfl : X = X' := Option.some.inj hX'
            have hF1 := Bg.scan_one hA.out (k - 1) (by omega) hk1
            have K1 := fun w => cmp_I ts[k-1].sum ts[k-1].n ts[k-1].refs f1 f2 f4 ts[k-1].text f3 w (Bg.one_fit hF1).1 HF.out
            have HFM1 : Hid (0 ≤ Bg.cmp ⟨ts[k-1].sum, ts[k-1].n, ts[k-1].text, ts[k-1].refs⟩ ⟨f1, f2, f3, f4⟩ → Bg.atE Bg.Pr ts k = 3) := Lib.hid (HFM.out hk0)
            have HAT1 : Hid (Bg.cmp ⟨ts[k-1].sum, ts[k-1].n, ts[k-1].text, ts[k-1].refs⟩ ⟨f1, f2, f3, f4⟩ < 0 → Bg.atE Bg.Pr ts k = if (ts.take k).any (Bg.same f3) = true then 5 else 0) := Lib.hid (fun h => HAT.out (Or.inr ⟨hk0, h⟩))
            clear HFM HAT hF1
            generalize ts[k-1].sum = p1 at *
            generalize ts[k-1].n = p2 at *
            generalize ts[k-1].text = p3 at *
            generalize ts[k-1].refs = p4 at *
            generalize Bg.cmp ⟨p1, p2, p3, p4⟩ ⟨f1, f2, f3, f4⟩ = d at *
            have HS : Hid (S8 w wr.heap.size b' o' s' (.int .i64 f1) (.int .i64 f2) (.string f3) (.int .i64 f4) (.int .i64 p1) (.int .i64 p2) (.string p3) (.int .i64 p4) w2) := Lib.hid ⟨n0, n1, n2, n3, d1, d2, d3, d4, HB2.out⟩
            have w1 : IntKind.i64.wrap ((k : Int) - 1) = (k : Int) - 1 := IntWalk.i64_in _ ⟨by omega, by omega⟩
            have w2' : ((k : Int) - 1).toNat = k - 1 := by omega
            have e1 : (0 : Int) ≤ (k : Int) - 1 := by omega
            have e2 : (k : Int) - 1 < (n : Int) := by omega
            have e3 : (1 : Int) ≤ (k : Int) := by omega
            have e4 : (k : Int) ≤ (n : Int) := by omega
            have e5 : 1 ≤ k := by omega
            have hgd : decide (0 < k) = true := decide_eq_true (by omega)
            by_cases hp : d < 0
            · have hA2 := Lib.hid (HAT1.out hp)
              clear HFM1 HAT1
              have hd0 : decide (0 ≤ d) = false := decide_eq_false (by omega)
              go_wp2_with fail
              go_region_held3 (fun V => V.cell? ⟨wr.heap.size, 0, none⟩ = some (.int .i64 f1) ∧ V.cell? ⟨wr.heap.size, 1, none⟩ = some (.int .i64 f2) ∧ V.cell? ⟨wr.heap.size, 2, none⟩ = some (.string f3) ∧ V.cell? ⟨wr.heap.size, 3, none⟩ = some (.int .i64 f4) ∧ V.cell? ⟨b', o', s'⟩ = some (.int .i64 p1) ∧ V.cell? ⟨b', o' + 1, none⟩ = some (.int .i64 p2) ∧ V.cell? ⟨b', o' + 2, none⟩ = some (.string p3) ∧ V.cell? ⟨b', o' + 3, none⟩ = some (.int .i64 p4) ∧ Below w.heap.size w V)
              (first | with_reducible exact HSS.out | with_reducible exact S8.drew HS.out | with_reducible exact HS.out)
              ((go_at_call 38; with_reducible refine (K1 _).mono ?_; rintro e ws ⟨rfl, hbs⟩; have HSS := Lib.hid (S8.on (S8.drew HS.out) hbs)))
              have HB4 : Hid (Below w2.heap.size w2 ws) := Lib.hid ((Below.refl _ w2).drew.trans hbs)
              have HB5 := Lib.hid HSS.out.2.2.2.2.2.2.2.2
              clear hbs K1 HS HSS n0 n1 n2 n3 d1 d2 d3 d4 w1 w2' e1 e2 e3 e4 e5 hd0 hgd
              cases v with
              | true =>
                obtain rfl : R = 5 := by
                  rw [← HR.out]
                  exact Bg.check_at (by rw [HL.out]; omega) hk' hA.out (by rw [hA2.out, HV.out]; rfl) (by omega)
                go_wp2_with (go_at_call 39; with_reducible refine (CV _ HB4.out).mono ?_; rintro e w3 ⟨rfl, hb3⟩)
                go_ret
                exact ⟨rfl, HB5.out.trans (hb3.mono HB5.out.size)⟩
              | false =>
                have hA' := Lib.hid (show Bg.scan Bg.Pr ts (k + 1) = 0 by rw [Bg.scan_step hA.out, hA2.out, HV.out]; rfl)
                go_wp2_with (go_at_call 39; with_reducible refine (CV _ HB4.out).mono ?_; rintro e w3 ⟨rfl, hb3⟩)
                have HB3 := Lib.hid (HB5.out.trans (hb3.mono HB5.out.size))
                clear hb3
                go_roundw
                case rel => exact ⟨k + 1, by omega, by go_num, hA', HB3⟩
                case measure => simp [intOf]; omega
            · have hA2 := Lib.hid (HFM1.out (by omega))
              have hd0 : decide (0 ≤ d) = true := decide_eq_true (by omega)
              obtain rfl : R = 3 := by
                rw [← HR.out]
                exact Bg.check_at (by rw [HL.out]; omega) hk' hA.out hA2.out (by omega)
              clear HFM1 HAT1 hp hA2
              go_wp2_with fail
              go_region_held3 (fun V => V.cell? ⟨wr.heap.size, 0, none⟩ = some (.int .i64 f1) ∧ V.cell? ⟨wr.heap.size, 1, none⟩ = some (.int .i64 f2) ∧ V.cell? ⟨wr.heap.size, 2, none⟩ = some (.string f3) ∧ V.cell? ⟨wr.heap.size, 3, none⟩ = some (.int .i64 f4) ∧ V.cell? ⟨b', o', s'⟩ = some (.int .i64 p1) ∧ V.cell? ⟨b', o' + 1, none⟩ = some (.int .i64 p2) ∧ V.cell? ⟨b', o' + 2, none⟩ = some (.string p3) ∧ V.cell? ⟨b', o' + 3, none⟩ = some (.int .i64 p4) ∧ Below w.heap.size w V)
              (first | with_reducible exact HSS.out | with_reducible exact S8.drew HS.out | with_reducible exact HS.out)
              ((go_at_call 38; with_reducible refine (K1 _).mono ?_; rintro e ws ⟨rfl, hbs⟩; have HSS := Lib.hid (S8.on (S8.drew HS.out) hbs)))
              clear hbs K1 CV
              go_wp2_with fail
              go_ret
              exact ⟨rfl, HSS.out.2.2.2.2.2.2.2.2⟩
        · have h1' : ((Bg.oneE Bg.Pr ⟨ts[k].sum, ts[k].n, ts[k].text, ts[k].refs⟩ : Nat) : Int) ≠ 0 := fun h => h1 (Int.ofNat_inj.1 h)
          obtain ⟨E, hE⟩ : ∃ E, Bg.oneE Bg.Pr ⟨ts[k].sum, ts[k].n, ts[k].text, ts[k].refs⟩ = E := ⟨_, rfl⟩
          rw [hE] at O1 h1'
          have hbE : ((E : Int) != 0) = true := bne_iff_ne.2 h1'
          obtain rfl : R = E := by
            rw [← HR.out]
            exact Bg.check_at (by rw [HL.out]; omega) hk' hA.out ((Bg.atE_one hk' h1).trans hE) (by omega)
          clear h1 h1' hE
          generalize ts[k].sum = f1 at *
          generalize ts[k].n = f2 at *
          generalize ts[k].text = f3 at *
          generalize ts[k].refs = f4 at *
          go_wp2_with fail
          with_reducible refine (O1 _).mono ?_
          rintro e w2 ⟨rfl, hb2⟩
          have HB2 := Lib.hid ((hB.out.alloc hB.out.size _).trans (hb2.mono (by rw [World.size_alloc]; omega)))
          clear hb2 O1 c1 c2 c3 c4
          go_wp2_with fail
          go_ret
          exact ⟨rfl, HB2.out⟩
      · obtain rfl : k = n := by omega
        obtain rfl : R = 0 := by
          rw [← HR.out]
          exact Bg.check_end (by rw [HL.out]; omega) (by rw [HL.out]; exact hA.out)
        go_wp2_with fail
        go_ret
        exact ⟨rfl, hB.out⟩

end Go.Proofs.Ythccdoejnklidaa

/- The walks of bag.Find, bag.Get, bag.Drop. -/
namespace Go.Proofs.Ythccdoejnklidaa
open Go.RowKit

theorem eg_find : ∀ args w, (callFunc 54 args).run Try.prog w = .ok (.enter 54 args) w := enters_of Try.func54 (by kernel_rfl) rfl

theorem pred_find (w : World) (B : Nat) (id : Bg.Id) (hB : B < w.heap.size) (c0 : w.cell? ⟨B, 0, none⟩ = some (.bool id.is)) (c1 : w.cell? ⟨B, 1, none⟩ = some (.int .i64 id.sum)) (c2 : w.cell? ⟨B, 2, none⟩ = some (.int .i64 id.n)) :
    PredI w 54 #[.pointer (some ⟨B, 0, none⟩)] (Bg.hit id) := fun W x y q z hb => by
  have hk : ∀ {j v}, w.cell? ⟨B, j, none⟩ = some v → W.cell? ⟨B, j, none⟩ = some v := fun {j v} h => (hb.cell (p := ⟨B, j, none⟩) hB).trans h
  have c0' := hk c0
  have c1' := hk c1
  have c2' := hk c2
  have hBW : B < W.heap.size := Nat.lt_of_lt_of_le hB hb.size
  have HB := Lib.hid hb
  have HR : ∀ b, Bg.hit id ⟨x, y, z, q⟩ = b → Hid (Ending.returned (.bool b) = Ending.returned (.bool (Bg.hit id ⟨x, y, z, q⟩))) := fun b h => Lib.hid (by rw [h])
  unfold Bg.hit at HR
  obtain ⟨i0, i1, i2⟩ := id
  dsimp only at c0' c1' c2' HR
  clear hb c0 c1 c2 hB hk
  show Calls Try.prog 54 #[.agg #[.int .i64 x, .int .i64 y, .string z, .int .i64 q], .pointer (some ⟨B, 0, none⟩)] W _
  cases i0 with
  | false =>
    have HE := HR false rfl
    clear HR
    go_enter Try.func54, Try.ntmps54
    go_wp2_with fail
    go_ret
    exact ⟨HE.out, HB.out.alloc HB.out.size _⟩
  | true =>
    by_cases h1 : x = i1
    · by_cases h2 : y = i2
      · have HE := HR true (by rw [beq_iff_eq.2 h1, beq_iff_eq.2 h2]; rfl)
        subst h1; subst h2
        clear HR
        go_enter Try.func54, Try.ntmps54
        go_wp2_with fail
        go_ret
        exact ⟨HE.out, HB.out.alloc HB.out.size _⟩
      · have HE := HR false (by rw [beq_eq_false_iff_ne.2 h2, Bool.and_false]; rfl)
        subst h1
        have hb2 : (y == i2) = false := beq_eq_false_iff_ne.2 h2
        clear HR h2
        go_enter Try.func54, Try.ntmps54
        go_wp2_with fail
        go_ret
        exact ⟨HE.out, HB.out.alloc HB.out.size _⟩
    · have HE := HR false (by rw [beq_eq_false_iff_ne.2 h1]; rfl)
      have hb2 : (x == i1) = false := beq_eq_false_iff_ne.2 h1
      clear HR h1
      go_enter Try.func54, Try.ntmps54
      go_wp2_with fail
      go_ret
      exact ⟨HE.out, HB.out.alloc HB.out.size _⟩

theorem new3 {w V : World} {T : TypeId} {b : Bool} {x y : Int} (hb : Below (w.alloc (.cells #[.bool b, .int .i64 x, .int .i64 y] T)).heap.size (w.alloc (.cells #[.bool b, .int .i64 x, .int .i64 y] T)) V) :
    V.cell? ⟨w.heap.size, 0, none⟩ = some (.bool b) ∧ V.cell? ⟨w.heap.size, 1, none⟩ = some (.int .i64 x) ∧ V.cell? ⟨w.heap.size, 2, none⟩ = some (.int .i64 y) := by
  have k : ∀ {p : Addr} {v : Value}, (w.alloc (.cells #[.bool b, .int .i64 x, .int .i64 y] T)).cell? p = some v → V.cell? p = some v := fun h => by rw [hb.cell (World.block_lt_of_cell? _ _ h)]; exact h
  exact ⟨k (cell_new w (k := 0) rfl), k (cell_new w (k := 1) rfl), k (cell_new w (k := 2) rfl)⟩

set_option maxHeartbeats 1000000 in
theorem Find_I (a : Option Addr) (n c : Nat) (ts : List Bg.It) (i : Bool) (x y : Int) (w : World) (hT : ISl w a n c ts) (hn : n ≤ 1099511627776) :
    Calls Try.prog 42 #[.slice a n c, .agg #[.bool i, .int .i64 x, .int .i64 y]] w fun e w' => e = .returned (.int .i64 (idx (Bg.hit ⟨i, x, y⟩) ts)) ∧ Below w.heap.size w w' := by
  have hB0 : Below w.heap.size w (w.alloc (.cells #[.bool i, .int .i64 x, .int .i64 y] 68)) := (Below.refl _ w).alloc (Nat.le_refl _) _
  obtain ⟨n0, n1, n2⟩ := new3 (Below.refl _ (w.alloc (.cells #[.bool i, .int .i64 x, .int .i64 y] 68)))
  have I1 := IndexFunc_I a n c ts _ #[.pointer (some ⟨w.heap.size, 0, none⟩)] (Bg.hit ⟨i, x, y⟩) _ (by omega) eg_find (hT.keep hB0) (pred_find _ w.heap.size ⟨i, x, y⟩ (by rw [World.size_alloc]; omega) n0 n1 n2)
  have HB := Lib.hid hB0
  clear n0 n1 n2 hB0 hT
  generalize idx (Bg.hit ⟨i, x, y⟩) ts = r at *
  go_enter Try.func42, Try.ntmps42
  go_wp2_with fail
  with_reducible refine I1.mono ?_
  rintro e w' ⟨rfl, hb⟩
  go_wp2_with fail
  go_ret
  exact ⟨rfl, HB.out.trans (hb.mono HB.out.size)⟩

end Go.Proofs.Ythccdoejnklidaa
