import Derived.Test.YtenkdpogdfcbgaaSkW
/- The walks of slices.Contains at whatever records, woolref.Item, woolref.Alive. -/
namespace Go.Proofs.Ytenkdpogdfcbgaa
open Go.RowKit

set_option maxRecDepth 100000 in
set_option maxHeartbeats 4000000 in
theorem Index_R (a : Option Addr) (n c : Nat) (l : List Sg.R) (r : Sg.R) (w : World) (hO : RSl w a n c l) (hn : n ≤ 1099511627776) :
    Calls Try.prog 116 #[.slice a n c, .agg #[.bool r.id.is, .int .i64 r.id.sum, .int .i64 r.id.n, .string r.tx]] w fun e w' => e = .returned (.int .i64 (idxG (fun x => decide (x = r)) l)) ∧ Below w.heap.size w w' := by
  obtain ⟨w0, hw0⟩ : ∃ w0, w.alloc (.cells #[.bool r.id.is, .int .i64 r.id.sum, .int .i64 r.id.n, .string r.tx] 36) = w0 := ⟨_, rfl⟩
  have hal : Below w.heap.size w w0 := by rw [← hw0]; exact (Below.refl w.heap.size w).alloc (Nat.le_refl _) _
  have HX : Hid (Bxs w0 w.heap.size [.bool r.id.is, .int .i64 r.id.sum, .int .i64 r.id.n, .string r.tx]) := Lib.hid (by rw [← hw0]; exact bxs_new w _ _ _ rfl)
  have HB := Lib.hid hal; have HO := Lib.hid (hO.keep hal); have HL := Lib.hid hO.len
  clear hal hO
  go_enter Try.func116, Try.ntmps116
  go_wp2_with fail
  go_loopw [8] (fun x wr => ∃ k : Nat, k ≤ n ∧ x = .int .i64 k ∧ (∃ j, wr = w0.drewN j) ∧ Hid (∀ j < k, ∀ y, l[j]? = some y → (decide (y = r)) = false)) (fun x _ => n - (intOf x).toNat)
  case atStart => exact ⟨0, Nat.zero_le _, rfl, ⟨0, by first | rfl | exact hw0⟩, Lib.hid fun j hj => by omega⟩
  case round =>
    obtain ⟨k, hk, rfl, ⟨j, rfl⟩, HP⟩ := hrel
    by_cases hlt : k < n
    · have hkl : k < l.length := by rw [HL.out]; exact hlt
      obtain ⟨A, gb, go, gs, rfl, hA, c0, c1, c2, c3⟩ := HO.out.get hkl
      have x0 := HX.out.c 0 _ rfl; have x1 := HX.out.c 1 _ rfl; have x2 := HX.out.c 2 _ rfl; have x3 := HX.out.c 3 _ rfl
      have HN : Hid (¬ l[k] = r → Hid (∀ j < k + 1, ∀ y, l[j]? = some y → (decide (y = r)) = false)) := Lib.hid fun hne => Lib.hid fun j hj y hy => by
        by_cases hjk : j < k
        · exact HP.out j hjk y hy
        · obtain rfl : j = k := by omega
          rw [List.getElem?_eq_getElem hkl] at hy
          cases hy
          exact decide_eq_false hne
      have HH : Hid (l[k] = r → idxG (fun x => decide (x = r)) l = (k : Int)) := Lib.hid fun he => idxG_hit (List.getElem?_eq_getElem hkl) (decide_eq_true he) HP.out
      clear hw0
      generalize l[k] = x at *
      obtain ⟨⟨p1, p2, p3⟩, p4⟩ := x
      obtain ⟨⟨f1, f2, f3⟩, f4⟩ := r
      dsimp only at *
      by_cases h1 : f1 = p1
      · subst h1
        by_cases h2 : f2 = p2
        · subst h2
          by_cases h3 : f3 = p3
          · subst h3
            by_cases h4 : f4 = p4
            · subst h4
              have HI := Lib.hid (HH.out rfl)
              clear HH HN
              go_wp2_with fail
              go_region
              all_goals
                go_wp2_with fail
                go_ret
                rw [HI.out]
                exact ⟨rfl, below_drewN HB.out _⟩
            · have h5 : ¬ f4.toList = p4.toList := fun h => h4 (Bg.bs_same.1 h)
              have h6 : (f4.toList == p4.toList) = false := beq_eq_false_iff_ne.2 h5
              have h7 : ¬ p4.toList = f4.toList := fun h => h5 h.symm
              go_wp2_with fail
              go_region
              all_goals
                go_wp2_with fail
                go_roundw
                case rel => exact ⟨k + 1, hlt, by go_num, ⟨j + 1, rfl⟩, HN.out (by intro h; cases h; exact h4 rfl)⟩
                case measure => simp [intOf]; omega
          · have h5 : ¬ p3 = f3 := fun h => h3 h.symm
            go_wp2_with fail
            go_region
            all_goals
              go_wp2_with fail
              go_roundw
              case rel => exact ⟨k + 1, hlt, by go_num, ⟨j + 1, rfl⟩, HN.out (by intro h; cases h; exact h3 rfl)⟩
              case measure => simp [intOf]; omega
        · have h5 : ¬ p2 = f2 := fun h => h2 h.symm
          go_wp2_with fail
          go_region
          all_goals
            go_wp2_with fail
            go_roundw
            case rel => exact ⟨k + 1, hlt, by go_num, ⟨j + 1, rfl⟩, HN.out (by intro h; cases h; exact h2 rfl)⟩
            case measure => simp [intOf]; omega
      · have h5 : ¬ p1 = f1 := fun h => h1 h.symm
        go_wp2_with fail
        go_region
        all_goals
          go_wp2_with fail
          go_roundw
          case rel => exact ⟨k + 1, hlt, by go_num, ⟨j + 1, rfl⟩, HN.out (by intro h; cases h; exact h1 rfl)⟩
          case measure => simp [intOf]; omega
    · obtain rfl : k = n := by omega
      have hm : idxG (fun x => decide (x = r)) l = -1 := idxG_miss fun j hj => HP.out j (by rw [← HL.out]; exact hj)
      go_wp2_with fail
      go_ret
      rw [hm]
      exact ⟨rfl, below_drewN HB.out _⟩

theorem Contains_R (a : Option Addr) (n c : Nat) (l : List Sg.R) (r : Sg.R) (w : World) (hO : RSl w a n c l) (hn : n ≤ 1000000) :
    Calls Try.prog 23 #[.slice a n c, .agg #[.bool r.id.is, .int .i64 r.id.sum, .int .i64 r.id.n, .string r.tx]] w fun e w' => e = .returned (.bool (l.any fun x => decide (x = r))) ∧ Below w.heap.size w w' := by
  have hal : Below w.heap.size w (w.alloc (.cells #[.bool r.id.is, .int .i64 r.id.sum, .int .i64 r.id.n, .string r.tx] 36)) := (Below.refl w.heap.size w).alloc (Nat.le_refl _) _
  have K1 := Index_R a n c l r (w.alloc (.cells #[.bool r.id.is, .int .i64 r.id.sum, .int .i64 r.id.n, .string r.tx] 36)) (hO.keep hal) (by omega)
  have HA := Lib.hid (idxG_any (fun x => decide (x = r)) l)
  have HB := Lib.hid hal
  generalize idxG (fun x => decide (x = r)) l = I at *
  generalize (l.any fun x => decide (x = r)) = B at *
  clear hal hO
  go_enter Try.func23, Try.ntmps23
  go_wp2_with fail
  with_reducible refine K1.mono ?_
  rintro e w1 ⟨rfl, hb1⟩
  have HB1 := Lib.hid (HB.out.trans (hb1.mono HB.out.size))
  clear K1 hb1
  go_wp2_with fail
  go_ret
  exact ⟨by rw [← HA.out]; rfl, HB1.out⟩

set_option maxRecDepth 100000 in
set_option maxHeartbeats 4000000 in
theorem Item_E (a : Option Addr) (n c : Nat) (ts : List Bg.It) (f1 : Bool) (f2 f3 : Int) (w : World) (hT : ISl w a n c ts) (hn : n ≤ 1000000) :
    Calls Try.prog 201 #[.slice a n c, .agg #[.bool f1, .int .i64 f2, .int .i64 f3]] w fun e w' => e = .returned (.int .i64 (idx (Bg.hit ⟨f1, f2, f3⟩) ts)) ∧ Below w.heap.size w w' := by
  obtain ⟨w0, hw0⟩ : ∃ w0, w.alloc (.cells #[.bool f1, .int .i64 f2, .int .i64 f3] 29) = w0 := ⟨_, rfl⟩
  have hal : Below w.heap.size w w0 := by rw [← hw0]; exact (Below.refl w.heap.size w).alloc (Nat.le_refl _) _
  have HX : Hid (Bxs w0 w.heap.size [.bool f1, .int .i64 f2, .int .i64 f3]) := Lib.hid (by rw [← hw0]; exact bxs_new w _ _ _ rfl)
  have HB := Lib.hid hal; have HT := Lib.hid (hT.keep hal); have HL := Lib.hid hT.len
  have hnc := hT.cap
  clear hal hT
  go_enter Try.func201, Try.ntmps201
  go_wp2_with fail
  go_loopw [9] (fun x wr => ∃ k : Nat, k ≤ n ∧ x = .int .i64 k ∧ Hid (Below w0.heap.size w0 wr) ∧ Hid (∀ j (hj : j < ts.length), j < k → Bg.hit ⟨f1, f2, f3⟩ ts[j] = false)) (fun x _ => n - (intOf x).toNat)
  case atStart => exact ⟨0, Nat.zero_le _, rfl, Lib.hid (Below.refl _ _), Lib.hid fun j _ hj => by omega⟩
  case round =>
    obtain ⟨k, hk, rfl, HW, HP⟩ := hrel
    by_cases hlt : k < n
    · have hkl : k < ts.length := by rw [HL.out]; exact hlt
      obtain ⟨A, gb, go, gs, rfl, hA, c0, c1, c2, c3⟩ := (HT.out.keep HW.out).get hkl
      have hX := HX.out.on HW.out
      have x0 := hX.c 0 _ rfl; have x1 := hX.c 1 _ rfl; have x2 := hX.c 2 _ rfl
      have hbl := hX.lt
      have HN : Hid (Bg.hit ⟨f1, f2, f3⟩ ts[k] = false → Hid (∀ j (hj : j < ts.length), j < k + 1 → Bg.hit ⟨f1, f2, f3⟩ ts[j] = false)) := Lib.hid fun hne => Lib.hid fun j hj hjk => by
        by_cases h : j < k
        · exact HP.out j hj h
        · obtain rfl : j = k := by omega
          exact hne
      have HH : Hid (Bg.hit ⟨f1, f2, f3⟩ ts[k] = true → idx (Bg.hit ⟨f1, f2, f3⟩) ts = (k : Int)) := Lib.hid fun he => idx_hit hkl he fun j hj => HP.out j (by omega) hj
      have hq : Bg.hit ⟨f1, f2, f3⟩ ts[k] = (f1 && (ts[k].sum == f2 && ts[k].n == f3)) := rfl
      rw [hq] at HN HH
      have HBA : Hid (Below w0.heap.size w0 (wr.alloc (.cells #[.int .i64 ts[k].sum, .int .i64 ts[k].n, .string ts[k].text, .int .i64 ts[k].refs] 43))) := Lib.hid (HW.out.alloc HW.out.size _)
      clear hX hq hw0
      generalize ts[k].sum = p1 at *
      generalize ts[k].n = p2 at *
      generalize ts[k].text = p3 at *
      generalize ts[k].refs = p4 at *
      cases f1 with
      | false =>
        have HI := HN.out rfl
        clear HN HH
        go_wp2_with fail
        go_roundw
        case rel => exact ⟨k + 1, hlt, by go_num, HBA, HI⟩
        case measure => simp [intOf]; omega
      | true =>
        by_cases h1 : f2 = p1
        · subst h1
          by_cases h2 : f3 = p2
          · subst h2
            have HI := Lib.hid (HH.out (by simp))
            clear HN HH
            go_wp2_with fail
            go_ret
            rw [HI.out]
            exact ⟨rfl, HB.out.trans (HBA.out.mono HB.out.size)⟩
          · have h3 : ¬ p2 = f3 := fun h => h2 h.symm
            have HI := HN.out (by simp [h3])
            clear HN HH
            go_wp2_with fail
            go_roundw
            case rel => exact ⟨k + 1, hlt, by go_num, HBA, HI⟩
            case measure => simp [intOf]; omega
        · have h3 : ¬ p1 = f2 := fun h => h1 h.symm
          have HI := HN.out (by simp [h3])
          clear HN HH
          go_wp2_with fail
          go_roundw
          case rel => exact ⟨k + 1, hlt, by go_num, HBA, HI⟩
          case measure => simp [intOf]; omega
    · obtain rfl : k = n := by omega
      have hm : idx (Bg.hit ⟨f1, f2, f3⟩) ts = -1 := idx_miss fun j hj => HP.out j hj (by rw [← HL.out]; exact hj)
      go_wp2_with fail
      go_ret
      rw [hm]
      exact ⟨rfl, HB.out.trans (HW.out.mono HB.out.size)⟩

end Go.Proofs.Ytenkdpogdfcbgaa
