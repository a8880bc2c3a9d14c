/- The walk of bag.Put: a text that is not there yet. -/
import Derived.Test.YteddendidjhmbaaBgW6
import Derived.Test.YteddendidjhmbaaBgP4
import Derived.Deep.CutRange
namespace Go.Proofs.Yteddendidjhmbaa
open Go.RowKit

theorem rowIs_item (w : World) (x y q : Int) (z : ByteArray) : (w.alloc (.cells #[.int .i64 x, .int .i64 y, .string z, .int .i64 q] 37)).rowIs w.heap.size 37 4 (fun j => [Value.int .i64 x, .int .i64 y, .string z, .int .i64 q].getD j (.int .i64 0)) :=
  ⟨#[.int .i64 x, .int .i64 y, .string z, .int .i64 q], by show (w.heap.push _)[w.heap.size]? = _; rw [Array.getElem?_push, if_pos rfl], rfl, fun j hj => by
    rcases j with _ | _ | _ | _ | j
    · rfl
    · rfl
    · rfl
    · rfl
    · omega⟩

theorem bxs_four {W : World} {B : Nat} {v0 v1 v2 v3 : Value} (h : Bxs W B [v0, v1, v2, v3]) : W.cell? ⟨B, 0, none⟩ = some v0 ∧ W.cell? ⟨B, 1, none⟩ = some v1 ∧ W.cell? ⟨B, 2, none⟩ = some v2 ∧ W.cell? ⟨B, 3, none⟩ = some v3 :=
  ⟨h.c 0 _ rfl, h.c 1 _ rfl, h.c 2 _ rfl, h.c 3 _ rfl⟩

set_option maxRecDepth 100000 in
set_option maxHeartbeats 4000000 in
theorem Put_full (a : Option Addr) (n c : Nat) (ts : List Bg.It) (t : ByteArray) (w : World) (hT : ISl w a n c ts) (hs : ∀ t ∈ ts, t.text.size ≤ maxLen) (hE : Bg.checkE Bg.Pr ts = 0) (ht : t.size ≤ 64) (hr : ts.findIdx? (Bg.same t) = none) (hn : n = 64) :
    Calls Try.prog 22 #[.slice a n c, .string t] w (PutTo w ⟨[], Bg.noId, 8⟩) := by
  obtain ⟨hB0, hX, hY⟩ := put_boxes w t 9 26
  have C1 := Check_I a n c ts _ (hT.keep hB0) hs
  rw [hE] at C1
  have CL : ∀ V, Below w.heap.size w V → Calls Try.prog 30 #[.slice a n c] V fun e w' => ∃ v, e = .returned v ∧ w'.ownsRow V.heap.size 37 4 v n (tv ts) ∧ Below V.heap.size V w' := fun V hb => Clone_I a n c ts V (hT.keep hb) (by omega)
  have HT := Lib.hid hT
  have HB := Lib.hid hB0; have HY := Lib.hid hY; have HX := Lib.hid hX
  have HI := Lib.hid (idx_none hr)
  have HN := Lib.hid hn
  have hnl : n ≤ 64 := by omega
  clear hT hB0 hs hX hY hE hr hn
  go_enter Try.func22, Try.ntmps22
  go_wp2_with fail
  with_reducible refine C1.mono ?_
  rintro e w1 ⟨rfl, hb1⟩
  have HB1 := Lib.hid (HB.out.trans (hb1.mono HB.out.size))
  have HY1 := Lib.hid (HY.out.on hb1)
  have HX1 := Lib.hid (HX.out.on hb1)
  have x0 := HX1.out.c 0 _ rfl
  clear hb1 C1
  go_wp2_with fail
  with_reducible refine (CL _ HB1.out).mono ?_
  rintro e w2 ⟨v, rfl, ho2, hb2⟩
  have HB2 := Lib.hid (HB1.out.trans (hb2.mono HB1.out.size))
  have HY2 := Lib.hid (HY1.out.on hb2)
  have HX2 := Lib.hid (HX1.out.on hb2)
  obtain ⟨a3, n3, rfl, hS⟩ := isl_own ho2 HT.out.len
  have I1 := IndexFunc_I _ n _ ts _ #[.pointer (some ⟨w.heap.size, 0, none⟩)] (Bg.same t) w2 (by rw [HN.out]; omega) eg_put hS (pred_put w2 w.heap.size t HX2.out.lt (HX2.out.c 0 _ rfl))
  rw [HI.out] at I1
  clear hb2 CL x0 hS ho2
  go_wp2_with fail
  with_reducible refine I1.mono ?_
  rintro e w3 ⟨rfl, hb3⟩
  have HB3 := Lib.hid (HB2.out.trans (hb3.mono HB2.out.size))
  have HY3 := Lib.hid (HY2.out.on hb3)
  clear hb3 I1
  have c0 := HY3.out.c 0 _ rfl; have c1 := HY3.out.c 1 _ rfl; have c2 := HY3.out.c 2 _ rfl
  have f0 := HY3.out.z 0 (by decide); have f1 := HY3.out.z 1 (by decide); have f2 := HY3.out.z 2 (by decide)
  have hn64 : ((n : Int) == 64) = true := by rw [HN.out]; rfl
  go_wp2_with fail
  refine bodyPost_ret (put_result (B := w.heap.size + 1) rfl rfl rfl (HY3.out.set3 _ _ _)) rfl ?_
  exact putTo_err (below_set3 HB3.out (by omega) _ _ _)

set_option maxRecDepth 100000 in
set_option maxHeartbeats 8000000 in
theorem Put_new (a : Option Addr) (n c : Nat) (ts : List Bg.It) (t : ByteArray) (w : World) (hT : ISl w a n c ts) (hs : ∀ t ∈ ts, t.text.size ≤ maxLen) (hE : Bg.checkE Bg.Pr ts = 0) (ht : t.size ≤ 64) (hr : ts.findIdx? (Bg.same t) = none) (hn64 : n ≠ 64)
    (fr : Nat) (hf1 : fr ≤ ts.length) (hf2 : ∀ j : Nat, j < fr → ts.any (Bg.hit ⟨true, Bg.Pr t, (j : Int)⟩) = true) (hf3 : ts.any (Bg.hit ⟨true, Bg.Pr t, (fr : Int)⟩) = false) :
    Calls Try.prog 22 #[.slice a n c, .string t] w (PutTo w ⟨Bg.ins ts ⟨Bg.Pr t, fr, t, 1⟩, ⟨true, Bg.Pr t, fr⟩, 0⟩) := by
  obtain ⟨hB0, hX, hY⟩ := put_boxes w t 9 26
  have C1 := Check_I a n c ts _ (hT.keep hB0) hs
  rw [hE] at C1
  have hn : n ≤ 64 := by rw [← hT.len]; exact Bg.check_len hE
  have hfn : fr ≤ n := by rw [← hT.len]; exact hf1
  have CL : ∀ V, Below w.heap.size w V → Calls Try.prog 30 #[.slice a n c] V fun e w' => ∃ v, e = .returned v ∧ w'.ownsRow V.heap.size 37 4 v n (tv ts) ∧ Below V.heap.size V w' := fun V hb => Clone_I a n c ts V (hT.keep hb) (by omega)
  have FC : ∀ (k : Int) V, Below w.heap.size w V → Calls Try.prog 61 #[.slice a n c, .agg #[.bool true, .int .i64 (Bg.Pr t), .int .i64 k]] V fun e w' => e = .returned (.int .i64 (idx (Bg.hit ⟨true, Bg.Pr t, k⟩) ts)) ∧ Below V.heap.size V w' := fun k V hb => Find_I a n c ts true (Bg.Pr t) k V (hT.keep hb) (by omega)
  have HSo := Lib.hid (Bg.check_sorted hE)
  have HFi : Hid (∀ x ∈ ts, Bg.Fit x) := Lib.hid fun x hx => (Bg.one_fit (Bg.check_one hE hx)).1
  have HT := Lib.hid hT
  have HB := Lib.hid hB0; have HY := Lib.hid hY; have HX := Lib.hid hX
  have HI := Lib.hid (idx_none hr)
  have HF2 := Lib.hid hf2; have HF3 := Lib.hid hf3
  have PL := Plain_I t (by unfold maxLen; omega)
  have hp := Bg.Pr_lt t
  clear hT hB0 hs hX hY hE hr hf2 hf3 hf1
  generalize Bg.Pr t = p at *
  obtain ⟨hp1, hp2⟩ := hp
  have HIN : Hid (∀ k, k ≤ ts.length → (∀ m (hm : m < ts.length), m < k → Bg.cmp ts[m] ⟨p, fr, t, 1⟩ < 0) → (∀ m (hm : m < ts.length), k ≤ m → 0 ≤ Bg.cmp ts[m] ⟨p, fr, t, 1⟩) → Bg.ins ts ⟨p, fr, t, 1⟩ = ts.take k ++ ⟨p, fr, t, 1⟩ :: ts.drop k) := Lib.hid fun k h0 h1 h2 => Bg.ins_at h0 h1 h2
  have hb64 : ((n : Int) == 64) = false := beq_eq_false_iff_ne.2 (by omega)
  generalize hRR : Bg.ins ts ⟨p, fr, t, 1⟩ = RR at *
  clear hRR hn64
  go_enter Try.func22, Try.ntmps22
  go_wp2_with fail
  with_reducible refine C1.mono ?_
  rintro e w1 ⟨rfl, hb1⟩
  have HB1 := Lib.hid (HB.out.trans (hb1.mono HB.out.size))
  have HY1 := Lib.hid (HY.out.on hb1)
  have HX1 := Lib.hid (HX.out.on hb1)
  have x0 := HX1.out.c 0 _ rfl
  clear hb1 C1
  go_wp2_with fail
  with_reducible refine (CL _ HB1.out).mono ?_
  rintro e w2 ⟨v, rfl, ho2, hb2⟩
  have HB2 := Lib.hid (HB1.out.trans (hb2.mono HB1.out.size))
  have HY2 := Lib.hid (HY1.out.on hb2)
  have HX2 := Lib.hid (HX1.out.on hb2)
  obtain ⟨a3, n3, rfl, hS⟩ := isl_own ho2 HT.out.len
  have I1 := IndexFunc_I _ n _ ts _ #[.pointer (some ⟨w.heap.size, 0, none⟩)] (Bg.same t) w2 (by omega) eg_put hS (pred_put w2 w.heap.size t HX2.out.lt (HX2.out.c 0 _ rfl))
  rw [HI.out] at I1
  have HO2 := Lib.hid ho2
  have hb2s := hb2.size
  clear hb2 CL x0 hS ho2
  go_wp2_with fail
  with_reducible refine I1.mono ?_
  rintro e w3 ⟨rfl, hb3⟩
  have hw13 : w1.heap.size ≤ w3.heap.size := Nat.le_trans hb2s hb3.size
  have HB3 := Lib.hid (HB2.out.trans (hb3.mono HB2.out.size))
  have HY3 := Lib.hid (HY2.out.on hb3)
  have HX3 := Lib.hid (HX2.out.on hb3)
  have HO3 := Lib.hid (own_keep HO2.out hb3)
  have x0 := HX3.out.c 0 _ rfl
  clear hb3 I1
  go_wp2_with fail
  go_upto_region 15 with (fail)
  go_cut [10] from 61 to 64 (fun s10 wx => ∃ B : Nat, s10 = .pointer (some ⟨B, 0, none⟩) ∧ w3.heap.size ≤ B ∧ Hid (Bxs wx B [.int .i64 p, .int .i64 0, .string t, .int .i64 1]) ∧ Hid (Below w3.heap.size w3 wx))
  case first =>
    go_region_held3 (fun V => V.cell? ⟨w.heap.size, 0, none⟩ = some (.string t))
      (first | with_reducible exact HX3.out.drew.c 0 _ rfl | with_reducible exact (HX3.out.alloc _).drew.c 0 _ rfl | with_reducible exact HX3.out.drew.drew.c 0 _ rfl)
      ((go_at_call 60; refine (PL _).mono ?_; rintro e w' ⟨rfl, rfl⟩))
    all_goals
      go_wp2_with fail
      go_meet
      case rel => exact ⟨w3.heap.size, rfl, Nat.le_refl _, Lib.hid (by first | exact (bxs_new _ _ _ _ rfl).drew), Lib.hid (((Below.refl _ w3).alloc (Nat.le_refl _) _).drew)⟩
  case rest =>
    obtain ⟨B, rfl, hB, HZ, HW⟩ := hcut
    have HNE : Hid (∀ m k, (Value.slice a3 m n3).ownBlock = some k → w1.heap.size ≤ k ∧ k < w3.heap.size) := Lib.hid fun m j hj => ⟨row_base HO3.out j (by cases a3 <;> exact hj), own_block_lt HO3.out j (by cases a3 <;> exact hj)⟩
    have hw1 := HY1.out.lt
    have hw3 := HB3.out.size
    clear x0 PL
    go_wp2_with fail
    go_loopg [] n (fun gg wr => ∃ k : Nat, k ≤ fr ∧ n - k ≤ gg ∧ Hid (Bxs wr B [.int .i64 p, .int .i64 k, .string t, .int .i64 1]) ∧ Hid (Below w3.heap.size w3 wr))
    case atStart => exact ⟨0, Nat.zero_le _, by omega, HZ, HW⟩
    case round =>
      obtain ⟨k, hk, hg, HZk, HWk⟩ := hrel
      have HB4 := Lib.hid (HB3.out.trans (HWk.out.mono hw3))
      have z0 := HZk.out.c 0 _ rfl; have z1 := HZk.out.c 1 _ rfl; have z2 := HZk.out.c 2 _ rfl; have z3 := HZk.out.c 3 _ rfl
      have zf := HZk.out.z 1 (show 1 < 4 by decide)
      have F1 := FC (k : Int) wr HB4.out
      by_cases hlt : k < fr
      · have hge : 0 ≤ idx (Bg.hit ⟨true, p, (k : Int)⟩) ts := of_decide_eq_true ((idx_any _ _).trans (HF2.out k hlt))
        generalize idx (Bg.hit ⟨true, p, (k : Int)⟩) ts = r at *
        go_wp2_with fail
        with_reducible refine F1.mono ?_
        rintro e w5 ⟨rfl, hb5⟩
        have HZ5 := Lib.hid (HZk.out.on hb5)
        have HW5 := Lib.hid (HWk.out.trans (hb5.mono HWk.out.size))
        clear z0 z1 z2 z3 zf hb5 F1
        have z1 := HZ5.out.c 1 _ rfl
        have zf := HZ5.out.z 1 (show 1 < 4 by decide)
        have HZ6 := Lib.hid (HZ5.out.set 1 (show 1 < 4 by decide) (.int .i64 ((k : Int) + 1)) rfl)
        have HW6 := Lib.hid (HW5.out.setCell hB (p := ⟨B, 1, none⟩) (.int .i64 ((k : Int) + 1)))
        go_wp2_with fail
        go_roundg (n - (k + 1))
        case measure => omega
        case rel => exact ⟨k + 1, hlt, by omega, HZ6, HW6⟩
      · obtain rfl : k = fr := by omega
        have hge : idx (Bg.hit ⟨true, p, (k : Int)⟩) ts < 0 := by
          have h := of_decide_eq_false ((idx_any _ _).trans HF3.out)
          omega
        generalize idx (Bg.hit ⟨true, p, (k : Int)⟩) ts = r at *
        go_wp2_with fail
        with_reducible refine F1.mono ?_
        rintro e w5 ⟨rfl, hb5⟩
        have HZ5 := Lib.hid (HZk.out.on hb5)
        have HW5 := Lib.hid (HWk.out.trans (hb5.mono HWk.out.size))
        clear z0 z1 z2 z3 zf hb5 F1
        have z0 := HZ5.out.c 0 _ rfl; have z1 := HZ5.out.c 1 _ rfl; have z2 := HZ5.out.c 2 _ rfl; have z3 := HZ5.out.c 3 _ rfl
        have HO5 := Lib.hid (own_keep HO3.out HW5.out)
        obtain ⟨a5, n5, he5, hS5⟩ := isl_own HO5.out HT.out.len
        cases he5
        have S1 := Search_I p k 1 t a3 n n3 ts w5 hS5 hn ⟨hp1, hp2, by show (0 : Int) ≤ (k : Int); omega, by show (k : Int) ≤ 64; omega⟩ HSo.out HFi.out
        clear hS5
        go_wp2_with fail
        with_reducible refine S1.mono ?_
        rintro e w6 ⟨kk, bb, rfl, hk6, hA6, hC6, hb6⟩
        have HRR := Lib.hid (HIN.out kk (by rw [HT.out.len]; exact hk6) hA6 hC6)
        have HZ6 := Lib.hid (HZ5.out.on hb6)
        have HW6 := Lib.hid (HW5.out.trans (hb6.mono HW5.out.size))
        have HO6 := Lib.hid (own_keep HO5.out hb6)
        clear z0 z1 z2 z3 hb6 S1 hA6 hC6
        have HO6' := Lib.hid ((HO6.out.alloc (.cells #[.int .i64 p, .int .i64 k, .string t, .int .i64 1] 37)).drew)
        have K7 := Insert_I a3 n n3 kk w1.heap.size w6.heap.size p k 1 t ts _ HO6'.out hk6 hn (by show w1.heap.size ≤ (w6.alloc _).heap.size; have := HW6.out.size; have := hw13; rw [World.size_alloc]; omega) (fun j hj => by have := HNE.out n j hj; have := HW6.out.size; omega) (rowIs_drew (rowIs_item w6 p k 1 t))
        have HY6 := Lib.hid (HY3.out.on HW6.out)
        have hBne : w.heap.size + 1 ≠ B := by omega
        clear HB4
        go_wp2_with fail
        go_region_held3 (fun V => V.cell? ⟨B, 0, none⟩ = some (.int .i64 p) ∧ V.cell? ⟨B, 1, none⟩ = some (.int .i64 k) ∧ V.cell? ⟨B, 2, none⟩ = some (.string t) ∧ V.cell? ⟨B, 3, none⟩ = some (.int .i64 1))
          (first | with_reducible exact bxs_four HZ8.out | with_reducible exact bxs_four HZ7.out | with_reducible exact bxs_four HZ6.out.drew | with_reducible exact bxs_four (HZ6.out.alloc _).drew)
          ((go_at_call 64; with_reducible refine K7.mono ?_; rintro e w7 ⟨a7, c7, rfl, hO7, hg7, hl7⟩; have HZ7 : Hid (Bxs w7 B [.int .i64 p, .int .i64 k, .string t, .int .i64 1]) := Lib.hid ((HZ6.out.alloc _).drew.grown hg7 (fun e => by have := HNE.out n _ e.symm; omega)); have HY7 : Hid (Bxs w7 (w.heap.size + 1) [.bool false, .int .i64 0, .int .i64 0]) := Lib.hid ((HY6.out.alloc _).drew.grown hg7 (fun e => by have := HNE.out n _ e.symm; omega)); have c0 := HY7.out.c 0 _ rfl; have c1 := HY7.out.c 1 _ rfl; have c2 := HY7.out.c 2 _ rfl; have f0 := HY7.out.z 0 (by decide); have f1 := HY7.out.z 1 (by decide); have f2 := HY7.out.z 2 (by decide); have HZ8 := Lib.hid (((HZ7.out.other (i := 0) hBne (.bool true)).other (i := 1) hBne (.int .i64 p)).other (i := 2) hBne (.int .i64 k))))
        have HB6 := Lib.hid (HB3.out.trans (HW6.out.mono hw3))
        have hw6 := HW6.out.size
        have HB7 := Lib.hid (own_grown HO6'.out ((HB6.out.alloc HB6.out.size (.cells #[.int .i64 p, .int .i64 k, .string t, .int .i64 1] 37)).drew) (by omega) (by show w.heap.size ≤ (w6.alloc _).heap.size; rw [World.size_alloc]; omega) hg7)
        have HNB : Hid ((Value.slice a7 (n + 1) c7).ownBlock ≠ some (w.heap.size + 1)) := Lib.hid fun h => by
          rcases hl7 _ h with h | h
          · have := HNE.out n _ h; omega
          · have h : w.heap.size + 1 = (w6.alloc (.cells #[.int .i64 p, .int .i64 k, .string t, .int .i64 1] 37)).heap.size := h
            rw [World.size_alloc] at h; omega
        have HO7 := Lib.hid (own_low hO7 (show w.heap.size ≤ w1.heap.size by omega))
        clear hO7 hg7 hl7 K7
        go_wp2_with fail
        refine bodyPost_ret (put_result (B := w.heap.size + 1) rfl rfl rfl (HY7.out.set3 _ _ _)) rfl ?_
        exact ⟨_, _, _, rfl, HRR.out ▸ (own_other (own_other (own_other HO7.out HNB.out _) HNB.out _) HNB.out _), by
          show RR.length = n + 1
          rw [HRR.out, List.length_append, List.length_cons, List.length_take, List.length_drop, HT.out.len]; omega, below_set3 HB7.out (by omega) _ _ _⟩

end Go.Proofs.Yteddendidjhmbaa
