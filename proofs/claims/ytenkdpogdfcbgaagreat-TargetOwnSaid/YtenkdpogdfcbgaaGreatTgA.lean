/- Walks: a target that is asked by rows of numbers. -/
import Derived.Test.YtenkdpogdfcbgaaGreatTgW2
import Derived.Test.YtenkdpogdfcbgaaGreatArgsC
import Derived.Test.YtenkdpogdfcbgaaGreatArgsO
import Derived.Deep.RegionHeld3
import Derived.Deep.CutRange
import Derived.BigQuiet
namespace Go.Proofs.YtenkdpogdfcbgaaGreat
open Go.RowKit

theorem wi_eqA (k : Int) (n : Nat) (h1 : 1 ≤ n) (h2 : n ≤ 9223372036854775807) : wrap64 ((IntKind.u64.wrap k).tmod ↑n) = (wi k n : Int) := by
  have e : IntKind.u64.wrap k = k % 18446744073709551616 := IntKind.wrap_u64 k
  have h0 : 0 ≤ k % 18446744073709551616 := Int.emod_nonneg _ (by omega)
  rw [e, Int.tmod_eq_emod_of_nonneg h0]
  have h3 := Int.emod_nonneg (k % 18446744073709551616) (b := n) (by omega)
  have h4 := Int.emod_lt_of_pos (k % 18446744073709551616) (b := n) (by omega)
  rw [IntWalk.wrap64_in _ ⟨by omega, by omega⟩]
  unfold wi
  omega

set_option maxHeartbeats 400000 in
theorem within_all (k N : Int) (n : Nat) (w : World) (hN : N = n) (h1 : 1 ≤ n) (h2 : n ≤ 9223372036854775807) :
    Calls Tryz.prog 20 #[.int .i64 k, .int .i64 N] w fun e w' => e = .returned (.int .i64 (wi k n)) ∧ w = w' := by
  subst hN
  go_enter Tryz.func20, Tryz.ntmps20
  go_wp2
  go_ret
  exact ⟨congrArg (fun x => Ending.returned (.int .i64 x)) (wi_eqA k n h1 h2), rfl⟩

/-- The cells of a row of numbers, at their places. -/
theorem CArg.at_ {w : World} {b : Option Addr} {n : Nat} {f : Nat → Int} (h : CArg w b n f) (h0 : 0 < n) : ∃ xb xo xs, b = some ⟨xb, xo, xs⟩ ∧ xb < w.heap.size ∧ w.cell? ⟨xb, xo, xs⟩ = some (.int .i64 (f 0)) ∧ ∀ i, 0 < i → i < n → w.cell? ⟨xb, xo + i, none⟩ = some (.int .i64 (f i)) := by
  obtain ⟨x, rfl, hlt, hc⟩ := h.cell 0 h0
  obtain ⟨xb, xo, xs⟩ := x
  refine ⟨xb, xo, xs, rfl, hlt, hc, fun i hi hn => ?_⟩
  obtain ⟨y, hy, -, hd⟩ := h.cell i hn
  cases hy
  have e : (⟨xb, xo, xs⟩ : Addr).add i = ⟨xb, xo + i, none⟩ := by unfold Addr.add; rw [if_neg (by omega)]
  rw [e] at hd
  exact hd

/-- Cells of a row of numbers and of a deed. -/
abbrev AskS (xb xo : Nat) (xs : Option Nat) (ob oo : Nat) (os : Option Nat) (v0 v1 o0 o1 o2 o3 o4 : Value) (V : World) : Prop :=
  V.cell? ⟨xb, xo, xs⟩ = some v0 ∧ V.cell? ⟨xb, xo + 1, none⟩ = some v1 ∧ V.cell? ⟨ob, oo, os⟩ = some o0 ∧ V.cell? ⟨ob, oo + 1, none⟩ = some o1 ∧ V.cell? ⟨ob, oo + 2, none⟩ = some o2 ∧ V.cell? ⟨ob, oo + 3, none⟩ = some o3 ∧ V.cell? ⟨ob, oo + 4, none⟩ = some o4

theorem AskS.drew {xb xo : Nat} {xs : Option Nat} {ob oo : Nat} {os : Option Nat} {v0 v1 o0 o1 o2 o3 o4 : Value} {V : World} (h : AskS xb xo xs ob oo os v0 v1 o0 o1 o2 o3 o4 V) : AskS xb xo xs ob oo os v0 v1 o0 o1 o2 o3 o4 V.drew := h

theorem AskS.grown {xb xo : Nat} {xs : Option Nat} {ob oo : Nat} {os : Option Nat} {v0 v1 o0 o1 o2 o3 o4 : Value} {V V' : World} {B : Nat} (h : AskS xb xo xs ob oo os v0 v1 o0 o1 o2 o3 o4 V) (hg : V.grownBy V' (some B)) (h1 : xb ≠ B) (h2 : ob ≠ B) : AskS xb xo xs ob oo os v0 v1 o0 o1 o2 o3 o4 V' := by
  have k1 : ∀ {o : Nat} {s : Option Nat} {x : Value}, V.cell? ⟨xb, o, s⟩ = some x → V'.cell? ⟨xb, o, s⟩ = some x := fun h => hg.cell h (fun e => h1 (Option.some.inj e))
  have k2 : ∀ {o : Nat} {s : Option Nat} {x : Value}, V.cell? ⟨ob, o, s⟩ = some x → V'.cell? ⟨ob, o, s⟩ = some x := fun h => hg.cell h (fun e => h2 (Option.some.inj e))
  exact ⟨k1 h.1, k1 h.2.1, k2 h.2.2.1, k2 h.2.2.2.1, k2 h.2.2.2.2.1, k2 h.2.2.2.2.2.1, k2 h.2.2.2.2.2.2⟩

set_option maxRecDepth 100000 in
set_option maxHeartbeats 16000000 in
theorem asks_T (B base G : Nat) (t : Tg.S) (L : Option Addr) (nl cl q : Nat) (N : Nat → Nat) (F : Nat → Nat → Int) (a0 : Option Addr) (len0 cap0 : Nat) (ops : List Lg.Op) (z w : World) (h : TgW w B base t G)
    (hL : LArgN z L nl cl N F) (hO : OArg z a0 len0 cap0 ops) (hz : Below z.heap.size z w) (hB : z.heap.size ≤ B) (hq : min nl 50 = q) (hG : G + q ≤ 1000) :
    Calls Tryz.prog 10 #[.pointer (some ⟨B, 0, none⟩), .slice L nl cl, .slice a0 len0 cap0] w (TgTo w B base (Tg.asks ops N F t q) (G + q) (.returned (.tuple #[]))) := by
  have hcap := hL.cap
  have hmax := hL.max
  unfold maxLen at hmax
  have hqi : min (nl : Int) 50 = (q : Int) := by omega
  have hqn : q ≤ nl := by omega
  have hqc : (q : Int) ≤ (cl : Int) := by omega
  have hq0 : (0 : Int) ≤ (q : Int) := by omega
  have HL := Lib.hid hL; have HO := Lib.hid hO; have HZ := Lib.hid hz; have HT := Lib.hid h; have HGB : Hid (w.grownBy w (some B)) := Lib.hid (gb_below (Below.refl _ _))
  have hl0 : len0 = ops.length := hO.1.len.symm
  have hcap0 := hO.1.cap
  have hmax0 := hO.1.max
  unfold maxLen at hmax0
  clear h hL hO hz hq
  subst hl0
  go_enter Tryz.func10, Tryz.ntmps10
  go_wp2_with fail
  go_loopw [18] (fun x wr => ∃ k : Nat, k ≤ q ∧ x = .int .i64 k ∧ Hid (TgW wr B base (Tg.asks ops N F t k) (G + k)) ∧ Hid (w.grownBy wr (some B)) ∧ Hid (Below z.heap.size z wr)) (fun x _ => q - (intOf x).toNat)
  case atStart => exact ⟨0, Nat.zero_le _, rfl, HT, HGB, HZ⟩
  case round =>
    obtain ⟨k, hk, rfl, TW, GW, ZW⟩ := hrel
    by_cases hlt : k < q
    · obtain ⟨x, b, cc, rfl, hxb, hxz, hC⟩ := HL.out.row k (by omega)
      have hxc : wr.cell? (x.add k) = some (.slice b (N k) cc) := by rw [ZW.out.cell (p := x.add k) (by rw [addr_block]; exact hxb)]; exact hxz
      have HAS : Hid (Tg.asks ops N F t (k + 1) = Tg.ask ops (Tg.asks ops N F t k) (N k) (F k)) := Lib.hid rfl
      obtain ⟨T, hT⟩ : ∃ T, Tg.asks ops N F t k = T := ⟨_, rfl⟩
      rw [hT] at TW HAS
      have hnm := hC.max
      unfold maxLen at hnm
      have HCA := Lib.hid hC
      obtain ⟨T2, hT2⟩ : ∃ T2, Tg.asks ops N F t (k + 1) = T2 := ⟨_, rfl⟩
      have HT2 := Lib.hid hT2
      rw [hT2] at HAS
      generalize N k = n at *
      generalize F k = f at *
      clear hT hT2 hC hxz
      have REL : Hid (∀ (w' : World), TgW w' B base T2 (G + (k + 1)) → wr.grownBy w' (some B) → TgW w' B base (Tg.asks ops N F t (k + 1)) (G + (k + 1)) ∧ w.grownBy w' (some B) ∧ Below z.heap.size z w') := Lib.hid fun w' h1 h2 => ⟨by rw [HT2.out]; exact h1, gb_trans GW.out h2, ZW.out.grown h2 ZW.out.size (fun j e => by have := Option.some.inj e; omega)⟩
      by_cases hn2 : n < 2
      · have HAS2 : Hid (T = T2) := Lib.hid (by rw [HAS.out, Tg.ask, if_pos hn2])
        have hb2 : decide ((n : Int) < 2) = true := decide_eq_true (by omega)
        have HR := Lib.hid (REL.out wr (by rw [← HAS2.out]; exact TW.out.mono (Nat.le_succ _)) (gb_below (Below.refl _ _)))
        go_wp2_with fail
        go_roundw
        case rel => exact ⟨k + 1, hlt, by go_num, Lib.hid HR.out.1, Lib.hid HR.out.2.1, Lib.hid HR.out.2.2⟩
        case measure => simp [intOf]; omega
      · obtain ⟨xb, xo, xs, rfl, hxlt, hd0, hdi⟩ := HCA.out.at_ (by omega)
        have hc0 : wr.cell? ⟨xb, xo, xs⟩ = some (.int .i64 (f 0)) := by rw [ZW.out.cell (p := ⟨xb, xo, xs⟩) hxlt]; exact hd0
        have HCI : Hid (∀ i, 0 < i → i < n → wr.cell? ⟨xb, xo + i, none⟩ = some (.int .i64 (f i))) := Lib.hid fun i h1 h2 => by rw [ZW.out.cell (p := ⟨xb, xo + i, none⟩) hxlt]; exact hdi i h1 h2
        have hc1 := HCI.out 1 (by decide) (by omega)
        have hb2 : decide ((n : Int) < 2) = false := decide_eq_false (by omega)
        have hn0 : (0 : Int) < (n : Int) := by omega
        have hn1 : (1 : Int) < (n : Int) := by omega
        have hn0' : 0 < n := by omega
        have hn1' : 1 < n := by omega
        have W0 := fun W => within_any (f 0) 8 8 W rfl (by decide) (by decide)
        have W1 := fun W => within_any (f 1) 8 8 W rfl (by decide) (by decide)
        have hA8 := wi_lt (f 0) 8 (by decide)
        have hw8 := wi_lt (f 1) 8 (by decide)
        have HF0 := HAS.out
        rw [Tg.ask, if_neg hn2] at HF0
        have HF := Lib.hid HF0
        have hxB : xb ≠ B := by omega
        clear HF0 HAS hn2 hd0 hdi
        obtain ⟨A, hA⟩ : ∃ A, wi (f 0) 8 = A := ⟨_, rfl⟩
        obtain ⟨Y, hY⟩ : ∃ Y, wi (f 1) 8 = Y := ⟨_, rfl⟩
        rw [hA] at HF W0 hA8
        rw [hY] at HF W1 hw8
        clear hA hY
        by_cases hdo : A < 5 ∧ 0 < ops.length
        · obtain ⟨hA5, hol⟩ := hdo
          have HF1 := HF.out
          rw [if_pos ⟨hA5, hol⟩] at HF1
          have hb5 : decide ((A : Int) < 5) = true := decide_eq_true (by omega)
          have hbl : decide ((0 : Int) < (ops.length : Int)) = true := decide_eq_true (by omega)
          have hDl := wi_lt (IntKind.i64.wrap ((f 0).tdiv 8)) ops.length hol
          have WD := fun W => within_all (IntKind.i64.wrap ((f 0).tdiv 8)) (ops.length : Int) ops.length W rfl hol (by omega)
          obtain ⟨D, hD⟩ : ∃ D, wi (IntKind.i64.wrap ((f 0).tdiv 8)) ops.length = D := ⟨_, rfl⟩
          rw [hD] at HF1 hDl WD
          clear hD
          have hgd : ops.getD D ⟨0, ⟨#[]⟩, ⟨#[]⟩, 0, ⟨#[]⟩⟩ = ops[D] := by rw [List.getD_eq_getElem?_getD, List.getElem?_eq_getElem hDl]; rfl
          rw [hgd] at HF1
          obtain ⟨XA, ob, oo, os, rfl, hXA, o0, o1, o2, o3, o4⟩ := HO.out.1.get hDl
          have hm := HO.out.2 ops[D] (List.getElem_mem hDl)
          have hob := World.block_lt_of_cell? z _ o0
          dsimp only at hob
          have HDO : Hid (∀ V, Below wr.heap.size wr V → Calls Tryz.prog 8 #[.pointer (some ⟨B, 0, none⟩), .int .i64 (Y : Nat), .agg #[.int .i64 ops[D].k, .string ops[D].nm, .string ops[D].tn, .int .i64 ops[D].a, .string ops[D].tx]] V fun e w' => (∃ E : Nat, e = .returned (.int .i64 E)) ∧ TgW w' B base T2 (G + (k + 1)) ∧ wr.grownBy w' (some B)) := Lib.hid fun V hb => by
            refine (Do_T B base (G + k) T (Y : Nat) ops[D] V (TW.out.keep hb) (by omega) (by omega) hm.1 hm.2.1 hm.2.2).mono ?_
            rintro e w' ⟨rfl, h1, h2⟩
            exact ⟨⟨_, rfl⟩, by rw [HF1]; exact h1.mono (Nat.le_succ _), gb_trans (gb_below hb) h2⟩
          have HSA : Hid (AskS xb xo xs ob oo os (.int .i64 (f 0)) (.int .i64 (f 1)) (.int .i64 ops[D].k) (.string ops[D].nm) (.string ops[D].tn) (.int .i64 ops[D].a) (.string ops[D].tx) wr) := Lib.hid ⟨hc0, hc1, by rw [ZW.out.cell (p := ⟨ob, oo, os⟩) hob]; exact o0, by rw [ZW.out.cell (p := ⟨ob, oo + 1, none⟩) hob]; exact o1, by rw [ZW.out.cell (p := ⟨ob, oo + 2, none⟩) hob]; exact o2, by rw [ZW.out.cell (p := ⟨ob, oo + 3, none⟩) hob]; exact o3, by rw [ZW.out.cell (p := ⟨ob, oo + 4, none⟩) hob]; exact o4⟩
          have hoB : ob ≠ B := by omega
          clear HF1 hgd hm o0 o1 o2 o3 o4
          generalize ops[D].k = f1 at *
          generalize ops[D].nm = f2 at *
          generalize ops[D].tn = f3 at *
          generalize ops[D].a = f4 at *
          generalize ops[D].tx = f5 at *
          obtain ⟨e0, e1, e2, e3, e4, e5, e6⟩ := HSA.out
          have HBr : Below wr.heap.size wr wr := Below.refl _ _
          have HBd : Below wr.heap.size wr wr.drew := (Below.refl _ wr).drew
          have hD1 : (D : Int) < (ops.length : Int) := by omega
          have hD0 : (0 : Int) ≤ (D : Int) := by omega
          clear hc0 hc1
          go_wp2_with fail
          with_reducible refine (W0 _).mono ?_
          rintro e w' ⟨rfl, rfl⟩
          go_wp2_with fail
          go_region_held3 (fun V => V.cell? ⟨xb, xo, xs⟩ = some (.int .i64 (f 0)) ∧ V.cell? ⟨xb, xo + 1, none⟩ = some (.int .i64 (f 1)) ∧ V.cell? ⟨ob, oo, os⟩ = some (.int .i64 f1) ∧ V.cell? ⟨ob, oo + 1, none⟩ = some (.string f2) ∧ V.cell? ⟨ob, oo + 2, none⟩ = some (.string f3) ∧ V.cell? ⟨ob, oo + 3, none⟩ = some (.int .i64 f4) ∧ V.cell? ⟨ob, oo + 4, none⟩ = some (.string f5))
            (first | with_reducible exact HSB.out | with_reducible exact AskS.drew HSA.out | with_reducible exact HSA.out)
            (first
              | (go_at_call 20; (with_reducible refine (W1 _).mono ?_); rintro e ws ⟨rfl, rfl⟩)
              | (go_at_call 20; (with_reducible refine (WD _).mono ?_); rintro e ws ⟨rfl, rfl⟩)
              | (go_at_call 8; (with_reducible refine (HDO.out _ (by first | with_reducible exact HBd | with_reducible exact HBr)).mono ?_); rintro e ws ⟨⟨E, rfl⟩, h1, h2⟩; have HSB := Lib.hid (AskS.grown HSA.out h2 hxB hoB); have HR := Lib.hid (REL.out ws h1 h2); clear h1 h2))
          all_goals
            go_wp2_with fail
            go_roundw
            case rel => exact ⟨k + 1, hlt, by go_num, Lib.hid HR.out.1, Lib.hid HR.out.2.1, Lib.hid HR.out.2.2⟩
            case measure => simp [intOf]; omega
        · have HF1 := HF.out
          rw [if_neg hdo] at HF1
          have HF2 := Lib.hid HF1
          clear HF1
          have hcond : (A < 5 ∧ ops.length = 0) ∨ 5 ≤ A := by omega
          clear hdo
          by_cases hn3 : 3 < n
          · have hb3 : decide ((3 : Int) < (n : Int)) = true := decide_eq_true (by omega)
            have hc2 := HCI.out 2 (by decide) (by omega)
            have hc3 := HCI.out 3 (by decide) hn3
            have hn2 : (2 : Int) < (n : Int) := by omega
            have hn3' : (3 : Int) < (n : Int) := by omega
            have hn2n : 2 < n := by omega
            have HF1 := HF2.out
            rw [if_pos hn3, if_pos hn3] at HF1
            have W2 : ∀ W, Calls Tryz.prog 20 #[.int .i64 (f 2), .int .i64 4] W fun e w' => e = .returned (.int .i64 (wi (f 2) 4 : Nat)) ∧ W = w' := fun W => within_any (f 2) 4 4 W rfl (by decide) (by decide)
            have W3 : ∀ W, Calls Tryz.prog 20 #[.int .i64 (f 3), .int .i64 4] W fun e w' => e = .returned (.int .i64 (wi (f 3) 4 : Nat)) ∧ W = w' := fun W => within_any (f 3) 4 4 W rfl (by decide) (by decide)
            have h24 := wi_lt (f 2) 4 (by decide)
            have h34 := wi_lt (f 3) 4 (by decide)
            generalize wi (f 2) 4 = aa at *
            generalize wi (f 3) 4 = bb at *
            have HF2 := Lib.hid HF1
            clear HF1
            rcases hcond with hcond | hcond
            · have hb5 : decide ((A : Int) < 5) = true := decide_eq_true (by omega)
              have hbl : decide ((0 : Int) < (ops.length : Int)) = false := decide_eq_false (by omega)
              have hA9 : A < 5 := hcond.1
              have hnl : ¬ (0 : Int) < (ops.length : Int) := by omega
              have hnl2 : ¬ 0 < ops.length := by omega
              clear hcond
              go_wp2_with fail
              with_reducible refine (W0 _).mono ?_
              rintro e w' ⟨rfl, rfl⟩
              go_wp2_with fail
              with_reducible refine (W1 _).mono ?_
              rintro e w' ⟨rfl, rfl⟩
              go_wp2_with fail
              have HS2 : Hid (wr.cell? ⟨xb, xo + 2, none⟩ = some (.int .i64 (f 2)) ∧ wr.cell? ⟨xb, xo + 3, none⟩ = some (.int .i64 (f 3))) := Lib.hid ⟨hc2, hc3⟩
              go_region_held3 (fun V => V.cell? ⟨xb, xo + 2, none⟩ = some (.int .i64 (f 2)) ∧ V.cell? ⟨xb, xo + 3, none⟩ = some (.int .i64 (f 3)))
                (first | with_reducible exact HS2.out | exact HS2.out)
                (first
                  | (go_at_call 20; (with_reducible refine (W2 _).mono ?_); rintro e ws ⟨rfl, rfl⟩)
                  | (go_at_call 20; (with_reducible refine (W3 _).mono ?_); rintro e ws ⟨rfl, rfl⟩))
              all_goals
                have HBW : Below wr.heap.size wr wr.drew := (Below.refl _ wr).drew
                by_cases hA5 : A = 5
                · subst hA5
                  have HF3 := HF2.out
                  rw [if_pos rfl] at HF3
                  have K := Register_T B base (G + k) T (Y : Nat) (aa : Nat) (bb : Nat) wr.drew (TW.out.keep HBW) (by omega) (by omega) (by omega) (by omega) (by omega)
                  rw [← HF3] at K
                  clear HF3
                  go_wp2_with fail
                  with_reducible refine (W0 _).mono ?_
                  rintro e w' ⟨rfl, rfl⟩
                  go_wp2_with fail
                  with_reducible refine K.mono ?_
                  rintro e ws ⟨rfl, h1, h2⟩
                  have HR := Lib.hid (REL.out ws h1 (gb_trans (gb_below HBW) h2))
                  clear h1 h2 K
                  go_wp2_with fail
                  go_roundw
                  case rel => exact ⟨k + 1, hlt, by go_num, Lib.hid HR.out.1, Lib.hid HR.out.2.1, Lib.hid HR.out.2.2⟩
                  case measure => simp [intOf]; omega
                · by_cases hA6 : A = 6
                  · subst hA6
                    have HF3 := HF2.out
                    rw [if_neg (by decide), if_pos rfl] at HF3
                    have KI := fun W => Rs.kinds_R (bb : Nat) W
                    have K := fun (W : World) (hb : Below (wr.drew).heap.size (wr.drew) W) => Reserve_T B base (G + k) T (Y : Nat) (aa : Nat) (Rg.kinds (bb : Nat)) W (((TW.out.keep HBW)).keep hb) (by omega) (by omega) (Rg.kinds_ok _)
                    rw [← HF3] at K
                    clear HF3
                    go_wp2_with fail
                    with_reducible refine (W0 _).mono ?_
                    rintro e w' ⟨rfl, rfl⟩
                    go_wp2_with fail
                    with_reducible refine (KI _).mono ?_
                    rintro e wk ⟨rfl, hbk⟩
                    have K1 := K wk hbk
                    go_wp2_with fail
                    with_reducible refine K1.mono ?_
                    rintro e ws ⟨rfl, h1, h2⟩
                    have HR := Lib.hid (REL.out ws (h1.mono (Nat.le_succ _)) (gb_trans (gb_below (HBW.trans (hbk.mono HBW.size))) h2))
                    clear h1 h2 K
                    go_wp2_with fail
                    go_roundw
                    case rel => exact ⟨k + 1, hlt, by go_num, Lib.hid HR.out.1, Lib.hid HR.out.2.1, Lib.hid HR.out.2.2⟩
                    case measure => simp [intOf]; omega
                  · have HF3 := HF2.out
                    rw [if_neg hA5, if_neg hA6] at HF3
                    have hb5 : ((A : Int) == 5) = false := beq_eq_false_iff_ne.2 (by omega)
                    have hb6 : ((A : Int) == 6) = false := beq_eq_false_iff_ne.2 (by omega)
                    have KI := fun W => Rs.kinds_R (bb : Nat) W
                    have K := fun (W : World) (hb : Below (wr.drew).heap.size (wr.drew) W) => Release_T B base (G + k) T (Y : Nat) (aa : Nat) (Rg.kinds (bb : Nat)) W (((TW.out.keep HBW)).keep hb) (by omega) (by omega) (Rg.kinds_ok _)
                    rw [← HF3] at K
                    clear HF3
                    go_wp2_with fail
                    with_reducible refine (W0 _).mono ?_
                    rintro e w' ⟨rfl, rfl⟩
                    go_wp2_with fail
                    with_reducible refine (KI _).mono ?_
                    rintro e wk ⟨rfl, hbk⟩
                    have K1 := K wk hbk
                    go_wp2_with fail
                    with_reducible refine K1.mono ?_
                    rintro e ws ⟨rfl, h1, h2⟩
                    have HR := Lib.hid (REL.out ws (h1.mono (Nat.le_succ _)) (gb_trans (gb_below (HBW.trans (hbk.mono HBW.size))) h2))
                    clear h1 h2 K
                    go_wp2_with fail
                    go_roundw
                    case rel => exact ⟨k + 1, hlt, by go_num, Lib.hid HR.out.1, Lib.hid HR.out.2.1, Lib.hid HR.out.2.2⟩
                    case measure => simp [intOf]; omega
            · have hb5 : decide ((A : Int) < 5) = false := decide_eq_false (by omega)
              go_wp2_with fail
              with_reducible refine (W0 _).mono ?_
              rintro e w' ⟨rfl, rfl⟩
              go_wp2_with fail
              with_reducible refine (W1 _).mono ?_
              rintro e w' ⟨rfl, rfl⟩
              go_wp2_with fail
              have HS2 : Hid (wr.cell? ⟨xb, xo + 2, none⟩ = some (.int .i64 (f 2)) ∧ wr.cell? ⟨xb, xo + 3, none⟩ = some (.int .i64 (f 3))) := Lib.hid ⟨hc2, hc3⟩
              go_region_held3 (fun V => V.cell? ⟨xb, xo + 2, none⟩ = some (.int .i64 (f 2)) ∧ V.cell? ⟨xb, xo + 3, none⟩ = some (.int .i64 (f 3)))
                (first | with_reducible exact HS2.out | exact HS2.out)
                (first
                  | (go_at_call 20; (with_reducible refine (W2 _).mono ?_); rintro e ws ⟨rfl, rfl⟩)
                  | (go_at_call 20; (with_reducible refine (W3 _).mono ?_); rintro e ws ⟨rfl, rfl⟩))
              all_goals
                have HBW : Below wr.heap.size wr wr.drew := (Below.refl _ wr).drew
                by_cases hA5 : A = 5
                · subst hA5
                  have HF3 := HF2.out
                  rw [if_pos rfl] at HF3
                  have K := Register_T B base (G + k) T (Y : Nat) (aa : Nat) (bb : Nat) wr.drew (TW.out.keep HBW) (by omega) (by omega) (by omega) (by omega) (by omega)
                  rw [← HF3] at K
                  clear HF3
                  go_wp2_with fail
                  with_reducible refine (W0 _).mono ?_
                  rintro e w' ⟨rfl, rfl⟩
                  go_wp2_with fail
                  with_reducible refine K.mono ?_
                  rintro e ws ⟨rfl, h1, h2⟩
                  have HR := Lib.hid (REL.out ws h1 (gb_trans (gb_below HBW) h2))
                  clear h1 h2 K
                  go_wp2_with fail
                  go_roundw
                  case rel => exact ⟨k + 1, hlt, by go_num, Lib.hid HR.out.1, Lib.hid HR.out.2.1, Lib.hid HR.out.2.2⟩
                  case measure => simp [intOf]; omega
                · by_cases hA6 : A = 6
                  · subst hA6
                    have HF3 := HF2.out
                    rw [if_neg (by decide), if_pos rfl] at HF3
                    have KI := fun W => Rs.kinds_R (bb : Nat) W
                    have K := fun (W : World) (hb : Below (wr.drew).heap.size (wr.drew) W) => Reserve_T B base (G + k) T (Y : Nat) (aa : Nat) (Rg.kinds (bb : Nat)) W (((TW.out.keep HBW)).keep hb) (by omega) (by omega) (Rg.kinds_ok _)
                    rw [← HF3] at K
                    clear HF3
                    go_wp2_with fail
                    with_reducible refine (W0 _).mono ?_
                    rintro e w' ⟨rfl, rfl⟩
                    go_wp2_with fail
                    with_reducible refine (KI _).mono ?_
                    rintro e wk ⟨rfl, hbk⟩
                    have K1 := K wk hbk
                    go_wp2_with fail
                    with_reducible refine K1.mono ?_
                    rintro e ws ⟨rfl, h1, h2⟩
                    have HR := Lib.hid (REL.out ws (h1.mono (Nat.le_succ _)) (gb_trans (gb_below (HBW.trans (hbk.mono HBW.size))) h2))
                    clear h1 h2 K
                    go_wp2_with fail
                    go_roundw
                    case rel => exact ⟨k + 1, hlt, by go_num, Lib.hid HR.out.1, Lib.hid HR.out.2.1, Lib.hid HR.out.2.2⟩
                    case measure => simp [intOf]; omega
                  · have HF3 := HF2.out
                    rw [if_neg hA5, if_neg hA6] at HF3
                    have hb5 : ((A : Int) == 5) = false := beq_eq_false_iff_ne.2 (by omega)
                    have hb6 : ((A : Int) == 6) = false := beq_eq_false_iff_ne.2 (by omega)
                    have KI := fun W => Rs.kinds_R (bb : Nat) W
                    have K := fun (W : World) (hb : Below (wr.drew).heap.size (wr.drew) W) => Release_T B base (G + k) T (Y : Nat) (aa : Nat) (Rg.kinds (bb : Nat)) W (((TW.out.keep HBW)).keep hb) (by omega) (by omega) (Rg.kinds_ok _)
                    rw [← HF3] at K
                    clear HF3
                    go_wp2_with fail
                    with_reducible refine (W0 _).mono ?_
                    rintro e w' ⟨rfl, rfl⟩
                    go_wp2_with fail
                    with_reducible refine (KI _).mono ?_
                    rintro e wk ⟨rfl, hbk⟩
                    have K1 := K wk hbk
                    go_wp2_with fail
                    with_reducible refine K1.mono ?_
                    rintro e ws ⟨rfl, h1, h2⟩
                    have HR := Lib.hid (REL.out ws (h1.mono (Nat.le_succ _)) (gb_trans (gb_below (HBW.trans (hbk.mono HBW.size))) h2))
                    clear h1 h2 K
                    go_wp2_with fail
                    go_roundw
                    case rel => exact ⟨k + 1, hlt, by go_num, Lib.hid HR.out.1, Lib.hid HR.out.2.1, Lib.hid HR.out.2.2⟩
                    case measure => simp [intOf]; omega
          · have hb3 : decide ((3 : Int) < (n : Int)) = false := decide_eq_false (by omega)
            have HF1 := HF2.out
            rw [if_neg hn3, if_neg hn3] at HF1
            have HF2 := Lib.hid HF1
            clear HF1
            have HBW : Below wr.heap.size wr wr := Below.refl _ _
            rcases hcond with hcond | hcond
            · have hb5 : decide ((A : Int) < 5) = true := decide_eq_true (by omega)
              have hbl : decide ((0 : Int) < (ops.length : Int)) = false := decide_eq_false (by omega)
              have hA9 : A < 5 := hcond.1
              have hnl : ¬ (0 : Int) < (ops.length : Int) := by omega
              have hnl2 : ¬ 0 < ops.length := by omega
              clear hcond
              go_wp2_with fail
              with_reducible refine (W0 _).mono ?_
              rintro e w' ⟨rfl, rfl⟩
              go_wp2_with fail
              with_reducible refine (W1 _).mono ?_
              rintro e w' ⟨rfl, rfl⟩
              by_cases hA5 : A = 5
              · subst hA5
                have HF3 := HF2.out
                rw [if_pos rfl] at HF3
                have K := Register_T B base (G + k) T (Y : Nat) 0 0 wr TW.out (by omega) (by omega) (by omega) (by omega) (by omega)
                rw [← HF3] at K
                clear HF3
                go_wp2_with fail
                with_reducible refine (W0 _).mono ?_
                rintro e w' ⟨rfl, rfl⟩
                go_wp2_with fail
                with_reducible refine K.mono ?_
                rintro e ws ⟨rfl, h1, h2⟩
                have HR := Lib.hid (REL.out ws h1 (gb_trans (gb_below HBW) h2))
                clear h1 h2 K
                go_wp2_with fail
                go_roundw
                case rel => exact ⟨k + 1, hlt, by go_num, Lib.hid HR.out.1, Lib.hid HR.out.2.1, Lib.hid HR.out.2.2⟩
                case measure => simp [intOf]; omega
              · by_cases hA6 : A = 6
                · subst hA6
                  have HF3 := HF2.out
                  rw [if_neg (by decide), if_pos rfl] at HF3
                  have KI := fun W => Rs.kinds_R 0 W
                  have K := fun (W : World) (hb : Below (wr).heap.size (wr) W) => Reserve_T B base (G + k) T (Y : Nat) 0 (Rg.kinds 0) W ((TW.out).keep hb) (by omega) (by omega) (Rg.kinds_ok _)
                  rw [← HF3] at K
                  clear HF3
                  go_wp2_with fail
                  with_reducible refine (W0 _).mono ?_
                  rintro e w' ⟨rfl, rfl⟩
                  go_wp2_with fail
                  with_reducible refine (KI _).mono ?_
                  rintro e wk ⟨rfl, hbk⟩
                  have K1 := K wk hbk
                  go_wp2_with fail
                  with_reducible refine K1.mono ?_
                  rintro e ws ⟨rfl, h1, h2⟩
                  have HR := Lib.hid (REL.out ws (h1.mono (Nat.le_succ _)) (gb_trans (gb_below (HBW.trans (hbk.mono HBW.size))) h2))
                  clear h1 h2 K
                  go_wp2_with fail
                  go_roundw
                  case rel => exact ⟨k + 1, hlt, by go_num, Lib.hid HR.out.1, Lib.hid HR.out.2.1, Lib.hid HR.out.2.2⟩
                  case measure => simp [intOf]; omega
                · have HF3 := HF2.out
                  rw [if_neg hA5, if_neg hA6] at HF3
                  have hb5 : ((A : Int) == 5) = false := beq_eq_false_iff_ne.2 (by omega)
                  have hb6 : ((A : Int) == 6) = false := beq_eq_false_iff_ne.2 (by omega)
                  have KI := fun W => Rs.kinds_R 0 W
                  have K := fun (W : World) (hb : Below (wr).heap.size (wr) W) => Release_T B base (G + k) T (Y : Nat) 0 (Rg.kinds 0) W ((TW.out).keep hb) (by omega) (by omega) (Rg.kinds_ok _)
                  rw [← HF3] at K
                  clear HF3
                  go_wp2_with fail
                  with_reducible refine (W0 _).mono ?_
                  rintro e w' ⟨rfl, rfl⟩
                  go_wp2_with fail
                  with_reducible refine (KI _).mono ?_
                  rintro e wk ⟨rfl, hbk⟩
                  have K1 := K wk hbk
                  go_wp2_with fail
                  with_reducible refine K1.mono ?_
                  rintro e ws ⟨rfl, h1, h2⟩
                  have HR := Lib.hid (REL.out ws (h1.mono (Nat.le_succ _)) (gb_trans (gb_below (HBW.trans (hbk.mono HBW.size))) h2))
                  clear h1 h2 K
                  go_wp2_with fail
                  go_roundw
                  case rel => exact ⟨k + 1, hlt, by go_num, Lib.hid HR.out.1, Lib.hid HR.out.2.1, Lib.hid HR.out.2.2⟩
                  case measure => simp [intOf]; omega
            · have hb5 : decide ((A : Int) < 5) = false := decide_eq_false (by omega)
              go_wp2_with fail
              with_reducible refine (W0 _).mono ?_
              rintro e w' ⟨rfl, rfl⟩
              go_wp2_with fail
              with_reducible refine (W1 _).mono ?_
              rintro e w' ⟨rfl, rfl⟩
              by_cases hA5 : A = 5
              · subst hA5
                have HF3 := HF2.out
                rw [if_pos rfl] at HF3
                have K := Register_T B base (G + k) T (Y : Nat) 0 0 wr TW.out (by omega) (by omega) (by omega) (by omega) (by omega)
                rw [← HF3] at K
                clear HF3
                go_wp2_with fail
                with_reducible refine (W0 _).mono ?_
                rintro e w' ⟨rfl, rfl⟩
                go_wp2_with fail
                with_reducible refine K.mono ?_
                rintro e ws ⟨rfl, h1, h2⟩
                have HR := Lib.hid (REL.out ws h1 (gb_trans (gb_below HBW) h2))
                clear h1 h2 K
                go_wp2_with fail
                go_roundw
                case rel => exact ⟨k + 1, hlt, by go_num, Lib.hid HR.out.1, Lib.hid HR.out.2.1, Lib.hid HR.out.2.2⟩
                case measure => simp [intOf]; omega
              · by_cases hA6 : A = 6
                · subst hA6
                  have HF3 := HF2.out
                  rw [if_neg (by decide), if_pos rfl] at HF3
                  have KI := fun W => Rs.kinds_R 0 W
                  have K := fun (W : World) (hb : Below (wr).heap.size (wr) W) => Reserve_T B base (G + k) T (Y : Nat) 0 (Rg.kinds 0) W ((TW.out).keep hb) (by omega) (by omega) (Rg.kinds_ok _)
                  rw [← HF3] at K
                  clear HF3
                  go_wp2_with fail
                  with_reducible refine (W0 _).mono ?_
                  rintro e w' ⟨rfl, rfl⟩
                  go_wp2_with fail
                  with_reducible refine (KI _).mono ?_
                  rintro e wk ⟨rfl, hbk⟩
                  have K1 := K wk hbk
                  go_wp2_with fail
                  with_reducible refine K1.mono ?_
                  rintro e ws ⟨rfl, h1, h2⟩
                  have HR := Lib.hid (REL.out ws (h1.mono (Nat.le_succ _)) (gb_trans (gb_below (HBW.trans (hbk.mono HBW.size))) h2))
                  clear h1 h2 K
                  go_wp2_with fail
                  go_roundw
                  case rel => exact ⟨k + 1, hlt, by go_num, Lib.hid HR.out.1, Lib.hid HR.out.2.1, Lib.hid HR.out.2.2⟩
                  case measure => simp [intOf]; omega
                · have HF3 := HF2.out
                  rw [if_neg hA5, if_neg hA6] at HF3
                  have hb5 : ((A : Int) == 5) = false := beq_eq_false_iff_ne.2 (by omega)
                  have hb6 : ((A : Int) == 6) = false := beq_eq_false_iff_ne.2 (by omega)
                  have KI := fun W => Rs.kinds_R 0 W
                  have K := fun (W : World) (hb : Below (wr).heap.size (wr) W) => Release_T B base (G + k) T (Y : Nat) 0 (Rg.kinds 0) W ((TW.out).keep hb) (by omega) (by omega) (Rg.kinds_ok _)
                  rw [← HF3] at K
                  clear HF3
                  go_wp2_with fail
                  with_reducible refine (W0 _).mono ?_
                  rintro e w' ⟨rfl, rfl⟩
                  go_wp2_with fail
                  with_reducible refine (KI _).mono ?_
                  rintro e wk ⟨rfl, hbk⟩
                  have K1 := K wk hbk
                  go_wp2_with fail
                  with_reducible refine K1.mono ?_
                  rintro e ws ⟨rfl, h1, h2⟩
                  have HR := Lib.hid (REL.out ws (h1.mono (Nat.le_succ _)) (gb_trans (gb_below (HBW.trans (hbk.mono HBW.size))) h2))
                  clear h1 h2 K
                  go_wp2_with fail
                  go_roundw
                  case rel => exact ⟨k + 1, hlt, by go_num, Lib.hid HR.out.1, Lib.hid HR.out.2.1, Lib.hid HR.out.2.2⟩
                  case measure => simp [intOf]; omega
    · obtain rfl : k = q := by omega
      go_wp2_with fail
      go_end0
      exact ⟨rfl, TW.out, GW.out⟩

end Go.Proofs.YtenkdpogdfcbgaaGreat
