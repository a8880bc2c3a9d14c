/- RightsOwn: reservations and tasks that are handed in stay as they are, and what is answered shares nothing with them; for every input. -/
import Derived.Test.YtenkdpogdfcbgaaOwnR
import Derived.Test.YtenkdpogdfcbgaaRwW
import Derived.Test.YtenkdpogdfcbgaaRgV
import Derived.Test.YtenkdpogdfcbgaaVoC
import Derived.Test.YtenkdpogdfcbgaaArgsL
import Derived.Test.YtenkdpogdfcbgaaArgs
import Derived.Test.YtenkdpogdfcbgaaArgsT
import Derived.Test.YtenkdpogdfcbgaaShelf
namespace Go.Proofs.Ytenkdpogdfcbgaa.Rs
open Go.RowKit

set_option maxHeartbeats 1000000 in
theorem Clone_I (a : Option Addr) (n c : Nat) (l : List Int) (w : World) (hZ : ZSl w a n c l) (hn : n ≤ 20) :
    Calls Try.prog 65 #[.slice a n c] w fun e w' => ∃ v, e = .returned v ∧ w'.ownsRow w.heap.size 3 1 v n (zv l) ∧ Below w.heap.size w w' := by
  have hl := hZ.len
  rcases a with _ | x
  · have h0 : l = [] := by
      rcases l with _ | ⟨y, l⟩
      · rfl
      · obtain ⟨g, o, h, -⟩ := hZ.at_ (by simp)
        cases h
    subst h0
    obtain rfl : n = 0 := by simpa using hl.symm
    refine (Try.slices_Clone_int_nil 0 c w).mono ?_
    rintro e w' ⟨rfl, rfl⟩
    exact ⟨_, rfl, World.ownsRow_nil _ _ _ _, Below.refl _ _⟩
  · by_cases h0 : n = 0
    · subst h0
      obtain rfl : l = [] := List.length_eq_zero_iff.1 hl
      refine (Try.slices_Clone_int_zero x c w).mono ?_
      rintro e w' ⟨v, rfl, h1, -, h2⟩
      exact ⟨v, rfl, h1, h2⟩
    · obtain ⟨g, o, h, -, hc⟩ := hZ.at_ (by rintro rfl; simp at hl; omega)
      cases h
      refine (Try.slices_Clone_int g o n c l w (by omega) (by omega) (fun j hj => ?_)).mono ?_
      · have := hc j l[j] (List.getElem?_eq_getElem hj)
        rw [this]
        simp [List.getD, hj]
      · rintro e w' ⟨v, rfl, h1, -, h2⟩
        rw [List.take_of_length_le (by omega)] at h1
        exact ⟨v, rfl, h1, h2⟩

set_option maxRecDepth 100000 in
set_option maxHeartbeats 16000000 in
theorem rights_core (L : Option Addr) (nl cl : Nat) (F : Nat → Nat → Int) (a1 : Option Addr) (n1 c1 : Nat) (f : Nat → Int) (a2 : Option Addr) (n2 c2 : Nat) (ts : List Qu.T) (p q : Int) (w : World) (hL : LArg w L nl cl F) (hC : CArg w a1 n1 f) (hT : TArg w a2 n2 c2 ts) :
    Calls Try.prog 9 #[.slice L nl cl, .slice a1 n1 c1, .slice a2 n2 c2, .agg #[.int .i64 p, .int .i64 q]] w fun e w' => e = .returned (.bool true) ∧ Below w.heap.size w w' := by
  obtain ⟨N, hN⟩ : ∃ N, min nl 60 = N := ⟨_, rfl⟩
  have HT4 : Hid (∀ w', Below w.heap.size w w' → Calls Try.prog 53 #[.slice L nl cl] w' fun e w'' => ∃ a n c, e = .returned (.agg #[.int .i64 (tS F N).gen, .slice a n c, .int .i64 (tS F N).kind, .int .i64 (tS F N).holder]) ∧
      w''.ownsRow w'.heap.size 109 2 (.slice a n c) n (tv (tS F N).regs) ∧ Below w'.heap.size w' w'') := Lib.hid fun w' hb => turned_R L nl cl N F w' (hL.keep hb) hN
  have HG := tS_good F N (by omega)
  have hN60 : N ≤ 60 := by omega
  have HCA := Lib.hid hC
  have HTA := Lib.hid hT
  clear hL hN hC hT
  generalize tS F N = Z at *
  obtain ⟨gg, rg, kx, hh⟩ := Z
  obtain ⟨HG, hgg⟩ := HG
  have hgg' : gg ≤ (N : Int) := hgg
  have hg1 : gg < 1000 := by omega
  have hg8 : rg.length ≤ 8 := HG.len
  have HG8 := Lib.hid hg8; have HGG := Lib.hid hg1
  have HTU : Hid (∃ E R, rz (Rg.tR ⟨gg, rg, kx, hh⟩ f) (Rg.tE ⟨gg, rg, kx, hh⟩ f) = R ∧ Rg.tE ⟨gg, rg, kx, hh⟩ f = E ∧ R.regs.length ≤ 8) := Lib.hid (by
    refine ⟨_, _, rfl, rfl, ?_⟩
    unfold rz
    split
    · rename_i h0
      exact (Rg.t_good HG hg1 f h0).1.len
    · simp [Rg.zero])
  have HG := Lib.hid HG
  clear hgg hgg' hg1 hg8 hN60
  have hal := (Below.refl w.heap.size w).alloc (Nat.le_refl _) (.cells #[.int .i64 p, .int .i64 q] 74)
  have HB := Lib.hid hal
  have TB := Lib.hid (bxs_new w 74 #[.int .i64 p, .int .i64 q] [.int .i64 p, .int .i64 q] rfl)
  have K1 := registered_R (w.alloc (.cells #[.int .i64 p, .int .i64 q] 74))
  clear hal
  go_enter Try.func9, Try.ntmps9
  go_wp2_with fail
  with_reducible refine K1.mono ?_
  rintro e w1 ⟨a0, q0, rfl, -, hb⟩
  have s1 : Hid (w.heap.size + 1 ≤ w1.heap.size) := Lib.hid (by have h := hb.size; (try simp only [World.size_alloc, World.size_setCell] at h); omega)
  have HB_ := Lib.hid (HB.out.trans (hb.mono HB.out.size))
  clear HB
  have HB := HB_
  clear HB_
  have TB_ := Lib.hid (TB.out.on hb)
  clear TB
  have TB := TB_
  clear TB_
  clear hb K1
  have hal := (Below.refl w1.heap.size w1).alloc (Nat.le_refl _) (.cells #[.int .i64 2, .slice a0 2 q0, .int .i64 0, .int .i64 0] 104)
  have HB_ := Lib.hid (HB.out.trans (hal.mono HB.out.size))
  clear HB
  have HB := HB_
  clear HB_
  have TB_ := Lib.hid (TB.out.on hal)
  clear TB
  have TB := TB_
  clear TB_
  have K2 := HT4.out (w1.alloc (.cells #[.int .i64 2, .slice a0 2 q0, .int .i64 0, .int .i64 0] 104)) HB.out
  clear hal HT4
  go_wp2_with fail
  with_reducible refine K2.mono ?_
  rintro e w2 ⟨a3, n3, c3, rfl, ho, hb⟩
  have s2 : Hid (w1.heap.size + 1 ≤ w2.heap.size) := Lib.hid (by have h := hb.size; (try simp only [World.size_alloc, World.size_setCell] at h); omega)
  have HB_ := Lib.hid (HB.out.trans (hb.mono HB.out.size))
  clear HB
  have HB := HB_
  clear HB_
  have TB_ := Lib.hid (TB.out.on hb)
  clear TB
  have TB := TB_
  clear TB_
  have HNIL : Hid (a3 = none → n3 = 0 ∧ c3 = 0) := Lib.hid (own_tsl ho (Below.refl _ _)).nil
  have OW := Lib.hid ho
  have HOWL : Hid (∀ k, (Value.slice a3 n3 c3).ownBlock = some k → k < w2.heap.size) := Lib.hid (own_block_lt ho)
  have HLN := Lib.hid (own_len ho)
  clear hb K2 ho
  have hal : Below w2.heap.size w2 ((w2.alloc (.cells #[.int .i64 gg, .slice a3 n3 c3, .int .i64 kx, .int .i64 hh] 104)).alloc (.cells #[.int .i64 gg, .slice a3 n3 c3, .int .i64 kx, .int .i64 hh] 104)) := ((Below.refl w2.heap.size w2).alloc (Nat.le_refl _) (.cells #[.int .i64 gg, .slice a3 n3 c3, .int .i64 kx, .int .i64 hh] 104)).alloc (by rw [World.size_alloc]; omega) (.cells #[.int .i64 gg, .slice a3 n3 c3, .int .i64 kx, .int .i64 hh] 104)
  have WB := Lib.hid ((r4_new w2 104 (.int .i64 gg) (.slice a3 n3 c3) (.int .i64 kx) (.int .i64 hh)).alloc (.cells #[.int .i64 gg, .slice a3 n3 c3, .int .i64 kx, .int .i64 hh] 104))
  have RB := Lib.hid (r4_new (w2.alloc (.cells #[.int .i64 gg, .slice a3 n3 c3, .int .i64 kx, .int .i64 hh] 104)) 104 (.int .i64 gg) (.slice a3 n3 c3) (.int .i64 kx) (.int .i64 hh))
  rw [World.size_alloc] at RB
  have HB_ := Lib.hid (HB.out.trans (hal.mono HB.out.size))
  clear HB
  have HB := HB_
  clear HB_
  have TB_ := Lib.hid (TB.out.on hal)
  clear TB
  have TB := TB_
  clear TB_
  have OW_ := Lib.hid (own_keep OW.out hal)
  clear OW
  have OW := OW_
  clear OW_
  have HSZ : Hid (w2.heap.size + 1 < ((w2.alloc (.cells #[.int .i64 gg, .slice a3 n3 c3, .int .i64 kx, .int .i64 hh] 104)).alloc (.cells #[.int .i64 gg, .slice a3 n3 c3, .int .i64 kx, .int .i64 hh] 104)).heap.size) := Lib.hid (by rw [World.size_alloc, World.size_alloc]; omega)
  have K3 := roomy_Reg a3 n3 c3 99 0 (tv rg) ((w2.alloc (.cells #[.int .i64 gg, .slice a3 n3 c3, .int .i64 kx, .int .i64 hh] 104)).alloc (.cells #[.int .i64 gg, .slice a3 n3 c3, .int .i64 kx, .int .i64 hh] 104)) (by rw [tv_length, HLN.out]) HNIL.out (fun ad h => by subst h; exact (own_tsl OW.out (Below.refl _ _)).cells) (tv_one rg) (by have := HLN.out; have := HG8.out; omega)
  clear hal
  have HOWT : Hid (∀ V, Below w2.heap.size w2 V → True) := Lib.hid fun _ _ => trivial
  clear HOWT
  obtain ⟨hl, c0, c1, c2', c3', z0, z1, z2, z3⟩ := WB.out
  obtain ⟨hm, d0, d1, d2, d3, y0, y1, y2, y3⟩ := RB.out
  go_wp2_with fail
  with_reducible refine K3.mono ?_
  rintro e w3 ⟨g, C, hC, rfl, hg, hr, hb⟩
  have s3 : Hid (w2.heap.size + 2 ≤ w3.heap.size) := Lib.hid (by have h := hb.size; (try simp only [World.size_alloc, World.size_setCell] at h); omega)
  clear hl c0 c1 c2' c3' z0 z1 z2 z3 hm d0 d1 d2 d3 y0 y1 y2 y3
  have HB_ := Lib.hid (HB.out.trans (hb.mono HB.out.size))
  clear HB
  have HB := HB_
  clear HB_
  have TB_ := Lib.hid (TB.out.on hb)
  clear TB
  have TB := TB_
  clear TB_
  have OW_ := Lib.hid (own_keep OW.out hb)
  clear OW
  have OW := OW_
  clear OW_
  have WB_ := Lib.hid (WB.out.on hb)
  clear WB
  have WB := WB_
  clear WB_
  have RB_ := Lib.hid (RB.out.on hb)
  clear RB
  have RB := RB_
  clear RB_
  have GR := Lib.hid hr
  have HCC := Lib.hid hC
  have HGX : Hid (w2.heap.size + 1 < g) := Lib.hid (Nat.lt_of_lt_of_le HSZ.out hg)
  have HGL : Hid (g < w3.heap.size) := Lib.hid hr.lt
  clear hC hg hr hb K3 HSZ
  obtain ⟨hm, d0, d1, d2, d3, y0, y1, y2, y3⟩ := RB.out
  have hgs : w3.grownBy (w3.setCell ⟨w2.heap.size + 1, 1, none⟩ (.slice (some ⟨g, 0, none⟩) n3 C)) (some (w2.heap.size + 1)) := grown_cell w3 (w2.heap.size + 1) 1 _
  have RB_ : Hid (R4 (w3.setCell ⟨w2.heap.size + 1, 1, none⟩ (.slice (some ⟨g, 0, none⟩) n3 C)) (w2.heap.size + 1) (.int .i64 gg) (.slice (some ⟨g, 0, none⟩) n3 C) (.int .i64 kx) (.int .i64 hh)) := Lib.hid (RB.out.set1 _)
  clear RB
  have RB := RB_
  clear RB_
  have HB_ := Lib.hid (HB.out.grown hgs HB.out.size (fun k e => by have := Option.some.inj e; have := s1.out; have := s2.out; have := s3.out; omega))
  clear HB
  have HB := HB_
  clear HB_
  have TB_ := Lib.hid (TB.out.grown hgs (fun e => by have := Option.some.inj e; have := s1.out; have := s2.out; have := s3.out; omega))
  clear TB
  have TB := TB_
  clear TB_
  have OW_ := Lib.hid (own_kept2 OW.out hgs (fun k hk e => by have := HOWL.out k hk; have := Option.some.inj e; omega))
  clear OW
  have OW := OW_
  clear OW_
  have WB_ := Lib.hid (WB.out.grown hgs (fun e => by have := Option.some.inj e; omega))
  clear WB
  have WB := WB_
  clear WB_
  have GR_ := Lib.hid (GR.out.blk (hgs.block _ GR.out.lt (fun e => by have := Option.some.inj e; have := HGX.out; omega)))
  clear GR
  have GR := GR_
  clear GR_
  have hgr : RoomReg (w3.setCell ⟨w2.heap.size + 1, 1, none⟩ (.slice (some ⟨g, 0, none⟩) n3 C)) g C (tv rg) [.int .i64 99, .int .i64 0] := GR.out
  have HT3 : Hid (TSl (w3.setCell ⟨w2.heap.size + 1, 1, none⟩ (.slice (some ⟨g, 0, none⟩) n3 C)) (some ⟨g, 0, none⟩) n3 C rg) := Lib.hid (own_tsl (GR.out.own (base := 0) (by rw [tv_length, HLN.out]) HCC.out (Nat.zero_le _) (by have := HCC.out; have := HLN.out; have := HG8.out; unfold maxLen; omega)) (Below.refl _ _))
  obtain ⟨E, R, hR, hE, hR8⟩ := HTU.out
  have K4 := turn_R gg kx hh (some ⟨g, 0, none⟩) n3 C rg a1 n1 c1 f (w3.setCell ⟨w2.heap.size + 1, 1, none⟩ (.slice (some ⟨g, 0, none⟩) n3 C)) HG.out HGG.out HT3.out (HCA.out.keep HB.out)
  rw [hR, hE] at K4
  have HR8 := Lib.hid hR8
  clear hR hE hR8 HTU hgs hgr
  obtain ⟨-, x0, x1, x2, x3, -, -, -, -⟩ := RB.out
  go_wp2_with fail
  with_reducible refine K4.mono ?_
  rintro e w4 ⟨a4, n4, c4, rfl, ho, hb⟩
  have s4 : Hid (w3.heap.size + 0 ≤ w4.heap.size) := Lib.hid (by have h := hb.size; (try simp only [World.size_alloc, World.size_setCell] at h); omega)
  clear hm d0 d1 d2 d3 y0 y1 y2 y3 x0 x1 x2 x3
  have hsz := hb.size
  rw [World.size_setCell] at hsz
  have HT3_ := Lib.hid (HT3.out.keep hb)
  clear HT3
  have HT3 := HT3_
  clear HT3_
  have HB_ := Lib.hid (HB.out.trans (hb.mono HB.out.size))
  clear HB
  have HB := HB_
  clear HB_
  have TB_ := Lib.hid (TB.out.on hb)
  clear TB
  have TB := TB_
  clear TB_
  have OW_ := Lib.hid (own_keep OW.out hb)
  clear OW
  have OW := OW_
  clear OW_
  have WB_ := Lib.hid (WB.out.on hb)
  clear WB
  have WB := WB_
  clear WB_
  have GR_ := Lib.hid (GR.out.on hb)
  clear GR
  have GR := GR_
  clear GR_
  have RB_ := Lib.hid (RB.out.on hb)
  clear RB
  have RB := RB_
  clear RB_
  have XO := Lib.hid (own_low ho (base := w3.heap.size) (by rw [World.size_setCell]; exact Nat.le_refl _))
  have HXU : Hid (∀ k, (Value.slice a4 n4 c4).ownBlock = some k → k < w4.heap.size) := Lib.hid (own_block_lt ho)
  clear ho hb K4 hsz
  have hal := (Below.refl w4.heap.size w4).alloc (Nat.le_refl _) (.cells #[.int .i64 R.gen, .slice a4 n4 c4, .int .i64 R.kind, .int .i64 R.holder] 104)
  have XB := Lib.hid (r4_new w4 104 (.int .i64 R.gen) (.slice a4 n4 c4) (.int .i64 R.kind) (.int .i64 R.holder))
  have HT3_ := Lib.hid (HT3.out.keep hal)
  clear HT3
  have HT3 := HT3_
  clear HT3_
  have HB_ := Lib.hid (HB.out.trans (hal.mono HB.out.size))
  clear HB
  have HB := HB_
  clear HB_
  have TB_ := Lib.hid (TB.out.on hal)
  clear TB
  have TB := TB_
  clear TB_
  have OW_ := Lib.hid (own_keep OW.out hal)
  clear OW
  have OW := OW_
  clear OW_
  have WB_ := Lib.hid (WB.out.on hal)
  clear WB
  have WB := WB_
  clear WB_
  have GR_ := Lib.hid (GR.out.on hal)
  clear GR
  have GR := GR_
  clear GR_
  have RB_ := Lib.hid (RB.out.on hal)
  clear RB
  have RB := RB_
  clear RB_
  have XO_ := Lib.hid (own_keep XO.out hal)
  clear XO
  have XO := XO_
  clear XO_
  have K5 := Clear_R gg kx hh 1 5 (some ⟨g, 0, none⟩) n3 C rg (w4.alloc (.cells #[.int .i64 R.gen, .slice a4 n4 c4, .int .i64 R.kind, .int .i64 R.holder] 104)) HG.out HT3.out (by decide) (by decide)
  clear hal
  obtain ⟨-, x0, x1, x2, x3, -, -, -, -⟩ := RB.out
  go_wp2_with fail
  with_reducible refine K5.mono ?_
  rintro e w5 ⟨a5, n5, c5, rfl, ho, hb⟩
  have s5 : Hid (w4.heap.size + 1 ≤ w5.heap.size) := Lib.hid (by have h := hb.size; (try simp only [World.size_alloc, World.size_setCell] at h); omega)
  clear x0 x1 x2 x3 HT3
  have HB_ := Lib.hid (HB.out.trans (hb.mono HB.out.size))
  clear HB
  have HB := HB_
  clear HB_
  have TB_ := Lib.hid (TB.out.on hb)
  clear TB
  have TB := TB_
  clear TB_
  have OW_ := Lib.hid (own_keep OW.out hb)
  clear OW
  have OW := OW_
  clear OW_
  have WB_ := Lib.hid (WB.out.on hb)
  clear WB
  have WB := WB_
  clear WB_
  have GR_ := Lib.hid (GR.out.on hb)
  clear GR
  have GR := GR_
  clear GR_
  have RB_ := Lib.hid (RB.out.on hb)
  clear RB
  have RB := RB_
  clear RB_
  have XO_ := Lib.hid (own_keep XO.out hb)
  clear XO
  have XO := XO_
  clear XO_
  have XB_ := Lib.hid (XB.out.on hb)
  clear XB
  have XB := XB_
  clear XB_
  obtain rfl : n5 = 0 := by have h1 := own_len ho; have h2 : (rz (Rg.clrR ⟨gg, rg, kx, hh⟩) (Rg.clrE ⟨gg, rg, kx, hh⟩ 1 5)).regs = [] := (by unfold rz; split <;> rfl); rw [h2] at h1; simpa using h1.symm
  generalize rz (Rg.clrR ⟨gg, rg, kx, hh⟩) (Rg.clrE ⟨gg, rg, kx, hh⟩ 1 5) = RC at *
  generalize Rg.clrE ⟨gg, rg, kx, hh⟩ 1 5 = EC at *
  clear ho hb K5
  have hal := (Below.refl w5.heap.size w5).alloc (Nat.le_refl _) (.cells #[.int .i64 RC.gen, .slice a5 0 c5, .int .i64 RC.kind, .int .i64 RC.holder] 104)
  have YB := Lib.hid (r4_new w5 104 (.int .i64 RC.gen) (.slice a5 0 c5) (.int .i64 RC.kind) (.int .i64 RC.holder))
  have HB_ := Lib.hid (HB.out.trans (hal.mono HB.out.size))
  clear HB
  have HB := HB_
  clear HB_
  have TB_ := Lib.hid (TB.out.on hal)
  clear TB
  have TB := TB_
  clear TB_
  have OW_ := Lib.hid (own_keep OW.out hal)
  clear OW
  have OW := OW_
  clear OW_
  have WB_ := Lib.hid (WB.out.on hal)
  clear WB
  have WB := WB_
  clear WB_
  have GR_ := Lib.hid (GR.out.on hal)
  clear GR
  have GR := GR_
  clear GR_
  have RB_ := Lib.hid (RB.out.on hal)
  clear RB
  have RB := RB_
  clear RB_
  have XO_ := Lib.hid (own_keep XO.out hal)
  clear XO
  have XO := XO_
  clear XO_
  have XB_ := Lib.hid (XB.out.on hal)
  clear XB
  have XB := XB_
  clear XB_
  have K6 := queued_F a2 n2 c2 ts (w5.alloc (.cells #[.int .i64 RC.gen, .slice a5 0 c5, .int .i64 RC.kind, .int .i64 RC.holder] 104)) (HTA.out.keep HB.out)
  have HQG := Lib.hid (Qu.good_queued ts)
  generalize Qu.queued ts = Q at *
  clear hal HTA
  go_wp2_with fail
  with_reducible refine K6.mono ?_
  rintro e w6 ⟨a6, n6, c6, rfl, hq, hb, ho⟩
  have s6 : Hid (w5.heap.size + 1 ≤ w6.heap.size) := Lib.hid (by have h := hb.size; (try simp only [World.size_alloc, World.size_setCell] at h); omega)
  have HB_ := Lib.hid (HB.out.trans (hb.mono HB.out.size))
  clear HB
  have HB := HB_
  clear HB_
  have TB_ := Lib.hid (TB.out.on hb)
  clear TB
  have TB := TB_
  clear TB_
  have OW_ := Lib.hid (own_keep OW.out hb)
  clear OW
  have OW := OW_
  clear OW_
  have WB_ := Lib.hid (WB.out.on hb)
  clear WB
  have WB := WB_
  clear WB_
  have GR_ := Lib.hid (GR.out.on hb)
  clear GR
  have GR := GR_
  clear GR_
  have RB_ := Lib.hid (RB.out.on hb)
  clear RB
  have RB := RB_
  clear RB_
  have XO_ := Lib.hid (own_keep XO.out hb)
  clear XO
  have XO := XO_
  clear XO_
  have XB_ := Lib.hid (XB.out.on hb)
  clear XB
  have XB := XB_
  clear XB_
  have YB_ := Lib.hid (YB.out.on hb)
  clear YB
  have YB := YB_
  clear YB_
  have OQ := Lib.hid ho
  have HNQ := Lib.hid hq.nil
  have HLQ := Lib.hid hq.len
  have HN6 : Hid (n6 ≤ 20) := Lib.hid (by have h1 := hq.len; have h2 := HQG.out.len; omega)
  have K7 := roomy_Task a6 n6 c6 (-5) 0 (tv Q) w6 (by rw [tv_length, HLQ.out]) HNQ.out (fun ad h => by subst h; exact hq.cells) (tv_one Q) (by have := HN6.out; omega)
  clear hq ho hb K6
  go_wp2_with fail
  with_reducible refine K7.mono ?_
  rintro e w7 ⟨g2, C2, hC2, rfl, hg2, hr, hb⟩
  have s7 : Hid (w6.heap.size + 0 ≤ w7.heap.size) := Lib.hid (by have h := hb.size; (try simp only [World.size_alloc, World.size_setCell] at h); omega)
  have HGG2 : Hid (∀ k, w5.heap.size < k → k < w6.heap.size → k < g2) := Lib.hid fun k _ h => Nat.lt_of_lt_of_le h hg2
  have HY2 : Hid (w5.heap.size < g2) := Lib.hid (Nat.lt_of_lt_of_le YB.out.lt hg2)
  have HB_ := Lib.hid (HB.out.trans (hb.mono HB.out.size))
  clear HB
  have HB := HB_
  clear HB_
  have TB_ := Lib.hid (TB.out.on hb)
  clear TB
  have TB := TB_
  clear TB_
  have OW_ := Lib.hid (own_keep OW.out hb)
  clear OW
  have OW := OW_
  clear OW_
  have WB_ := Lib.hid (WB.out.on hb)
  clear WB
  have WB := WB_
  clear WB_
  have GR_ := Lib.hid (GR.out.on hb)
  clear GR
  have GR := GR_
  clear GR_
  have RB_ := Lib.hid (RB.out.on hb)
  clear RB
  have RB := RB_
  clear RB_
  have XO_ := Lib.hid (own_keep XO.out hb)
  clear XO
  have XO := XO_
  clear XO_
  have XB_ := Lib.hid (XB.out.on hb)
  clear XB
  have XB := XB_
  clear XB_
  have YB_ := Lib.hid (YB.out.on hb)
  clear YB
  have YB := YB_
  clear YB_
  have OQ_ := Lib.hid (own_keep OQ.out hb)
  clear OQ
  have OQ := OQ_
  clear OQ_
  have GT := Lib.hid hr
  have HC2 := Lib.hid hC2
  have HG2L := Lib.hid hr.lt
  have HT7 : Hid (TSl w7 (some ⟨g2, 0, none⟩) n6 C2 Q) := Lib.hid (own_tsl (GT.out.own (base := 0) (by rw [tv_length, HLQ.out]) HC2.out (Nat.zero_le _) (by have := HC2.out; have := HN6.out; unfold maxLen; omega)) (Below.refl _ _))
  have HAD : ∃ (l : List Qu.T) (K : Int), l.length ≤ 20 ∧ Calls Try.prog 58 #[.slice (some ⟨g2, 0, none⟩) n6 C2, .agg #[.int .i64 p, .int .i64 q]] w7 (AddR w7 l K) := by
    by_cases h : Qu.addE Q (p, q) = 0
    · exact ⟨_, _, (HQG.out.add h).len, add_ok HQG.out HT7.out h⟩
    · obtain ⟨K, -, -, h1⟩ := add_bad HQG.out HT7.out h
      exact ⟨[], K, by simp, h1⟩
  obtain ⟨lu, KU, hlu, K8⟩ := HAD
  have HLU := Lib.hid hlu
  have t0 := TB.out.c 0 _ rfl; have t1 := TB.out.c 1 _ rfl
  clear hC2 hg2 hr hb K7 hlu HGG2
  go_wp2_with fail
  with_reducible refine K8.mono ?_
  rintro e w8 ⟨au, nu, cu, rfl, hu, hb, ho⟩
  have s8 : Hid (w7.heap.size + 0 ≤ w8.heap.size) := Lib.hid (by have h := hb.size; (try simp only [World.size_alloc, World.size_setCell] at h); omega)
  have HT8 := Lib.hid (HT7.out.keep hb)
  have HB_ := Lib.hid (HB.out.trans (hb.mono HB.out.size))
  clear HB
  have HB := HB_
  clear HB_
  have TB_ := Lib.hid (TB.out.on hb)
  clear TB
  have TB := TB_
  clear TB_
  have OW_ := Lib.hid (own_keep OW.out hb)
  clear OW
  have OW := OW_
  clear OW_
  have WB_ := Lib.hid (WB.out.on hb)
  clear WB
  have WB := WB_
  clear WB_
  have GR_ := Lib.hid (GR.out.on hb)
  clear GR
  have GR := GR_
  clear GR_
  have RB_ := Lib.hid (RB.out.on hb)
  clear RB
  have RB := RB_
  clear RB_
  have XO_ := Lib.hid (own_keep XO.out hb)
  clear XO
  have XO := XO_
  clear XO_
  have XB_ := Lib.hid (XB.out.on hb)
  clear XB
  have XB := XB_
  clear XB_
  have YB_ := Lib.hid (YB.out.on hb)
  clear YB
  have YB := YB_
  clear YB_
  have OQ_ := Lib.hid (own_keep OQ.out hb)
  clear OQ
  have OQ := OQ_
  clear OQ_
  have GT_ := Lib.hid (GT.out.on hb)
  clear GT
  have GT := GT_
  clear GT_
  have UO := Lib.hid ho
  have HNU : Hid (nu ≤ 20) := Lib.hid (by have := HLU.out; have := hu.len; omega)
  have HUL : Hid (∀ k, (Value.slice au nu cu).ownBlock = some k → k < w8.heap.size) := Lib.hid (own_block_lt ho)
  have K9 := Done_O (some ⟨g2, 0, none⟩) n6 C2 Q p w8 HQG.out HT8.out
  clear hu hb ho K8 t0 t1 HT7
  have t0 := TB.out.c 0 _ rfl; have t1 := TB.out.c 1 _ rfl
  go_wp2_with fail
  with_reducible refine K9.mono ?_
  rintro e w9 ⟨av, nv, cv, lv, KV, hnv, rfl, ho, hb⟩
  have s9 : Hid (w8.heap.size + 0 ≤ w9.heap.size) := Lib.hid (by have h := hb.size; (try simp only [World.size_alloc, World.size_setCell] at h); omega)
  have HT9 := Lib.hid (HT8.out.keep hb)
  have HB_ := Lib.hid (HB.out.trans (hb.mono HB.out.size))
  clear HB
  have HB := HB_
  clear HB_
  have TB_ := Lib.hid (TB.out.on hb)
  clear TB
  have TB := TB_
  clear TB_
  have OW_ := Lib.hid (own_keep OW.out hb)
  clear OW
  have OW := OW_
  clear OW_
  have WB_ := Lib.hid (WB.out.on hb)
  clear WB
  have WB := WB_
  clear WB_
  have GR_ := Lib.hid (GR.out.on hb)
  clear GR
  have GR := GR_
  clear GR_
  have RB_ := Lib.hid (RB.out.on hb)
  clear RB
  have RB := RB_
  clear RB_
  have XO_ := Lib.hid (own_keep XO.out hb)
  clear XO
  have XO := XO_
  clear XO_
  have XB_ := Lib.hid (XB.out.on hb)
  clear XB
  have XB := XB_
  clear XB_
  have YB_ := Lib.hid (YB.out.on hb)
  clear YB
  have YB := YB_
  clear YB_
  have OQ_ := Lib.hid (own_keep OQ.out hb)
  clear OQ
  have OQ := OQ_
  clear OQ_
  have GT_ := Lib.hid (GT.out.on hb)
  clear GT
  have GT := GT_
  clear GT_
  have UO_ := Lib.hid (own_keep UO.out hb)
  clear UO
  have UO := UO_
  clear UO_
  have VO := Lib.hid ho
  have HNV := Lib.hid hnv
  have K10 := May_O (some ⟨g2, 0, none⟩) n6 C2 Q w9 HQG.out HT9.out
  clear hnv ho hb K9 t0 t1 HT8
  go_wp2_with fail
  with_reducible refine K10.mono ?_
  rintro e w10 ⟨am, nm, cm, hnm, rfl, -, ho, hb⟩
  have s10 : Hid (w9.heap.size + 0 ≤ w10.heap.size) := Lib.hid (by have h := hb.size; (try simp only [World.size_alloc, World.size_setCell] at h); omega)
  have HT10 := Lib.hid (HT9.out.keep hb)
  have HB_ := Lib.hid (HB.out.trans (hb.mono HB.out.size))
  clear HB
  have HB := HB_
  clear HB_
  have TB_ := Lib.hid (TB.out.on hb)
  clear TB
  have TB := TB_
  clear TB_
  have OW_ := Lib.hid (own_keep OW.out hb)
  clear OW
  have OW := OW_
  clear OW_
  have WB_ := Lib.hid (WB.out.on hb)
  clear WB
  have WB := WB_
  clear WB_
  have GR_ := Lib.hid (GR.out.on hb)
  clear GR
  have GR := GR_
  clear GR_
  have RB_ := Lib.hid (RB.out.on hb)
  clear RB
  have RB := RB_
  clear RB_
  have XO_ := Lib.hid (own_keep XO.out hb)
  clear XO
  have XO := XO_
  clear XO_
  have XB_ := Lib.hid (XB.out.on hb)
  clear XB
  have XB := XB_
  clear XB_
  have YB_ := Lib.hid (YB.out.on hb)
  clear YB
  have YB := YB_
  clear YB_
  have OQ_ := Lib.hid (own_keep OQ.out hb)
  clear OQ
  have OQ := OQ_
  clear OQ_
  have GT_ := Lib.hid (GT.out.on hb)
  clear GT
  have GT := GT_
  clear GT_
  have UO_ := Lib.hid (own_keep UO.out hb)
  clear UO
  have UO := UO_
  clear UO_
  have VO_ := Lib.hid (own_keep VO.out hb)
  clear VO
  have VO := VO_
  clear VO_
  generalize Qu.mayL Q = lm at *
  have MO := Lib.hid ho
  have HNM := Lib.hid hnm
  clear hnm ho hb K10 HT9 TB
  have HTG : Hid (TSl w10 (some ⟨g, 0, none⟩) n3 C rg) := Lib.hid (own_tsl (GR.out.own (base := 0) (by rw [tv_length, HLN.out]) HCC.out (Nat.zero_le _) (by have := HCC.out; have := HLN.out; have := HG8.out; unfold maxLen; omega)) (Below.refl _ _))
  have K11 := Same_R gg kx hh (some ⟨g, 0, none⟩) a3 n3 C c3 rg w10 HTG.out (own_tsl OW.out (Below.refl _ _)) (by have := HLN.out; have := HG8.out; omega)
  obtain ⟨-, x0, x1, x2, x3, -, -, -, -⟩ := RB.out
  obtain ⟨-, u0, u1, u2, u3, -, -, -, -⟩ := WB.out
  go_wp2_with fail
  with_reducible refine K11.mono ?_
  rintro e w11 ⟨rfl, hb⟩
  have s11 : Hid (w10.heap.size + 0 ≤ w11.heap.size) := Lib.hid (by have h := hb.size; (try simp only [World.size_alloc, World.size_setCell] at h); omega)
  clear x0 x1 x2 x3 u0 u1 u2 u3 HTG
  have HT11 := Lib.hid (HT10.out.keep hb)
  clear WB OW
  have HB_ := Lib.hid (HB.out.trans (hb.mono HB.out.size))
  clear HB
  have HB := HB_
  clear HB_
  have GR_ := Lib.hid (GR.out.on hb)
  clear GR
  have GR := GR_
  clear GR_
  have RB_ := Lib.hid (RB.out.on hb)
  clear RB
  have RB := RB_
  clear RB_
  have XO_ := Lib.hid (own_keep XO.out hb)
  clear XO
  have XO := XO_
  clear XO_
  have XB_ := Lib.hid (XB.out.on hb)
  clear XB
  have XB := XB_
  clear XB_
  have YB_ := Lib.hid (YB.out.on hb)
  clear YB
  have YB := YB_
  clear YB_
  have OQ_ := Lib.hid (own_keep OQ.out hb)
  clear OQ
  have OQ := OQ_
  clear OQ_
  have GT_ := Lib.hid (GT.out.on hb)
  clear GT
  have GT := GT_
  clear GT_
  have UO_ := Lib.hid (own_keep UO.out hb)
  clear UO
  have UO := UO_
  clear UO_
  have VO_ := Lib.hid (own_keep VO.out hb)
  clear VO
  have VO := VO_
  clear VO_
  have MO_ := Lib.hid (own_keep MO.out hb)
  clear MO
  have MO := MO_
  clear MO_
  have K12 := marked_Reg g n3 C 99 0 (tv rg) w11 GR.out (by rw [tv_length, HLN.out]) HCC.out (by have := HLN.out; have := HG8.out; omega)
  clear hb K11 HT10
  obtain ⟨-, x0, x1, x2, x3, -, -, -, -⟩ := RB.out
  go_wp2_with fail
  with_reducible refine K12.mono ?_
  rintro e w12 ⟨rfl, hb⟩
  have s12 : Hid (w11.heap.size + 0 ≤ w12.heap.size) := Lib.hid (by have h := hb.size; (try simp only [World.size_alloc, World.size_setCell] at h); omega)
  clear x0 x1 x2 x3
  have HT12 := Lib.hid (HT11.out.keep hb)
  have HB_ := Lib.hid (HB.out.trans (hb.mono HB.out.size))
  clear HB
  have HB := HB_
  clear HB_
  have GR_ := Lib.hid (GR.out.on hb)
  clear GR
  have GR := GR_
  clear GR_
  have RB_ := Lib.hid (RB.out.on hb)
  clear RB
  have RB := RB_
  clear RB_
  have XO_ := Lib.hid (own_keep XO.out hb)
  clear XO
  have XO := XO_
  clear XO_
  have XB_ := Lib.hid (XB.out.on hb)
  clear XB
  have XB := XB_
  clear XB_
  have YB_ := Lib.hid (YB.out.on hb)
  clear YB
  have YB := YB_
  clear YB_
  have OQ_ := Lib.hid (own_keep OQ.out hb)
  clear OQ
  have OQ := OQ_
  clear OQ_
  have GT_ := Lib.hid (GT.out.on hb)
  clear GT
  have GT := GT_
  clear GT_
  have UO_ := Lib.hid (own_keep UO.out hb)
  clear UO
  have UO := UO_
  clear UO_
  have VO_ := Lib.hid (own_keep VO.out hb)
  clear VO
  have VO := VO_
  clear VO_
  have MO_ := Lib.hid (own_keep MO.out hb)
  clear MO
  have MO := MO_
  clear MO_
  have K13 := Equal_T (some ⟨g2, 0, none⟩) a6 n6 C2 c6 Q w12 HT12.out (own_tsl OQ.out (Below.refl _ _)) (by have := HN6.out; omega)
  clear hb K12 HT11
  go_wp2_with fail
  with_reducible refine K13.mono ?_
  rintro e w13 ⟨rfl, kd, hkd⟩
  have s13 : Hid (w12.heap.size ≤ w13.heap.size) := Lib.hid (by rw [hkd]; exact Nat.le_refl _)
  have hb : Below w12.heap.size w12 w13 := by subst hkd; exact below_drewN (Below.refl _ _) _
  clear OQ HT12 K13
  have HB_ := Lib.hid (HB.out.trans (hb.mono HB.out.size))
  clear HB
  have HB := HB_
  clear HB_
  have GR_ := Lib.hid (GR.out.on hb)
  clear GR
  have GR := GR_
  clear GR_
  have RB_ := Lib.hid (RB.out.on hb)
  clear RB
  have RB := RB_
  clear RB_
  have XO_ := Lib.hid (own_keep XO.out hb)
  clear XO
  have XO := XO_
  clear XO_
  have XB_ := Lib.hid (XB.out.on hb)
  clear XB
  have XB := XB_
  clear XB_
  have YB_ := Lib.hid (YB.out.on hb)
  clear YB
  have YB := YB_
  clear YB_
  have GT_ := Lib.hid (GT.out.on hb)
  clear GT
  have GT := GT_
  clear GT_
  have UO_ := Lib.hid (own_keep UO.out hb)
  clear UO
  have UO := UO_
  clear UO_
  have VO_ := Lib.hid (own_keep VO.out hb)
  clear VO
  have VO := VO_
  clear VO_
  have MO_ := Lib.hid (own_keep MO.out hb)
  clear MO
  have MO := MO_
  clear MO_
  have K14 := marked_Task g2 n6 C2 (-5) 0 (tv Q) w13 GT.out (by rw [tv_length, HLQ.out]) HC2.out (by have := HN6.out; omega)
  clear hb hkd
  go_wp2_with fail
  with_reducible refine K14.mono ?_
  rintro e w14 ⟨rfl, hb⟩
  have s14 : Hid (w13.heap.size + 0 ≤ w14.heap.size) := Lib.hid (by have h := hb.size; (try simp only [World.size_alloc, World.size_setCell] at h); omega)
  have HB_ := Lib.hid (HB.out.trans (hb.mono HB.out.size))
  clear HB
  have HB := HB_
  clear HB_
  have GR_ := Lib.hid (GR.out.on hb)
  clear GR
  have GR := GR_
  clear GR_
  have RB_ := Lib.hid (RB.out.on hb)
  clear RB
  have RB := RB_
  clear RB_
  have XO_ := Lib.hid (own_keep XO.out hb)
  clear XO
  have XO := XO_
  clear XO_
  have XB_ := Lib.hid (XB.out.on hb)
  clear XB
  have XB := XB_
  clear XB_
  have YB_ := Lib.hid (YB.out.on hb)
  clear YB
  have YB := YB_
  clear YB_
  have GT_ := Lib.hid (GT.out.on hb)
  clear GT
  have GT := GT_
  clear GT_
  have UO_ := Lib.hid (own_keep UO.out hb)
  clear UO
  have UO := UO_
  clear UO_
  have VO_ := Lib.hid (own_keep VO.out hb)
  clear VO
  have VO := VO_
  clear VO_
  have MO_ := Lib.hid (own_keep MO.out hb)
  clear MO
  have MO := MO_
  clear MO_
  have K15 := Clone_R a4 n4 c4 R.regs w14 (own_tsl XO.out (Below.refl _ _)) (by have := own_len XO.out; have := HR8.out; omega)
  clear hb K14
  obtain ⟨-, x0, x1, x2, x3, -, -, -, -⟩ := XB.out
  go_wp2_with fail
  with_reducible refine K15.mono ?_
  rintro e w15 ⟨vp, rfl, ho, hb⟩
  have s15 : Hid (w14.heap.size + 0 ≤ w15.heap.size) := Lib.hid (by have h := hb.size; (try simp only [World.size_alloc, World.size_setCell] at h); omega)
  obtain ⟨ap, cp, rfl, -⟩ := own_slice ho
  have HB_ := Lib.hid (HB.out.trans (hb.mono HB.out.size))
  clear HB
  have HB := HB_
  clear HB_
  have GR_ := Lib.hid (GR.out.on hb)
  clear GR
  have GR := GR_
  clear GR_
  have RB_ := Lib.hid (RB.out.on hb)
  clear RB
  have RB := RB_
  clear RB_
  have XO_ := Lib.hid (own_keep XO.out hb)
  clear XO
  have XO := XO_
  clear XO_
  have XB_ := Lib.hid (XB.out.on hb)
  clear XB
  have XB := XB_
  clear XB_
  have YB_ := Lib.hid (YB.out.on hb)
  clear YB
  have YB := YB_
  clear YB_
  have GT_ := Lib.hid (GT.out.on hb)
  clear GT
  have GT := GT_
  clear GT_
  have UO_ := Lib.hid (own_keep UO.out hb)
  clear UO
  have UO := UO_
  clear UO_
  have VO_ := Lib.hid (own_keep VO.out hb)
  clear VO
  have VO := VO_
  clear VO_
  have MO_ := Lib.hid (own_keep MO.out hb)
  clear MO
  have MO := MO_
  clear MO_
  have PO := Lib.hid ho
  have K16 := Clone_T au nu cu lu w15 (own_tsl UO.out (Below.refl _ _)) (by have := HNU.out; omega)
  clear ho hb K15 x0 x1 x2 x3
  go_wp2_with fail
  with_reducible refine K16.mono ?_
  rintro e w16 ⟨vd, rfl, ho, hb⟩
  have s16 : Hid (w15.heap.size + 0 ≤ w16.heap.size) := Lib.hid (by have h := hb.size; (try simp only [World.size_alloc, World.size_setCell] at h); omega)
  obtain ⟨ad, cd, rfl, -⟩ := own_slice ho
  have HB_ := Lib.hid (HB.out.trans (hb.mono HB.out.size))
  clear HB
  have HB := HB_
  clear HB_
  have GR_ := Lib.hid (GR.out.on hb)
  clear GR
  have GR := GR_
  clear GR_
  have RB_ := Lib.hid (RB.out.on hb)
  clear RB
  have RB := RB_
  clear RB_
  have XO_ := Lib.hid (own_keep XO.out hb)
  clear XO
  have XO := XO_
  clear XO_
  have XB_ := Lib.hid (XB.out.on hb)
  clear XB
  have XB := XB_
  clear XB_
  have YB_ := Lib.hid (YB.out.on hb)
  clear YB
  have YB := YB_
  clear YB_
  have GT_ := Lib.hid (GT.out.on hb)
  clear GT
  have GT := GT_
  clear GT_
  have UO_ := Lib.hid (own_keep UO.out hb)
  clear UO
  have UO := UO_
  clear UO_
  have VO_ := Lib.hid (own_keep VO.out hb)
  clear VO
  have VO := VO_
  clear VO_
  have MO_ := Lib.hid (own_keep MO.out hb)
  clear MO
  have MO := MO_
  clear MO_
  have PO_ := Lib.hid (own_keep PO.out hb)
  clear PO
  have PO := PO_
  clear PO_
  have DO := Lib.hid ho
  have K17 := Clone_T av nv cv lv w16 (own_tsl VO.out (Below.refl _ _)) (by have := HNV.out; omega)
  clear ho hb K16
  go_wp2_with fail
  with_reducible refine K17.mono ?_
  rintro e w17 ⟨vf, rfl, ho, hb⟩
  have s17 : Hid (w16.heap.size + 0 ≤ w17.heap.size) := Lib.hid (by have h := hb.size; (try simp only [World.size_alloc, World.size_setCell] at h); omega)
  obtain ⟨af, cf, rfl, -⟩ := own_slice ho
  have HB_ := Lib.hid (HB.out.trans (hb.mono HB.out.size))
  clear HB
  have HB := HB_
  clear HB_
  have GR_ := Lib.hid (GR.out.on hb)
  clear GR
  have GR := GR_
  clear GR_
  have RB_ := Lib.hid (RB.out.on hb)
  clear RB
  have RB := RB_
  clear RB_
  have XO_ := Lib.hid (own_keep XO.out hb)
  clear XO
  have XO := XO_
  clear XO_
  have XB_ := Lib.hid (XB.out.on hb)
  clear XB
  have XB := XB_
  clear XB_
  have YB_ := Lib.hid (YB.out.on hb)
  clear YB
  have YB := YB_
  clear YB_
  have GT_ := Lib.hid (GT.out.on hb)
  clear GT
  have GT := GT_
  clear GT_
  have UO_ := Lib.hid (own_keep UO.out hb)
  clear UO
  have UO := UO_
  clear UO_
  have VO_ := Lib.hid (own_keep VO.out hb)
  clear VO
  have VO := VO_
  clear VO_
  have MO_ := Lib.hid (own_keep MO.out hb)
  clear MO
  have MO := MO_
  clear MO_
  have PO_ := Lib.hid (own_keep PO.out hb)
  clear PO
  have PO := PO_
  clear PO_
  have DO_ := Lib.hid (own_keep DO.out hb)
  clear DO
  have DO := DO_
  clear DO_
  have FO := Lib.hid ho
  have hZ : ZSl w17 am nm cm lm := by obtain ⟨a, c, he, h⟩ := zsl_own MO.out; cases he; exact h
  have K18 := Clone_I am nm cm lm w17 hZ HNM.out
  clear ho hb K17 hZ
  go_wp2_with fail
  with_reducible refine K18.mono ?_
  rintro e w18 ⟨vg, rfl, ho, hb⟩
  have s18 : Hid (w17.heap.size + 0 ≤ w18.heap.size) := Lib.hid (by have h := hb.size; (try simp only [World.size_alloc, World.size_setCell] at h); omega)
  obtain ⟨ag, cg, rfl, -⟩ := zsl_own ho
  have HB_ := Lib.hid (HB.out.trans (hb.mono HB.out.size))
  clear HB
  have HB := HB_
  clear HB_
  have GR_ := Lib.hid (GR.out.on hb)
  clear GR
  have GR := GR_
  clear GR_
  have RB_ := Lib.hid (RB.out.on hb)
  clear RB
  have RB := RB_
  clear RB_
  have XO_ := Lib.hid (own_keep XO.out hb)
  clear XO
  have XO := XO_
  clear XO_
  have XB_ := Lib.hid (XB.out.on hb)
  clear XB
  have XB := XB_
  clear XB_
  have YB_ := Lib.hid (YB.out.on hb)
  clear YB
  have YB := YB_
  clear YB_
  have GT_ := Lib.hid (GT.out.on hb)
  clear GT
  have GT := GT_
  clear GT_
  have UO_ := Lib.hid (own_keep UO.out hb)
  clear UO
  have UO := UO_
  clear UO_
  have VO_ := Lib.hid (own_keep VO.out hb)
  clear VO
  have VO := VO_
  clear VO_
  have MO_ := Lib.hid (own_keep MO.out hb)
  clear MO
  have MO := MO_
  clear MO_
  have PO_ := Lib.hid (own_keep PO.out hb)
  clear PO
  have PO := PO_
  clear PO_
  have DO_ := Lib.hid (own_keep DO.out hb)
  clear DO
  have DO := DO_
  clear DO_
  have FO_ := Lib.hid (own_keep FO.out hb)
  clear FO
  have FO := FO_
  clear FO_
  have GO := Lib.hid ho
  clear ho hb K18
  have K19 := spoil_Reg (some ⟨g, 0, none⟩) n3 C 0 0 5 (tv rg) w18 (GR.out.own (by rw [tv_length, HLN.out]) HCC.out (Nat.zero_le _) (by have := HCC.out; have := HLN.out; have := HG8.out; unfold maxLen; omega)) (by have := HCC.out; have := HLN.out; have := HG8.out; omega)
  obtain ⟨-, x0, x1, x2, x3, -, -, -, -⟩ := RB.out
  go_wp2_with fail
  with_reducible refine K19.mono ?_
  rintro e w19 ⟨rfl, hg⟩
  have s19 : Hid (w18.heap.size + 0 ≤ w19.heap.size) := Lib.hid (by have h := hg.size; (try simp only [World.size_alloc, World.size_setCell] at h); omega)
  clear GR RB x0 x1 x2 x3 K19
  have HB_ := Lib.hid (HB.out.grown hg HB.out.size (fun k e => by have h9 := Option.some.inj e; (try dsimp only at h9); have := HGX.out; have := s1.out; have := s2.out; have := s3.out; have := s4.out; have := s5.out; have := s6.out; have := s7.out; have := s8.out; have := s9.out; have := s10.out; have := s11.out; have := s12.out; have := s13.out; have := s14.out; have := s15.out; have := s16.out; have := s17.out; have := s18.out; omega))
  clear HB
  have HB := HB_
  clear HB_
  have XO_ := Lib.hid (own_kept2 XO.out hg (fun k hk e => by have := row_base XO.out k hk; have h9 := Option.some.inj e; (try dsimp only at h9); have := HGL.out; omega))
  clear XO
  have XO := XO_
  clear XO_
  have XB_ := Lib.hid (XB.out.grown hg (fun e => by have h9 := Option.some.inj e; (try dsimp only at h9); have := s1.out; have := s2.out; have := s3.out; have := s4.out; have := s5.out; have := s6.out; have := s7.out; have := s8.out; have := s9.out; have := s10.out; have := s11.out; have := s12.out; have := s13.out; have := s14.out; have := s15.out; have := s16.out; have := s17.out; have := s18.out; have := HGL.out; omega))
  clear XB
  have XB := XB_
  clear XB_
  have YB_ := Lib.hid (YB.out.grown hg (fun e => by have h9 := Option.some.inj e; (try dsimp only at h9); have := s1.out; have := s2.out; have := s3.out; have := s4.out; have := s5.out; have := s6.out; have := s7.out; have := s8.out; have := s9.out; have := s10.out; have := s11.out; have := s12.out; have := s13.out; have := s14.out; have := s15.out; have := s16.out; have := s17.out; have := s18.out; have := HGL.out; omega))
  clear YB
  have YB := YB_
  clear YB_
  have GT_ := Lib.hid (GT.out.blk (hg.block _ GT.out.lt (fun e => by have h9 := Option.some.inj e; (try dsimp only at h9); have := s1.out; have := s2.out; have := s3.out; have := s4.out; have := s5.out; have := s6.out; have := s7.out; have := s8.out; have := s9.out; have := s10.out; have := s11.out; have := s12.out; have := s13.out; have := s14.out; have := s15.out; have := s16.out; have := s17.out; have := s18.out; have := HGL.out; have := HY2.out; omega)))
  clear GT
  have GT := GT_
  clear GT_
  have UO_ := Lib.hid (own_kept2 UO.out hg (fun k hk e => by have := row_base UO.out k hk; have h9 := Option.some.inj e; (try dsimp only at h9); have := s1.out; have := s2.out; have := s3.out; have := s4.out; have := s5.out; have := s6.out; have := s7.out; have := s8.out; have := s9.out; have := s10.out; have := s11.out; have := s12.out; have := s13.out; have := s14.out; have := s15.out; have := s16.out; have := s17.out; have := s18.out; have := HGL.out; omega))
  clear UO
  have UO := UO_
  clear UO_
  have VO_ := Lib.hid (own_kept2 VO.out hg (fun k hk e => by have := row_base VO.out k hk; have h9 := Option.some.inj e; (try dsimp only at h9); have := s1.out; have := s2.out; have := s3.out; have := s4.out; have := s5.out; have := s6.out; have := s7.out; have := s8.out; have := s9.out; have := s10.out; have := s11.out; have := s12.out; have := s13.out; have := s14.out; have := s15.out; have := s16.out; have := s17.out; have := s18.out; have := HGL.out; omega))
  clear VO
  have VO := VO_
  clear VO_
  have MO_ := Lib.hid (own_kept2 MO.out hg (fun k hk e => by have := row_base MO.out k hk; have h9 := Option.some.inj e; (try dsimp only at h9); have := s1.out; have := s2.out; have := s3.out; have := s4.out; have := s5.out; have := s6.out; have := s7.out; have := s8.out; have := s9.out; have := s10.out; have := s11.out; have := s12.out; have := s13.out; have := s14.out; have := s15.out; have := s16.out; have := s17.out; have := s18.out; have := HGL.out; omega))
  clear MO
  have MO := MO_
  clear MO_
  have PO_ := Lib.hid (own_kept2 PO.out hg (fun k hk e => by have := row_base PO.out k hk; have h9 := Option.some.inj e; (try dsimp only at h9); have := s1.out; have := s2.out; have := s3.out; have := s4.out; have := s5.out; have := s6.out; have := s7.out; have := s8.out; have := s9.out; have := s10.out; have := s11.out; have := s12.out; have := s13.out; have := s14.out; have := s15.out; have := s16.out; have := s17.out; have := s18.out; have := HGL.out; omega))
  clear PO
  have PO := PO_
  clear PO_
  have DO_ := Lib.hid (own_kept2 DO.out hg (fun k hk e => by have := row_base DO.out k hk; have h9 := Option.some.inj e; (try dsimp only at h9); have := s1.out; have := s2.out; have := s3.out; have := s4.out; have := s5.out; have := s6.out; have := s7.out; have := s8.out; have := s9.out; have := s10.out; have := s11.out; have := s12.out; have := s13.out; have := s14.out; have := s15.out; have := s16.out; have := s17.out; have := s18.out; have := HGL.out; omega))
  clear DO
  have DO := DO_
  clear DO_
  have FO_ := Lib.hid (own_kept2 FO.out hg (fun k hk e => by have := row_base FO.out k hk; have h9 := Option.some.inj e; (try dsimp only at h9); have := s1.out; have := s2.out; have := s3.out; have := s4.out; have := s5.out; have := s6.out; have := s7.out; have := s8.out; have := s9.out; have := s10.out; have := s11.out; have := s12.out; have := s13.out; have := s14.out; have := s15.out; have := s16.out; have := s17.out; have := s18.out; have := HGL.out; omega))
  clear FO
  have FO := FO_
  clear FO_
  have GO_ := Lib.hid (own_kept2 GO.out hg (fun k hk e => by have := row_base GO.out k hk; have h9 := Option.some.inj e; (try dsimp only at h9); have := s1.out; have := s2.out; have := s3.out; have := s4.out; have := s5.out; have := s6.out; have := s7.out; have := s8.out; have := s9.out; have := s10.out; have := s11.out; have := s12.out; have := s13.out; have := s14.out; have := s15.out; have := s16.out; have := s17.out; have := s18.out; have := HGL.out; omega))
  clear GO
  have GO := GO_
  clear GO_
  have K20 := spoil_Task (some ⟨g2, 0, none⟩) n6 C2 0 3 0 (tv Q) w19 (GT.out.own (by rw [tv_length, HLQ.out]) HC2.out (Nat.zero_le _) (by have := HC2.out; have := HN6.out; unfold maxLen; omega)) (by have := HC2.out; have := HN6.out; omega)
  clear hg
  go_wp2_with fail
  with_reducible refine K20.mono ?_
  rintro e w20 ⟨rfl, hg⟩
  have s20 : Hid (w19.heap.size + 0 ≤ w20.heap.size) := Lib.hid (by have h := hg.size; (try simp only [World.size_alloc, World.size_setCell] at h); omega)
  clear GT K20
  have HB_ := Lib.hid (HB.out.grown hg HB.out.size (fun k e => by have h9 := Option.some.inj e; (try dsimp only at h9); have := s1.out; have := s2.out; have := s3.out; have := s4.out; have := s5.out; have := s6.out; have := s7.out; have := s8.out; have := s9.out; have := s10.out; have := s11.out; have := s12.out; have := s13.out; have := s14.out; have := s15.out; have := s16.out; have := s17.out; have := s18.out; have := HY2.out; have := s1.out; have := s2.out; have := s3.out; have := s4.out; have := s5.out; have := s6.out; have := s7.out; have := s8.out; have := s9.out; have := s10.out; have := s11.out; have := s12.out; have := s13.out; have := s14.out; have := s15.out; have := s16.out; have := s17.out; have := s18.out; omega))
  clear HB
  have HB := HB_
  clear HB_
  have XO_ := Lib.hid (own_kept2 XO.out hg (fun k hk e => by have := HXU.out k hk; have h9 := Option.some.inj e; (try dsimp only at h9); have := s1.out; have := s2.out; have := s3.out; have := s4.out; have := s5.out; have := s6.out; have := s7.out; have := s8.out; have := s9.out; have := s10.out; have := s11.out; have := s12.out; have := s13.out; have := s14.out; have := s15.out; have := s16.out; have := s17.out; have := s18.out; have := HY2.out; omega))
  clear XO
  have XO := XO_
  clear XO_
  have XB_ := Lib.hid (XB.out.grown hg (fun e => by have h9 := Option.some.inj e; (try dsimp only at h9); have := s1.out; have := s2.out; have := s3.out; have := s4.out; have := s5.out; have := s6.out; have := s7.out; have := s8.out; have := s9.out; have := s10.out; have := s11.out; have := s12.out; have := s13.out; have := s14.out; have := s15.out; have := s16.out; have := s17.out; have := s18.out; have := HY2.out; omega))
  clear XB
  have XB := XB_
  clear XB_
  have YB_ := Lib.hid (YB.out.grown hg (fun e => by have h9 := Option.some.inj e; (try dsimp only at h9); have := s1.out; have := s2.out; have := s3.out; have := s4.out; have := s5.out; have := s6.out; have := s7.out; have := s8.out; have := s9.out; have := s10.out; have := s11.out; have := s12.out; have := s13.out; have := s14.out; have := s15.out; have := s16.out; have := s17.out; have := s18.out; have := HY2.out; omega))
  clear YB
  have YB := YB_
  clear YB_
  have UO_ := Lib.hid (own_kept2 UO.out hg (fun k hk e => by have := row_base UO.out k hk; have h9 := Option.some.inj e; (try dsimp only at h9); have := s1.out; have := s2.out; have := s3.out; have := s4.out; have := s5.out; have := s6.out; have := s7.out; have := s8.out; have := s9.out; have := s10.out; have := s11.out; have := s12.out; have := s13.out; have := s14.out; have := s15.out; have := s16.out; have := s17.out; have := s18.out; have := HG2L.out; omega))
  clear UO
  have UO := UO_
  clear UO_
  have VO_ := Lib.hid (own_kept2 VO.out hg (fun k hk e => by have := row_base VO.out k hk; have h9 := Option.some.inj e; (try dsimp only at h9); have := s1.out; have := s2.out; have := s3.out; have := s4.out; have := s5.out; have := s6.out; have := s7.out; have := s8.out; have := s9.out; have := s10.out; have := s11.out; have := s12.out; have := s13.out; have := s14.out; have := s15.out; have := s16.out; have := s17.out; have := s18.out; have := HG2L.out; omega))
  clear VO
  have VO := VO_
  clear VO_
  have MO_ := Lib.hid (own_kept2 MO.out hg (fun k hk e => by have := row_base MO.out k hk; have h9 := Option.some.inj e; (try dsimp only at h9); have := s1.out; have := s2.out; have := s3.out; have := s4.out; have := s5.out; have := s6.out; have := s7.out; have := s8.out; have := s9.out; have := s10.out; have := s11.out; have := s12.out; have := s13.out; have := s14.out; have := s15.out; have := s16.out; have := s17.out; have := s18.out; have := HG2L.out; omega))
  clear MO
  have MO := MO_
  clear MO_
  have PO_ := Lib.hid (own_kept2 PO.out hg (fun k hk e => by have := row_base PO.out k hk; have h9 := Option.some.inj e; (try dsimp only at h9); have := s1.out; have := s2.out; have := s3.out; have := s4.out; have := s5.out; have := s6.out; have := s7.out; have := s8.out; have := s9.out; have := s10.out; have := s11.out; have := s12.out; have := s13.out; have := s14.out; have := s15.out; have := s16.out; have := s17.out; have := s18.out; have := HG2L.out; omega))
  clear PO
  have PO := PO_
  clear PO_
  have DO_ := Lib.hid (own_kept2 DO.out hg (fun k hk e => by have := row_base DO.out k hk; have h9 := Option.some.inj e; (try dsimp only at h9); have := s1.out; have := s2.out; have := s3.out; have := s4.out; have := s5.out; have := s6.out; have := s7.out; have := s8.out; have := s9.out; have := s10.out; have := s11.out; have := s12.out; have := s13.out; have := s14.out; have := s15.out; have := s16.out; have := s17.out; have := s18.out; have := HG2L.out; omega))
  clear DO
  have DO := DO_
  clear DO_
  have FO_ := Lib.hid (own_kept2 FO.out hg (fun k hk e => by have := row_base FO.out k hk; have h9 := Option.some.inj e; (try dsimp only at h9); have := s1.out; have := s2.out; have := s3.out; have := s4.out; have := s5.out; have := s6.out; have := s7.out; have := s8.out; have := s9.out; have := s10.out; have := s11.out; have := s12.out; have := s13.out; have := s14.out; have := s15.out; have := s16.out; have := s17.out; have := s18.out; have := HG2L.out; omega))
  clear FO
  have FO := FO_
  clear FO_
  have GO_ := Lib.hid (own_kept2 GO.out hg (fun k hk e => by have := row_base GO.out k hk; have h9 := Option.some.inj e; (try dsimp only at h9); have := s1.out; have := s2.out; have := s3.out; have := s4.out; have := s5.out; have := s6.out; have := s7.out; have := s8.out; have := s9.out; have := s10.out; have := s11.out; have := s12.out; have := s13.out; have := s14.out; have := s15.out; have := s16.out; have := s17.out; have := s18.out; have := HG2L.out; omega))
  clear GO
  have GO := GO_
  clear GO_
  have K21 := Equal_R a4 ap n4 c4 cp R.regs w20 (own_tsl XO.out (Below.refl _ _)) (own_tsl PO.out (Below.refl _ _)) (by have := own_len XO.out; have := HR8.out; omega)
  clear hg
  obtain ⟨-, x0, x1, x2, x3, -, -, -, -⟩ := XB.out
  go_wp2_with fail
  with_reducible refine K21.mono ?_
  rintro e w21 ⟨rfl, kd, hkd⟩
  have s21 : Hid (w20.heap.size ≤ w21.heap.size) := Lib.hid (by rw [hkd]; exact Nat.le_refl _)
  have hb : Below w20.heap.size w20 w21 := by subst hkd; exact below_drewN (Below.refl _ _) _
  clear XO XB PO K21 x0 x1 x2 x3
  have HB_ := Lib.hid (HB.out.trans (hb.mono HB.out.size))
  clear HB
  have HB := HB_
  clear HB_
  have YB_ := Lib.hid (YB.out.on hb)
  clear YB
  have YB := YB_
  clear YB_
  have UO_ := Lib.hid (own_keep UO.out hb)
  clear UO
  have UO := UO_
  clear UO_
  have VO_ := Lib.hid (own_keep VO.out hb)
  clear VO
  have VO := VO_
  clear VO_
  have MO_ := Lib.hid (own_keep MO.out hb)
  clear MO
  have MO := MO_
  clear MO_
  have DO_ := Lib.hid (own_keep DO.out hb)
  clear DO
  have DO := DO_
  clear DO_
  have FO_ := Lib.hid (own_keep FO.out hb)
  clear FO
  have FO := FO_
  clear FO_
  have GO_ := Lib.hid (own_keep GO.out hb)
  clear GO
  have GO := GO_
  clear GO_
  have K22 := Equal_T au ad nu cu cd lu w21 (own_tsl UO.out (Below.refl _ _)) (own_tsl DO.out (Below.refl _ _)) (by have := HNU.out; omega)
  clear hb hkd
  obtain ⟨-, x0, x1, x2, x3, -, -, -, -⟩ := YB.out
  go_wp2_with fail
  with_reducible refine K22.mono ?_
  rintro e w22 ⟨rfl, kd, hkd⟩
  have s22 : Hid (w21.heap.size ≤ w22.heap.size) := Lib.hid (by rw [hkd]; exact Nat.le_refl _)
  have hb : Below w21.heap.size w21 w22 := by subst hkd; exact below_drewN (Below.refl _ _) _
  clear YB DO K22 x0 x1 x2 x3
  have HB_ := Lib.hid (HB.out.trans (hb.mono HB.out.size))
  clear HB
  have HB := HB_
  clear HB_
  have UO_ := Lib.hid (own_keep UO.out hb)
  clear UO
  have UO := UO_
  clear UO_
  have VO_ := Lib.hid (own_keep VO.out hb)
  clear VO
  have VO := VO_
  clear VO_
  have MO_ := Lib.hid (own_keep MO.out hb)
  clear MO
  have MO := MO_
  clear MO_
  have FO_ := Lib.hid (own_keep FO.out hb)
  clear FO
  have FO := FO_
  clear FO_
  have GO_ := Lib.hid (own_keep GO.out hb)
  clear GO
  have GO := GO_
  clear GO_
  have hz1 : ZSl w22 am nm cm lm := by obtain ⟨a, c, he, h⟩ := zsl_own MO.out; cases he; exact h
  have hz2 : ZSl w22 ag nm cg lm := by obtain ⟨a, c, he, h⟩ := zsl_own GO.out; cases he; exact h
  have K23 := Equal_Z am ag nm cm cg lm w22 hz1 hz2 (by have := HNM.out; omega)
  clear hb hkd hz1 hz2
  go_wp2_with fail
  with_reducible refine K23.mono ?_
  rintro e w23 ⟨rfl, kd, hkd⟩
  have s23 : Hid (w22.heap.size ≤ w23.heap.size) := Lib.hid (by rw [hkd]; exact Nat.le_refl _)
  have hb : Below w22.heap.size w22 w23 := by subst hkd; exact below_drewN (Below.refl _ _) _
  clear MO GO K23
  have HB_ := Lib.hid (HB.out.trans (hb.mono HB.out.size))
  clear HB
  have HB := HB_
  clear HB_
  have UO_ := Lib.hid (own_keep UO.out hb)
  clear UO
  have UO := UO_
  clear UO_
  have VO_ := Lib.hid (own_keep VO.out hb)
  clear VO
  have VO := VO_
  clear VO_
  have FO_ := Lib.hid (own_keep FO.out hb)
  clear FO
  have FO := FO_
  clear FO_
  have hcu : cu ≤ 9223372036854775807 := by obtain ⟨a, c, he, h⟩ := own_slice UO.out; cases he; have := h.max; unfold maxLen at this; omega
  have K24 := spoil_Task au nu cu w7.heap.size 0 0 (tv lu) w23 UO.out hcu
  clear hb hkd
  go_wp2_with fail
  with_reducible refine K24.mono ?_
  rintro e w24 ⟨rfl, hg⟩
  have s24 : Hid (w23.heap.size + 0 ≤ w24.heap.size) := Lib.hid (by have h := hg.size; (try simp only [World.size_alloc, World.size_setCell] at h); omega)
  have HUB := Lib.hid (row_base UO.out)
  clear UO K24 hcu
  have HB_ := Lib.hid (HB.out.grown hg HB.out.size (fun k e => by have := HUB.out k e; have := s1.out; have := s2.out; have := s3.out; have := s4.out; have := s5.out; have := s6.out; have := s7.out; have := s8.out; have := s9.out; have := s10.out; have := s11.out; have := s12.out; have := s13.out; have := s14.out; have := s15.out; have := s16.out; have := s17.out; have := s18.out; have := s1.out; have := s2.out; have := s3.out; have := s4.out; have := s5.out; have := s6.out; have := s7.out; have := s8.out; have := s9.out; have := s10.out; have := s11.out; have := s12.out; have := s13.out; have := s14.out; have := s15.out; have := s16.out; have := s17.out; have := s18.out; omega))
  clear HB
  have HB := HB_
  clear HB_
  have VO_ := Lib.hid (own_kept2 VO.out hg (fun k hk e => by have := row_base VO.out k hk; have := HUL.out k e; omega))
  clear VO
  have VO := VO_
  clear VO_
  have FO_ := Lib.hid (own_kept2 FO.out hg (fun k hk e => by have := row_base FO.out k hk; have := HUL.out k e; have := s1.out; have := s2.out; have := s3.out; have := s4.out; have := s5.out; have := s6.out; have := s7.out; have := s8.out; have := s9.out; have := s10.out; have := s11.out; have := s12.out; have := s13.out; have := s14.out; have := s15.out; have := s16.out; have := s17.out; have := s18.out; omega))
  clear FO
  have FO := FO_
  clear FO_
  have K25 := Equal_T av af nv cv cf lv w24 (own_tsl VO.out (Below.refl _ _)) (own_tsl FO.out (Below.refl _ _)) (by have := HNV.out; omega)
  clear hg
  go_wp2_with fail
  with_reducible refine K25.mono ?_
  rintro e w25 ⟨rfl, kd, hkd⟩
  have s25 : Hid (w24.heap.size ≤ w25.heap.size) := Lib.hid (by rw [hkd]; exact Nat.le_refl _)
  subst hkd
  go_wp2_with fail
  go_ret
  exact ⟨rfl, below_drewN HB.out _⟩

end Go.Proofs.Ytenkdpogdfcbgaa.Rs
namespace Go.Proofs.Ytenkdpogdfcbgaa
open Go.RowKit Go.Proofs.Ytenkdpogdfcbgaa.Rs

theorem carg_of {w : World} {a : Option Addr} {n c : Nat} {zs : List Int} (h : IsRowI w a n c zs) : ∃ f, CArg w a n f := by
  rcases h with ⟨rfl, rfl, rfl, rfl⟩ | ⟨x, rfl, h1, h2, h3, h4, -⟩
  · exact ⟨fun _ => 0, fun i hi => by omega, fun _ _ => rfl, Nat.zero_le _⟩
  · refine ⟨fun i => if i < n then zs.getD i 0 else 0, fun i hi => ?_, fun i hi => if_neg (by omega), by omega⟩
    have hc := h4 i (by omega)
    refine ⟨x, rfl, ?_, by rw [if_pos hi]; exact hc⟩
    have := World.block_lt_of_cell? w _ hc
    rwa [addr_block] at this

theorem rightsOwn_walk (a0 : Option Addr) (len0 cap0 : Nat) (z0 : Nat → Nat → Int) (a1 : Option Addr) (len1 cap1 : Nat) (z1 : List Int) (a2 : Option Addr) (len2 cap2 : Nat) (t2 : List (Int × Int)) (a3_0 : Int) (a3_1 : Int) (w : World) (w0 : LArg w a0 len0 cap0 z0) (w1 : IsRowI w a1 len1 cap1 z1) (w2 : IsRowT w a2 len2 cap2 t2) (_ : (Lit.int .i64 a3_0).wf = true) (_ : (Lit.int .i64 a3_1).wf = true) :
    Calls Try.prog 9 #[.slice a0 len0 cap0, .slice a1 len1 cap1, .slice a2 len2 cap2, .agg #[.int .i64 a3_0, .int .i64 a3_1]] w fun e w' => e = .returned (.bool true) ∧ Below w.heap.size w w' := by
  obtain ⟨f, hf⟩ := carg_of w1
  exact rights_core a0 len0 cap0 z0 a1 len1 cap1 f a2 len2 cap2 t2 a3_0 a3_1 w w0 hf (targ_of w2)

end Go.Proofs.Ytenkdpogdfcbgaa
