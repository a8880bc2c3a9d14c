import Derived.Test.YtenkdpogdfcbgaaTsW
import Derived.Test.YtenkdpogdfcbgaaSgN2
/- The walks of seg.Live, woolref.Takes, a sum, woolref.Item. -/
namespace Go.Proofs.Ytenkdpogdfcbgaa
open Go.RowKit

set_option maxRecDepth 100000 in
set_option maxHeartbeats 4000000 in
/-- seg.Live on right segments and a right bag. -/
theorem Live_E (a : Option Addr) (n c base : Nat) (rs : List Rl) (l : List (List Sg.R)) (ba : Option Addr) (bn bc : Nat) (bl : List Bg.It) (w : World) (hS : SgW w base a n c rs l) (hG : Sg.Good l) (hI : ISl w ba bn bc bl) (hs : ∀ t ∈ bl, t.text.size ≤ maxLen) :
    Calls Try.prog 74 #[.slice a n c, .slice ba bn bc] w fun e w' => ∃ b m d, e = .returned (.tuple #[.slice b m d, .int .i64 (Bg.checkE Bg.Pr bl)]) ∧ w'.ownsRow w.heap.size 3 1 (.slice b m d) m (iv (if Bg.checkE Bg.Pr bl = 0 then Sg.usedL bl l else [])) ∧ Below w.heap.size w w' := by
  have K1 := look_E a n c base rs l ba bn bc bl w hS hG hI hs
  obtain ⟨E, hE⟩ : ∃ E, Bg.checkE Bg.Pr bl = E := ⟨_, rfl⟩
  rw [hE] at K1 ⊢
  obtain ⟨U, hU⟩ : ∃ U, (if E = 0 then Sg.usedL bl l else []) = U := ⟨_, rfl⟩
  rw [hU]
  have HU := Lib.hid hU
  clear hU
  have HS := Lib.hid hS; have HG := Lib.hid hG; have HI := Lib.hid hI; have HE := Lib.hid hE
  clear hS hG hI hs hE
  go_enter Try.func74, Try.ntmps74
  go_wp2_with fail
  with_reducible refine K1.mono ?_
  rintro e v1 ⟨rfl, hb⟩
  have HB1 := Lib.hid hb
  clear hb K1
  by_cases hE0 : E = 0
  · subst hE0
    have HBG := Lib.hid (Bg.check_good HE.out)
    have K2 := live_E a n c base rs l ba bn bc bl v1 (HS.out.keep HB1.out) HG.out (HI.out.keep HB1.out) HBG.out
    have HUE : Hid (Sg.usedL bl l = U) := Lib.hid (by rw [← HU.out]; rfl)
    go_wp2_with fail
    with_reducible refine K2.mono ?_
    rintro e v2 ⟨g, zs, rfl, hl, hb⟩
    have HB2 := Lib.hid (HB1.out.trans (hb.mono HB1.out.size))
    have K3 := used_E a n c base rs l g _ zs bl v2 (HS.out.keep HB2.out) HG.out hl
    clear K2 hl hb
    go_wp2_with fail
    with_reducible refine K3.mono ?_
    rintro e v3 ⟨ub, ud, rfl, ho, hb⟩
    have HB3 := Lib.hid (HB2.out.trans (hb.mono HB2.out.size))
    have HO := Lib.hid (own_low ho HB2.out.size)
    clear K3 ho hb
    go_wp2_with fail
    go_ret2
    exact ⟨_, _, _, rfl, by rw [← HUE.out]; exact HO.out, HB3.out⟩
  · have hb : ((E : Int) != 0) = true := bne_iff_ne.2 (by omega)
    have HUE : Hid (U = []) := Lib.hid (by rw [← HU.out, if_neg hE0])
    go_wp2_with fail
    go_ret2
    exact ⟨none, 0, 0, rfl, by rw [HUE.out]; exact World.ownsRow_nil _ _ _ _, HB1.out⟩

set_option maxHeartbeats 2000000 in
theorem Takes_E (a : Option Addr) (n c base : Nat) (l : List Sg.R) (w : World) (hO : w.ownsRow base 36 4 (.slice a n c) n (ev l)) (hs : ∀ r ∈ l, r.tx.size ≤ 64) (hn : n ≤ 1000000) :
    Calls Try.prog 95 #[.slice a n c] w fun e w' => e = .returned (.int .i64 (Sg.full l : Nat)) ∧ Below w.heap.size w w' := by
  have HO := Lib.hid hO; have HS := Lib.hid hs
  have HL := Lib.hid (own_len4 hO)
  have HF0 : ∀ k, Sg.full (l.take k) ≤ k * 72 := fun k => by
    induction k with
    | zero => simp [Sg.full]
    | succ k ih =>
      by_cases hk : k < l.length
      · rw [List.take_succ_eq_append_getElem hk, Sg.full_app, Sg.full_cons, Sg.full_nil]
        have := hs _ (List.getElem_mem hk)
        unfold Sg.sz
        omega
      · rw [List.take_of_length_le (by omega)] at ih ⊢
        omega
  have HF : ∀ k, k ≤ n → Sg.full (l.take k) + 8 * (n - k) ≤ n * 72 := fun k hk => by
    have := HF0 k
    omega
  have HF := Lib.hid HF
  have hw0 : wrap64 (8 * (n : Int)) = ((8 * n : Nat) : Int) := by rw [IntWalk.wrap64_in _ ⟨by omega, by omega⟩]; omega
  clear hO hs
  go_enter Try.func95, Try.ntmps95
  go_wp2_with fail
  go_loopw [3, 11] (fun v x wr => ∃ k : Nat, k ≤ n ∧ x = .int .i64 k ∧ v = .int .i64 ((Sg.full (l.take k) + 8 * (n - k) : Nat) : Int) ∧ Hid (Below w.heap.size w wr)) (fun _ x _ => n - (intOf x).toNat)
  case atStart => exact ⟨0, Nat.zero_le _, rfl, by first | (simp [Sg.full]) | (simp [Sg.full]; omega), Lib.hid (Below.refl _ _)⟩
  case round =>
    obtain ⟨k, hk, rfl, rfl, HB⟩ := hrel
    by_cases hlt : k < n
    · have hkl : k < l.length := by rw [HL.out]; exact hlt
      obtain ⟨g, rfl, hg, c0, c1, c2, c3⟩ := ev_at (own_keep HO.out HB.out) hkl
      have hb := (Below.refl wr.heap.size wr).alloc (Nat.le_refl _) (.cells #[.bool l[k].id.is, .int .i64 l[k].id.sum, .int .i64 l[k].id.n, .string l[k].tx] 36)
      have HB1 := Lib.hid (HB.out.trans (hb.mono HB.out.size))
      have hT : Sg.full (l.take (k + 1)) + 8 * (n - (k + 1)) = (Sg.full (l.take k) + 8 * (n - k)) + l[k].tx.size := by
        rw [List.take_succ_eq_append_getElem hkl, Sg.full_app, Sg.full_cons, Sg.full_nil]
        unfold Sg.sz
        omega
      have h1 := HF.out (k + 1) hlt
      have hw : wrap64 (((Sg.full (l.take k) + 8 * (n - k) : Nat) : Int) + (l[k].tx.size : Int)) = ((Sg.full (l.take (k + 1)) + 8 * (n - (k + 1)) : Nat) : Int) := by
        rw [IntWalk.wrap64_in _ ⟨by omega, by omega⟩]
        omega
      have HW := Lib.hid hw
      clear hb hT h1 hw
      generalize l[k].id.is = f1 at *
      generalize l[k].id.sum = f2 at *
      generalize l[k].id.n = f3 at *
      generalize l[k].tx = f4 at *
      generalize Sg.full (l.take k) + 8 * (n - k) = F1 at *
      go_wp2_with fail
      go_roundw
      case rel => exact ⟨k + 1, hlt, by go_num, by first | rfl | (rw [← HW.out]; rfl) | (rw [← HW.out]), HB1⟩
      case measure => simp [intOf]; omega
    · obtain rfl : k = n := by omega
      have HTE : Hid (Sg.full (l.take k) + 8 * (k - k) = Sg.full l) := Lib.hid (by rw [List.take_of_length_le (by rw [HL.out]; exact Nat.le_refl _)]; omega)
      generalize Sg.full (l.take k) + 8 * (k - k) = F1 at *
      go_wp2_with fail
      go_ret
      exact ⟨by rw [← HTE.out]; rfl, HB.out⟩

set_option maxHeartbeats 2000000 in
/-- The closure that adds up. -/
theorem Sum_E (a : Option Addr) (n c base : Nat) (u : List Nat) (w : World) (hO : w.ownsRow base 3 1 (.slice a n c) n (iv u)) (hs : u.sum ≤ 1000000000) (hn : n ≤ 1000000) :
    Calls Try.prog 96 #[.slice a n c] w fun e w' => e = .returned (.int .i64 (u.sum : Nat)) ∧ w = w' := by
  have HO := Lib.hid hO
  have HL : Hid (u.length = n) := Lib.hid (by have := hO.1; rw [iv_length] at this; omega)
  have HT : ∀ k, (u.take k).sum ≤ u.sum := fun k => by
    have := congrArg List.sum (List.take_append_drop k u)
    rw [List.sum_append] at this
    omega
  have HT := Lib.hid HT
  clear hO
  go_enter Try.func96, Try.ntmps96
  go_wp2_with fail
  go_loop [3, 8] (fun v x => ∃ k : Nat, k ≤ n ∧ x = .int .i64 k ∧ v = .int .i64 ((u.take k).sum : Nat)) (fun _ x => n - (intOf x).toNat)
  case atStart => exact ⟨0, Nat.zero_le _, rfl, rfl⟩
  case round =>
    obtain ⟨k, hk, rfl, rfl⟩ := hrel
    by_cases hlt : k < n
    · have hkl : k < u.length := by rw [HL.out]; exact hlt
      obtain ⟨g, cap, hv, -, -⟩ := HO.out.form (by omega)
      cases hv
      have c0 : w.cell? ⟨g, k, none⟩ = some (.int .i64 (u[k] : Nat)) := by
        rw [HO.out.cellAt k (by omega)]
        unfold iv
        rw [List.getElem?_map, List.getElem?_eq_getElem hkl]
        rfl
      have hE : (u.take (k + 1)).sum = (u.take k).sum + u[k] := by rw [List.take_succ_eq_append_getElem hkl, List.sum_append]; simp
      have h1 := HT.out (k + 1)
      have hw : wrap64 (((u.take k).sum : Int) + (u[k] : Int)) = ((u.take (k + 1)).sum : Int) := by
        rw [IntWalk.wrap64_in _ ⟨by omega, by omega⟩]
        omega
      have HW := Lib.hid hw
      clear hE h1 hw
      generalize (u.take k).sum = F1 at *
      generalize u[k] = F2 at *
      go_wp2_with fail
      go_round
      case rel => exact ⟨k + 1, hlt, by go_num, by first | rfl | (rw [← HW.out]; rfl) | (rw [← HW.out])⟩
      case measure => simp [intOf]; omega
    · obtain rfl : k = n := by omega
      have HTE : Hid ((u.take k).sum = u.sum) := Lib.hid (by rw [List.take_of_length_le (by rw [HL.out]; exact Nat.le_refl _)])
      generalize (u.take k).sum = F1 at *
      go_wp2_with fail
      go_ret
      exact ⟨by rw [← HTE.out]; rfl, rfl⟩

end Go.Proofs.Ytenkdpogdfcbgaa
