import Derived.Test.YtenkdpogdfcbgaaSgW4
/- The walks of slices.Equal at records and of woolref.SameSegs, where both are one. -/
namespace Go.Proofs.Ytenkdpogdfcbgaa
open Go.RowKit

set_option maxRecDepth 100000 in
set_option maxHeartbeats 4000000 in
theorem Equal_E (a b : Option Addr) (n c1 c2 base1 base2 : Nat) (l : List Sg.R) (w : World) (h1 : w.ownsRow base1 36 4 (.slice a n c1) n (ev l)) (h2 : w.ownsRow base2 36 4 (.slice b n c2) n (ev l)) (hn : n ≤ 1099511627776) :
    Calls Try.prog 75 #[.slice a n c1, .slice b n c2] w fun e w' => e = .returned (.bool true) ∧ ∃ q, w' = w.drewN q := by
  have H1 := Lib.hid h1; have H2 := Lib.hid h2; have HL := Lib.hid (own_len4 h1); clear h1 h2
  go_enter Try.func75, Try.ntmps75
  go_wp2_with fail
  go_loopw [13] (fun x wr => ∃ k : Nat, k ≤ n ∧ x = .int .i64 k ∧ ∃ j, wr = w.drewN j) (fun x _ => n - (intOf x).toNat)
  case atStart => exact ⟨0, Nat.zero_le _, rfl, 0, rfl⟩
  case round =>
    obtain ⟨k, hk, rfl, hj⟩ := hrel
    by_cases hlt : k < n
    · have hk' : k < l.length := by rw [HL.out]; exact hlt
      obtain ⟨g1, rfl, hX, c1, c2, c3, c4⟩ := ev_at H1.out hk'
      obtain ⟨g2, rfl, hY, d1, d2, d3, d4⟩ := ev_at H2.out hk'
      generalize l[k].id.is = f1 at *
      generalize l[k].id.sum = f2 at *
      generalize l[k].id.n = f3 at *
      generalize l[k].tx = f4 at *
      obtain ⟨j, rfl⟩ := hj
      go_wp2_with fail
      go_region
      all_goals
        go_wp2_with fail
        go_roundw
        case rel => exact ⟨k + 1, hlt, by go_num, j + 1, rfl⟩
        case measure => simp [intOf]; omega
    · obtain rfl : k = n := by omega
      go_wp2_with fail
      go_ret
      exact ⟨rfl, hj⟩

theorem SameSeg_E (a b : Option Addr) (n c1 c2 base1 base2 : Nat) (l : List Sg.R) (w : World) (h1 : w.ownsRow base1 36 4 (.slice a n c1) n (ev l)) (h2 : w.ownsRow base2 36 4 (.slice b n c2) n (ev l)) (hn : n ≤ 1099511627776) :
    Calls Try.prog 138 #[.slice a n c1, .slice b n c2] w fun e w' => e = .returned (.bool true) ∧ Below w.heap.size w w' := by
  have E1 := Equal_E a b n c1 c2 base1 base2 l w h1 h2 hn
  clear h1 h2
  go_enter Try.func138, Try.ntmps138
  go_wp2_with fail
  with_reducible refine E1.mono ?_
  rintro e w' ⟨rfl, q, rfl⟩
  go_wp2_with fail
  go_ret
  exact ⟨rfl, below_drewN (Below.refl _ _) q⟩

theorem eg_sameS : ∀ args w, (callFunc 138 args).run Try.prog w = .ok (.enter 138 args) w := enters_of Try.func138 (by kernel_rfl) rfl

set_option maxRecDepth 100000 in
set_option maxHeartbeats 4000000 in
theorem EqualFunc_E (a1 a2 : Option Addr) (n c1 c2 base1 base2 : Nat) (rs1 rs2 : List Rl) (l : List (List Sg.R)) (w : World) (h1 : SgW w base1 a1 n c1 rs1 l) (h2 : SgW w base2 a2 n c2 rs2 l) (hn : n ≤ 1000000) (hs : ∀ s ∈ l, s.length ≤ 1000000) :
    Calls Try.prog 137 #[.slice a1 n c1, .slice a2 n c2, .func (.func 138) #[] #[]] w fun e w' => e = .returned (.bool true) ∧ Below w.heap.size w w' := by
  have eg := eg_sameS
  have H1 := Lib.hid h1; have H2 := Lib.hid h2; have HN := Lib.hid hs
  clear h1 h2 hs
  go_enter Try.func137, Try.ntmps137
  go_wp2_with fail
  go_loopw [17] (fun x wr => ∃ k : Nat, k ≤ n ∧ x = .int .i64 k ∧ Hid (Below w.heap.size w wr)) (fun x _ => n - (intOf x).toNat)
  case atStart => exact ⟨0, Nat.zero_le _, rfl, Lib.hid (Below.refl _ _)⟩
  case round =>
    obtain ⟨k, hk, rfl, BW⟩ := hrel
    by_cases hlt : k < n
    · obtain ⟨g1, r1, s, rfl, hg1, -, x0, hr1, hs1, o1⟩ := (H1.out.keep BW.out).at hlt
      obtain ⟨g2, r2, s2, rfl, hg2, -, y0, hr2, hs2, o2⟩ := (H2.out.keep BW.out).at hlt
      rw [hs1] at hs2
      obtain rfl := Option.some.inj hs2
      have hsl := HN.out s (List.mem_of_getElem? hs1)
      have e1 : r1.n = s.length := (own_len4 o1).symm
      have e2 : r2.n = s.length := (own_len4 o2).symm
      rw [e1] at x0 o1
      rw [e2] at y0 o2
      have K := SameSeg_E r1.a r2.a s.length r1.c r2.c _ _ s wr o1 o2 (by omega)
      clear hs1 hr1 hr2 o1 o2 hsl e1 e2 hg1 hg2
      generalize s.length = sn at *
      generalize r1.a = f3 at *
      generalize r1.c = f4 at *
      generalize r2.a = f5 at *
      generalize r2.c = f6 at *
      go_wp2_with (go_at_fn 138; refine K.mono ?_; rintro e w' ⟨rfl, hb'⟩)
      go_roundw
      case rel => exact ⟨k + 1, hlt, by go_num, Lib.hid (BW.out.trans (hb'.mono BW.out.size))⟩
      case measure => simp [intOf]; omega
    · obtain rfl : k = n := by omega
      go_wp2_with fail
      go_ret
      exact ⟨rfl, BW.out⟩

set_option maxRecDepth 100000 in
set_option maxHeartbeats 4000000 in
/-- Segments that are one are the same. -/
theorem Same_E (a1 a2 : Option Addr) (n c1 c2 base1 base2 : Nat) (rs1 rs2 : List Rl) (l : List (List Sg.R)) (w : World) (h1 : SgW w base1 a1 n c1 rs1 l) (h2 : SgW w base2 a2 n c2 rs2 l) (hn : n ≤ 1000000) (hs : ∀ s ∈ l, s.length ≤ 1000000) :
    Calls Try.prog 48 #[.slice a1 n c1, .slice a2 n c2] w fun e w' => e = .returned (.bool true) ∧ Below w.heap.size w w' := by
  have E1 := EqualFunc_E a1 a2 n c1 c2 base1 base2 rs1 rs2 l w h1 h2 hn hs
  clear h1 h2 hs
  go_enter Try.func48, Try.ntmps48
  go_wp2_with fail
  with_reducible refine E1.mono ?_
  rintro e w' ⟨rfl, hb⟩
  go_wp2_with fail
  go_ret
  exact ⟨rfl, hb⟩

end Go.Proofs.Ytenkdpogdfcbgaa
