import Derived.Test.YtenkdpogdfcbgaaSgD
/- The walks of seg.size, seg.full and seg.Check. -/
namespace Go.Proofs.Ytenkdpogdfcbgaa
open Go.RowKit

theorem size_E (b : Bool) (x y : Int) (t : ByteArray) (w : World) (ht : t.size ≤ 64) :
    Calls Try.prog 173 #[.agg #[.bool b, .int .i64 x, .int .i64 y, .string t]] w fun e w' => e = .returned (.int .i64 ((8 + t.size : Nat) : Int)) ∧ Below w.heap.size w w' := by
  have hb := (Below.refl w.heap.size w).alloc (Nat.le_refl _) (.cells #[.bool b, .int .i64 x, .int .i64 y, .string t] 36)
  have HB := Lib.hid hb
  have hX := bxs_new w 36 #[.bool b, .int .i64 x, .int .i64 y, .string t] [.bool b, .int .i64 x, .int .i64 y, .string t] rfl
  have c3 := hX.c 3 _ rfl
  have hw : wrap64 (8 + (t.size : Int)) = ((8 + t.size : Nat) : Int) := by rw [IntWalk.wrap64_in _ ⟨by omega, by omega⟩]; omega
  clear hb hX
  go_enter Try.func173, Try.ntmps173
  go_wp2_with fail
  go_wp2_with fail
  go_ret
  exact ⟨by simp, HB.out⟩

set_option maxHeartbeats 2000000 in
theorem full_E (a : Option Addr) (n c base : Nat) (l : List Sg.R) (w : World) (hO : w.ownsRow base 36 4 (.slice a n c) n (ev l)) (hs : ∀ r ∈ l, r.tx.size ≤ 64) (hn : n ≤ 1099511627776) :
    Calls Try.prog 117 #[.slice a n c] w fun e w' => e = .returned (.int .i64 (Sg.full l : Nat)) ∧ Below w.heap.size w w' := by
  have HO := Lib.hid hO; have HS := Lib.hid hs
  have HL := Lib.hid (own_len4 hO)
  have HF : Hid (∀ k, Sg.full (l.take k) ≤ k * 72) := Lib.hid fun k => by
    induction k with
    | zero => simp [Sg.full]
    | succ k ih =>
      by_cases hk : k < l.length
      · rw [List.take_succ_eq_append_getElem hk, Sg.full_app, Sg.full_cons, Sg.full_nil]
        have := hs _ (List.getElem_mem hk)
        unfold Sg.sz
        omega
      · rw [List.take_of_length_le (by omega)] at ih ⊢
        omega
  clear hO hs
  go_enter Try.func117, Try.ntmps117
  go_wp2_with fail
  go_loopw [3, 8] (fun v x wr => ∃ k : Nat, k ≤ n ∧ x = .int .i64 k ∧ v = .int .i64 (Sg.full (l.take k) : Nat) ∧ Hid (Below w.heap.size w wr)) (fun _ x _ => n - (intOf x).toNat)
  case atStart => exact ⟨0, Nat.zero_le _, rfl, rfl, Lib.hid (Below.refl _ _)⟩
  case round =>
    obtain ⟨k, hk, rfl, rfl, HB⟩ := hrel
    by_cases hlt : k < n
    · have hkl : k < l.length := by rw [HL.out]; exact hlt
      obtain ⟨g, rfl, hg, c0, c1, c2, c3⟩ := ev_at (own_keep HO.out HB.out) hkl
      have hb := (Below.refl wr.heap.size wr).alloc (Nat.le_refl _) (.cells #[.bool l[k].id.is, .int .i64 l[k].id.sum, .int .i64 l[k].id.n, .string l[k].tx] 36)
      have K1 := size_E l[k].id.is l[k].id.sum l[k].id.n l[k].tx (wr.alloc (.cells #[.bool l[k].id.is, .int .i64 l[k].id.sum, .int .i64 l[k].id.n, .string l[k].tx] 36)) (HS.out _ (List.getElem_mem hkl))
      have HB1 := Lib.hid (HB.out.trans (hb.mono HB.out.size))
      have hT : Sg.full (l.take (k + 1)) = Sg.full (l.take k) + (8 + l[k].tx.size) := by
        rw [List.take_succ_eq_append_getElem hkl, Sg.full_app, Sg.full_cons, Sg.full_nil]
        rfl
      have HT := Lib.hid hT
      have h1 := HF.out k; have h2 := HS.out _ (List.getElem_mem hkl)
      have hw : wrap64 ((Sg.full (l.take k) : Int) + (8 + (l[k].tx.size : Int))) = (Sg.full (l.take (k + 1)) : Int) := by rw [hT, IntWalk.wrap64_in _ ⟨by omega, by omega⟩]; omega
      clear hb hT h1 h2
      generalize l[k].id.is = f1 at *
      generalize l[k].id.sum = f2 at *
      generalize l[k].id.n = f3 at *
      generalize l[k].tx = f4 at *
      generalize Sg.full (l.take k) = F1 at *
      go_wp2_with fail
      with_reducible refine K1.mono ?_
      rintro e w2 ⟨rfl, hb2⟩
      have HB2 := Lib.hid (HB1.out.trans (hb2.mono HB1.out.size))
      clear hb2 K1 c0 c1 c2 c3
      go_wp2_with fail
      go_roundw
      case rel => exact ⟨k + 1, hlt, by go_num, by first | rfl | rw [hw], HB2⟩
      case measure => simp [intOf]; omega
    · obtain rfl : k = n := by omega
      have hte : l.take k = l := List.take_of_length_le (by rw [HL.out]; exact Nat.le_refl _)
      go_wp2_with fail
      go_ret
      exact ⟨by first | rfl | (rw [hte]; rfl), HB.out⟩

theorem Sg.chk_at {l : List (List Sg.R)} {k : Nat} {s : List Sg.R} (h16 : l.length ≤ 16) (hk : l[k]? = some s) (hb : ∀ j < k, ∀ t, l[j]? = some t → Sg.rowE t = 0) (hne : Sg.rowE s ≠ 0) : Sg.chkE l = Sg.rowE s := by
  unfold Sg.chkE
  rw [if_neg (by omega)]
  refine Sg.frst_hit (k := k) (by rw [List.getElem?_map, hk]; rfl) hne fun j hj y hy => ?_
  rw [List.getElem?_map] at hy
  obtain ⟨t, h1, rfl⟩ := Option.map_eq_some_iff.1 hy
  exact hb j hj t h1
theorem Sg.row_at {s : List Sg.R} {j : Nat} {r : Sg.R} (hj : s[j]? = some r) (hb : ∀ i < j, ∀ t, s[i]? = some t → Sg.oneE t = 0) (hne : Sg.oneE r ≠ 0) : Sg.rowE s = Sg.oneE r := by
  have hf : Sg.frst (s.map Sg.oneE) = Sg.oneE r := Sg.frst_hit (k := j) (by rw [List.getElem?_map, hj]; rfl) hne fun i hi y hy => by
    rw [List.getElem?_map] at hy
    obtain ⟨t, h1, rfl⟩ := Option.map_eq_some_iff.1 hy
    exact hb i hi t h1
  unfold Sg.rowE
  have := (List.getElem?_eq_some_iff.1 hj).1
  rw [if_neg (by omega), hf, if_pos hne]
theorem Sg.row_full {s : List Sg.R} (h0 : s.length ≠ 0) (hb : ∀ i < s.length, ∀ t, s[i]? = some t → Sg.oneE t = 0) : Sg.rowE s = if 200 < Sg.full s then 2 else 0 := by
  have hf : Sg.frst (s.map Sg.oneE) = 0 := Sg.frst_zero.2 fun x hx => by
    obtain ⟨r, hr, rfl⟩ := List.mem_map.1 hx
    obtain ⟨i, hi, rfl⟩ := List.getElem_of_mem hr
    exact hb i hi _ (List.getElem?_eq_getElem hi)
  unfold Sg.rowE
  rw [if_neg h0, hf, if_neg (by simp)]

set_option maxRecDepth 100000 in
set_option maxHeartbeats 4000000 in
theorem Check_E (a : Option Addr) (n c base : Nat) (rs : List Rl) (l : List (List Sg.R)) (w : World) (hS : SgW w base a n c rs l) (hn : n ≤ 1099511627776) (hs : ∀ s ∈ l, s.length ≤ 1099511627776) :
    Calls Try.prog 24 #[.slice a n c] w fun e w' => e = .returned (.int .i64 (Sg.chkE l : Nat)) ∧ Below w.heap.size w w' := by
  have HS := Lib.hid hS; have HN := Lib.hid hs
  have HL := Lib.hid hS.len
  clear hS hs
  by_cases h16 : 16 < n
  · have hc : Sg.chkE l = 2 := by unfold Sg.chkE; rw [if_pos (by rw [HL.out]; exact h16)]
    go_enter Try.func24, Try.ntmps24
    go_wp2_with fail
    go_ret
    exact ⟨by rw [hc]; rfl, Below.refl _ _⟩
  · go_enter Try.func24, Try.ntmps24
    go_wp2_with fail
    go_loopw [12] (fun x wr => ∃ k : Nat, k ≤ n ∧ x = .int .i64 k ∧ Hid (Below w.heap.size w wr) ∧ Hid (∀ j < k, ∀ t, l[j]? = some t → Sg.rowE t = 0)) (fun x _ => n - (intOf x).toNat)
    case atStart => exact ⟨0, Nat.zero_le _, rfl, Lib.hid (Below.refl _ _), Lib.hid fun j hj => by omega⟩
    case round =>
      obtain ⟨k, hk, rfl, HB, HP⟩ := hrel
      by_cases hlt : k < n
      · obtain ⟨g, r, s, rfl, hg, -, c0, hr, hls, ho⟩ := (HS.out.keep HB.out).at hlt
        have HC : Hid (∀ E, Sg.rowE s = E → E ≠ 0 → (.returned (.int .i64 (E : Int)) : Ending) = .returned (.int .i64 (Sg.chkE l : Nat))) := Lib.hid fun E h1 h2 => by rw [Sg.chk_at (by rw [HL.out]; omega) hls HP.out (by rw [h1]; exact h2), h1]
        have HK : Hid (Sg.rowE s = 0 → ∀ j < k + 1, ∀ t, l[j]? = some t → Sg.rowE t = 0) := Lib.hid fun h0 j hj t ht => by
          by_cases hjk : j < k
          · exact HP.out j hjk t ht
          · obtain rfl : j = k := by omega
            rw [hls] at ht
            cases ht
            exact h0
        have HO := Lib.hid ho
        have HSL := Lib.hid (own_len4 ho)
        have hsn : r.n ≤ 1099511627776 := by rw [← own_len4 ho]; exact HN.out s (List.mem_of_getElem? hls)
        clear hg hr hls ho
        generalize r.a = ra at *
        generalize r.n = rn at *
        generalize r.c = rc at *
        by_cases h0 : rn = 0
        · subst h0
          go_wp2_with fail
          go_ret
          exact ⟨HC.out 3 (by unfold Sg.rowE; rw [if_pos HSL.out]) (by omega), HB.out⟩
        · have h0' : ((rn : Int) == 0) = false := beq_eq_false_iff_ne.2 (by omega)
          generalize wr = W1 at *
          go_wp2_with fail
          go_loopw [21] (fun x wr => ∃ j : Nat, j ≤ rn ∧ x = .int .i64 j ∧ Hid (Below W1.heap.size W1 wr) ∧ Hid (∀ i < j, ∀ t, s[i]? = some t → Sg.oneE t = 0)) (fun x _ => rn - (intOf x).toNat)
          case atStart => exact ⟨0, Nat.zero_le _, rfl, Lib.hid (Below.refl _ _), Lib.hid fun j hj => by omega⟩
          case round =>
            obtain ⟨j, hj, rfl, HB2, HQ⟩ := hrel
            by_cases hjl : j < rn
            · have hjs : j < s.length := by rw [HSL.out]; exact hjl
              obtain ⟨g2, rfl, hg2, d0, d1, d2, d3⟩ := ev_at (own_keep HO.out HB2.out) hjs
              have HJ : Hid (∀ E, Sg.oneE s[j] = E → E ≠ 0 → Sg.rowE s = E) := Lib.hid fun E h1 h2 => by rw [Sg.row_at (List.getElem?_eq_getElem hjs) HQ.out (by rw [h1]; exact h2), h1]
              have HJ2 : Hid (Sg.oneE s[j] = 0 → ∀ i < j + 1, ∀ t, s[i]? = some t → Sg.oneE t = 0) := Lib.hid fun h0 i hi t ht => by
                by_cases hij : i < j
                · exact HQ.out i hij t ht
                · obtain rfl : i = j := by omega
                  rw [List.getElem?_eq_getElem hjs] at ht
                  cases ht
                  exact h0
              have HB3 : Hid (∀ o, Below W1.heap.size W1 (wr.alloc o)) := Lib.hid fun o => HB2.out.alloc HB2.out.size o
              have hone : Sg.oneE s[j] = if s[j].id.is = false then 3 else if 64 < s[j].tx.size then 2 else 0 := rfl
              rw [hone] at HJ HJ2
              clear hone hg2
              generalize s[j].id.is = f1 at *
              generalize s[j].id.sum = f2 at *
              generalize s[j].id.n = f3 at *
              generalize s[j].tx = f4 at *
              clear hjs
              cases f1 with
              | false =>
                go_wp2_with fail
                go_ret
                exact ⟨HC.out 3 (HJ.out 3 rfl (by omega)) (by omega), HB.out.trans ((HB3.out _).mono HB.out.size)⟩
              | true =>
                by_cases h64 : 64 < f4.size
                · go_wp2_with fail
                  go_ret
                  exact ⟨HC.out 2 (HJ.out 2 (by rw [if_neg (by decide), if_pos h64]) (by omega)) (by omega), HB.out.trans ((HB3.out _).mono HB.out.size)⟩
                · go_wp2_with fail
                  go_roundw
                  case rel => exact ⟨j + 1, hjl, by go_num, Lib.hid (HB3.out _), Lib.hid (HJ2.out (by rw [if_neg (by decide), if_neg h64]))⟩
                  case measure => simp [intOf]; omega
            · obtain rfl : j = rn := by omega
              have hrow := Sg.row_full (s := s) (by rw [HSL.out]; exact h0) (by rw [HSL.out]; exact HQ.out)
              have K1 := full_E ra j rc _ s wr (own_keep HO.out HB2.out) (fun r hr => by
                obtain ⟨i, hi, rfl⟩ := List.getElem_of_mem hr
                have := HQ.out i (by rw [← HSL.out]; exact hi) _ (List.getElem?_eq_getElem hi)
                exact (Sg.oneE_zero.1 this).2) hsn
              have HBT := Lib.hid (HB.out.trans (HB2.out.mono HB.out.size))
              have HRW := Lib.hid hrow
              clear hrow
              generalize Sg.full s = F at *
              go_wp2_with fail
              with_reducible refine K1.mono ?_
              rintro e w2 ⟨rfl, hb2⟩
              have HB4 := Lib.hid (HBT.out.trans (hb2.mono HBT.out.size))
              clear K1 hb2
              by_cases h200 : 200 < F
              · go_wp2_with fail
                go_ret
                exact ⟨HC.out 2 (by rw [HRW.out, if_pos h200]) (by omega), HB4.out⟩
              · go_wp2_with fail
                go_roundw
                case rel => exact ⟨k + 1, hlt, by go_num, HB4, Lib.hid (HK.out (by rw [HRW.out, if_neg h200]))⟩
                case measure => simp [intOf]; omega
      · obtain rfl : k = n := by omega
        have hc : Sg.chkE l = 0 := by
          unfold Sg.chkE
          rw [if_neg (by rw [HL.out]; exact h16)]
          exact Sg.frst_zero.2 fun x hx => by
            obtain ⟨s, hs, rfl⟩ := List.mem_map.1 hx
            obtain ⟨i, hi, rfl⟩ := List.getElem_of_mem hs
            exact HP.out i (by rw [← HL.out]; exact hi) _ (List.getElem?_eq_getElem hi)
        go_wp2_with fail
        go_ret
        exact ⟨by rw [hc]; rfl, HB.out⟩

end Go.Proofs.Ytenkdpogdfcbgaa
