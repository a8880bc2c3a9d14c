/- Walks at registrations: slices.IndexFunc, slices.ContainsFunc, slices.Clone (the tasks' texts turned). -/
import Derived.Test.YtoglkellaliegaaQuW3
namespace Go.Proofs.Ytoglkellaliegaa
open Go.RowKit

theorem Try.infoReg : (Try.prog.info? 56).map (fun i => (i.zero, i.size, i.bytes)) = some (some (.agg #[.int .i64 0, .int .i64 0]), 2, 16) := by kernel_rfl

set_option maxHeartbeats 2000000 in
theorem IndexFunc_R (a : Option Addr) (c : Nat) (ts : List Qu.T) (g : FuncId) (lb : Array Value) (p : Qu.T → Bool) (w : World) (hn : ts.length ≤ 1099511627776)
    (eg : ∀ args w, (callFunc g args).run Try.prog w = .ok (.enter g args) w) (hT : TasksAt w a ts) (hp : PredT w g lb p) :
    Calls Try.prog 83 #[.slice a ts.length c, .func (.func g) #[] lb] w fun e w' => e = .returned (.int .i64 (idx p ts)) ∧ Below w.heap.size w w' := by
  have HT := Lib.hid hT; have HP := Lib.hid hp
  clear hT hp
  obtain ⟨n, hn'⟩ : ∃ n, ts.length = n := ⟨_, rfl⟩
  have HN := Lib.hid hn'
  rw [hn'] at hn ⊢
  clear hn'
  go_enter Try.func83, Try.ntmps83
  go_wp2_with fail
  go_loopg [5, 8] n (fun gg _ s8 wr => ∃ kk : Nat, kk ≤ n ∧ n - kk ≤ gg ∧ s8 = .int .i64 kk ∧ Hid (Below w.heap.size w wr) ∧ Hid (∀ j (_ : j < kk) (hj : j < ts.length), p ts[j] = false))
  case atStart => exact ⟨0, Nat.zero_le _, by omega, rfl, Lib.hid (Below.refl _ w), Lib.hid fun j hj => absurd hj (Nat.not_lt_zero _)⟩
  case round =>
    obtain ⟨kk, hkk, hg, rfl, BW, A⟩ := hrel
    by_cases hlt : kk < n
    · have hk' : kk < ts.length := by rw [HN.out]; exact hlt
      have hne : ts ≠ [] := by rintro rfl; simp at hk'
      obtain ⟨b, o, rfl, hb, hc⟩ := (HT.out.keep BW.out) hne
      obtain ⟨c1, c2⟩ := hc kk ts[kk] (List.getElem?_eq_getElem hk')
      have hcall := HP.out wr ts[kk].1 ts[kk].2 BW.out
      have HE : Hid (p ts[kk] = p (ts[kk].1, ts[kk].2)) := Lib.hid rfl
      clear hc hb hne
      generalize ts[kk].1 = x at *
      generalize ts[kk].2 = y at *
      cases hq : p (x, y) with
      | true =>
        rw [hq] at hcall
        have HQ := Lib.hid hq
        clear hq
        go_wp2_with (go_at_fn g; refine hcall.mono ?_; rintro e w' ⟨rfl, hb'⟩)
        go_ret
        refine ⟨?_, hb'⟩
        rw [idx_hit hk' (by rw [HE.out]; exact HQ.out) (fun j hj => A.out j hj (by omega))]
        rfl
      | false =>
        rw [hq] at hcall
        have HQ := Lib.hid hq
        clear hq
        go_wp2_with (go_at_fn g; refine hcall.mono ?_; rintro e w' ⟨rfl, hb'⟩)
        go_roundg (n - (kk + 1))
        case measure => omega
        case rel =>
          refine ⟨kk + 1, by omega, by omega, by go_num, Lib.hid hb', Lib.hid fun j hj hj' => ?_⟩
          by_cases e : j = kk
          · subst e
            rw [HE.out]; exact HQ.out
          · exact A.out j (by omega) hj'
    · obtain rfl : kk = n := by omega
      go_wp2_with fail
      go_ret
      refine ⟨?_, BW.out⟩
      rw [idx_miss (fun j hj => A.out j (by rw [← HN.out]; exact hj) hj)]
      rfl

set_option maxHeartbeats 1000000 in
theorem ContainsFunc_R (a : Option Addr) (c n : Nat) (ts : List Qu.T) (g : FuncId) (lb : Array Value) (p : Qu.T → Bool) (v : Bool) (w : World) (hn : n ≤ 1099511627776) (hl : ts.length = n)
    (eg : ∀ args w, (callFunc g args).run Try.prog w = .ok (.enter g args) w) (hT : TasksAt w a ts) (hp : PredT w g lb p) (hv : ts.any p = v) :
    Calls Try.prog 78 #[.slice a n c, .func (.func g) #[] lb] w fun e w' => e = .returned (.bool v) ∧ Below w.heap.size w w' := by
  have I1 := IndexFunc_R a c ts g lb p w (by omega) eg hT hp
  rw [hl] at I1
  rw [← hv, ← idx_any]
  clear hv hT hp hl
  generalize idx p ts = x at *
  go_enter Try.func78, Try.ntmps78
  go_wp2_with fail
  with_reducible refine I1.mono ?_
  rintro e w' ⟨rfl, hb⟩
  go_wp2_with fail
  go_ret
  exact ⟨by first | rfl | (simp), hb⟩

set_option maxRecDepth 100000 in
set_option maxHeartbeats 4000000 in
theorem Clone_R (a : Option Addr) (n c : Nat) (ts : List Qu.T) (w : World) (hT : TSl w a n c ts) (hn : n ≤ 1099511627776) :
    Calls Try.prog 51 #[.slice a n c] w fun e w' => ∃ v, e = .returned v ∧ w'.ownsRow w.heap.size 56 2 v n (tv ts) ∧ Below w.heap.size w w' := by
  obtain ⟨i0, hi, hz0, hz1, hz2⟩ := info_parts Try.infoReg
  rcases a with _ | x
  · obtain ⟨rfl, rfl⟩ := hT.nil rfl
    obtain rfl : ts = [] := List.length_eq_zero_iff.1 hT.len
    clear hT
    have en : ∀ w, (binOp .eql 47 (.slice none 0 0) (.slice none 0 0)).run Try.prog w = .ok (.bool true) w := fun w => Lib.run_eql_slice_nil w 47 56 none 0 0 0 0 Try.underlying47
    go_enter Try.func51, Try.ntmps51
    go_wp2_with fail
    go_ret
    exact ⟨_, rfl, World.ownsRow_nil _ _ _ _, Below.refl _ _⟩
  · have HB1 : ∀ T, Below w.heap.size w (w.alloc (.cells #[] T)) := fun T => (Below.refl _ w).alloc (Nat.le_refl _) _
    have hcells : ∀ (T : TypeId) j u, (tv ts)[j]? = some u → (w.alloc (.cells #[] T)).cell? (x.add j) = some u := fun T => (hT.keep (HB1 T)).cells
    have H3 := Lib.hid (hcells 56)
    have HL : Hid ((tv ts).length = n * 2) := Lib.hid (by rw [tv_length, hT.len])
    have H5 : Hid (0 + n ≤ maxLen ∧ (0 + n) * 16 ≤ 140737488355328) := Lib.hid ⟨by unfold maxLen; omega, by omega⟩
    have HO : Hid ((w.alloc (.cells #[] 56)).ownsRow w.heap.size 56 2 (.slice (some ⟨w.heap.size, 0, none⟩) 0 0) 0 []) := Lib.hid (World.ownsRow_made w #[] 0 (Nat.le_refl _) (Nat.zero_le _) rfl)
    have HS : Hid (w.heap.size ≤ (w.alloc (.cells #[] 56)).heap.size) := Lib.hid (by rw [World.size_alloc]; omega)
    have HB := Lib.hid (HB1 56)
    clear hcells hT HB1
    have en : ∀ w, (binOp .eql 47 (.slice (some x) n c) (.slice none 0 0)).run Try.prog w = .ok (.bool false) w := fun w => Lib.run_eql_slice_nil w 47 56 (some x) n c 0 0 Try.underlying47
    go_enter Try.func51, Try.ntmps51
    go_wp2_with (at_builtin; refine wpList_append_own _ rfl _ _ _ rfl w.heap.size 56 i0 (.agg #[.int .i64 0, .int .i64 0]) 2 16 Try.underlying47 hi hz0 hz1 hz2 rfl (by decide) (.slice (some ⟨w.heap.size, 0, none⟩) 0 0) 0 [] rfl HO.out x n c (tv ts) rfl HL.out H3.out (tv_one ts) H5.out.1 H5.out.2 HS.out ?_)
    intro v' w' q1 q2 _
    have HF : Hid (w'.ownsRow w.heap.size 56 2 v' n (tv ts) ∧ Below w.heap.size w w') := Lib.hid ⟨by simpa using q1, own_grown HO.out HB.out (Nat.le_refl _) HS.out q2⟩
    clear q1 q2 H3 HL H5
    go_wp2_with fail
    go_ret
    exact ⟨_, rfl, HF.out⟩

end Go.Proofs.Ytoglkellaliegaa
