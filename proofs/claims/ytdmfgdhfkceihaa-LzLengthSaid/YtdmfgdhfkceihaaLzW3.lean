/- The walk of lz.Parse: a range over the function that gives a text's tokens. -/
import Derived.RangeFuncNested
import Derived.RangeFuncBox
import Derived.RangeFuncLeaves
import Derived.Shelf.Abstract
import Derived.WalkKit
import Derived.OwnWalkIn
import Derived.TacticsInMore
import Derived.LoopNIn
import Derived.LoopIn
import Derived.Maps.AppendAt
import Derived.Test.YtdmfgdhfkceihaaLzW2
import Derived.Test.YtdmfgdhfkceihaaMatchW
namespace Go.Proofs.Ytdmfgdhfkceihaa
open Go.RowKit Go.Shelf

attribute [local go_sem] Oper.semAt_some

/-- A token as a value. -/
def tkv (t : Lz.Tk) : Value := .agg #[.int .i64 t.d, .int .i64 t.n, .int .i64 t.b]

/-- What a round keeps: what lay below n₀, and the boxes B and B + 1. -/
def KpB (n₀ B : Nat) (W W' : World) : Prop := Below n₀ W W' ∧ (B < W.heap.size → W'.heap[B]? = W.heap[B]?) ∧ (B + 1 < W.heap.size → W'.heap[B + 1]? = W.heap[B + 1]?)

theorem KpB.t {n₀ B : Nat} {X Y Z : World} (h : KpB n₀ B X Y) (k : KpB n₀ B Y Z) : KpB n₀ B X Z :=
  ⟨h.1.trans k.1, fun hb => (k.2.1 (Nat.lt_of_lt_of_le hb h.1.size)).trans (h.2.1 hb), fun hb => (k.2.2 (Nat.lt_of_lt_of_le hb h.1.size)).trans (h.2.2 hb)⟩

theorem KpB.of {n₀ B : Nat} {X Y : World} (h : Below n₀ X Y) (h2 : B + 2 ≤ n₀) : KpB n₀ B X Y := ⟨h, fun _ => h.block B (by omega), fun _ => h.block (B + 1) (by omega)⟩

theorem grown_none {W W' : World} (h : Below W.heap.size W W') : W.grownBy W' none := ⟨h.os, h.tape, h.output, h.size, fun k hk _ => h.block k hk⟩

theorem below_drewN {B : Nat} {a w : World} (h : Below B a w) (n : Nat) : Below B a (w.drewN n) := ⟨h.os, h.tape, h.output, h.size, h.block⟩

theorem each_in (s : ByteArray) (win : Int) (w : World) (n : Nat) : CallsIn Fence.wide n Try.prog 27 #[.string s, .int .i64 win] w
    fun e w' => e = .returned (.func (.func 36) #[] #[.pointer (some ⟨w.heap.size, 0, none⟩), .pointer (some ⟨w.heap.size + 1, 0, none⟩)]) ∧ w' = (w.alloc (.cells #[.string s] 9)).alloc (.cells #[.int .i64 win] 3) := by
  refine callsIn_wide.2 ?_
  go_enter Try.func27, Try.ntmps27
  go_wp2_with fail
  go_ret
  exact ⟨by simp, rfl⟩

set_option maxRecDepth 100000 in
set_option maxHeartbeats 4000000 in
theorem each1_in (n l n₀ B : Nat) (s : ByteArray) (win : Nat) (hn : 1 ≤ n) (hs : s.size ≤ 600) (hw1 : 1 ≤ win) (hw : win ≤ 256) (J Jx : List Lz.Tk → World → Prop) (W : World) (hJ : AbidesFrom W.heap.size J)
    (hY : ∀ pre x W1, J pre W1 → pre.length < (Lz.parse s.data.toList win).length → YieldAt Fence.wide (n - 1) Try.prog l #[tkv x] W1 fun e W' =>
      (e = .returned (.bool true) ∧ J (pre ++ [x]) W' ∧ KpB n₀ B W1 W') ∨ (e = .returned (.bool false) ∧ Jx (pre ++ [x]) W'))
    (c1 : Boxed W B 9 (.string s)) (c2 : Boxed W (B + 1) 3 (.int .i64 win)) (h0 : J [] W) :
    CallsIn Fence.wide n Try.prog 36 #[.func (.yield l) #[] #[], .pointer (some ⟨B, 0, none⟩), .pointer (some ⟨B + 1, 0, none⟩)] W fun e W' => (∃ v, e = .returned v) ∧
      ((∃ ys, ys = Lz.parse s.data.toList win ∧ J ys W') ∨ (∃ pre, pre <+: Lz.parse s.data.toList win ∧ Jx pre W')) := by
  refine callsIn_of_wp Try.func36 rfl trivial ?_ rfl
  simp only [Try.ntmps36, List.size_toArray, List.length_cons, List.length_nil, Nat.reduceAdd, Nat.reduceSub, Array.replicate_succ, Array.replicate_zero, List.push_toArray, List.append_toArray, List.nil_append, List.cons_append]
  have hL : (s.data.toList).length = s.size := by simp
  have HY := Lib.hid hY; have HJ := Lib.hid hJ
  clear hY hJ
  gi_wp2
  gi_loopw [4] (fun i wr => ∃ (k : Nat) (pre : List Lz.Tk), k ≤ s.size ∧ i = .int .i64 k ∧ Hid (Lz.parse s.data.toList win = pre ++ Lz.rest s.data.toList win k) ∧ Hid (J pre wr) ∧ Hid (W.heap.size ≤ wr.heap.size) ∧ Hid (Boxed wr B 9 (.string s)) ∧ Hid (Boxed wr (B + 1) 3 (.int .i64 win)))
    (fun i _ => s.size - (intOf i).toNat)
  case atStart => exact ⟨0, [], Nat.zero_le _, rfl, Lib.hid rfl, Lib.hid h0, Lib.hid (Nat.le_refl _), Lib.hid c1, Lib.hid c2⟩
  case round =>
    obtain ⟨k, pre, hk, rfl, hP, hJs, hsz, hb1, hb2⟩ := hrel
    have d1 := hb1.out.cell
    have d2 := hb2.out.cell
    by_cases hlt : k < s.size
    · have L1 := longest_ok s k win wr hs (by omega) hw1 hw
      have hx1 := Lz.rest_step (s := s.data.toList) (w := win) (i := k) (by rw [hL]; exact hlt)
      have hst := Lz.step_in (s := s.data.toList) (w := win) (i := k) (by rw [hL]; exact hlt)
      have hsp := Lz.stepAt_pos s.data.toList win k
      have ht : Lz.tokAt s.data.toList win k = if (Lz.bst s.data.toList win k).2 < 2 then ⟨0, 0, ((s.data.toList.getD k 0).toNat : Int)⟩ else ⟨((Lz.bst s.data.toList win k).1 : Int), ((Lz.bst s.data.toList win k).2 : Int), 0⟩ := rfl
      have hs2 : Lz.stepAt s.data.toList win k = if (Lz.bst s.data.toList win k).2 < 2 then 1 else (Lz.bst s.data.toList win k).2 := rfl
      have h64 := Lz.bst_le64 s.data.toList win k
      have h25 := Lz.bst_le s.data.toList win k
      rw [show Mt.best s.data.toList k (min win k) = Lz.bst s.data.toList win k from rfl] at L1
      rw [hL] at hst
      generalize Lz.tokAt s.data.toList win k = T at *
      generalize Lz.stepAt s.data.toList win k = st at *
      generalize (Lz.bst s.data.toList win k).1 = D at *
      generalize (Lz.bst s.data.toList win k).2 = M at *
      have HT := Lib.hid ht; have HX := Lib.hid hx1
      clear ht hx1
      have L2 := (callsIn_wide (n := n - 1)).2 L1
      clear L1
      have hJa : ∀ w3, Below wr.heap.size wr w3 → J pre w3 := fun w3 hb => HJ.out pre wr w3 none hJs.out (grown_none hb) (fun r e => by cases e)
      have HJa := Lib.hid hJa
      clear hJa
      have hm6 : ((s.data.toList.getD k 0).toNat : Int) = bt s.data.toList k := rfl
      have ix := idx_str Try.underlying9 (s := s) (x := (k : Int)) (k := k) rfl hlt
      have hy0 : 0 ≤ bt s.data.toList k ∧ bt s.data.toList k < 256 := by have := (s.data.toList.getD k 0).toNat_lt; unfold bt; omega
      generalize bt s.data.toList k = Y at *
      by_cases hM : M < 2
      · rw [if_pos hM] at hs2
        gi_wp2
        refine ⟨trivial, ?_⟩
        gi_at_call 26
        refine L2.mono ?_
        rintro e w2 ⟨rfl, kk, hw2⟩
        have HB2 : Hid (Below wr.heap.size wr w2) := Lib.hid (by rw [hw2]; exact below_drewN (Below.refl _ _) _)
        have hs3 : w2.heap.size = wr.heap.size := by rw [hw2]; rfl
        have HB5 : Hid (Boxed w2 B 9 (.string s)) := Lib.hid (hb1.out.kept (grown_none HB2.out) (by simp))
        have HB6 : Hid (Boxed w2 (B + 1) 3 (.int .i64 win)) := Lib.hid (hb2.out.kept (grown_none HB2.out) (by simp))
        have d1 := HB5.out.cell
        have d2 := HB6.out.cell
        have hB5 := HB5.out.lt
        have hB6 := HB6.out.lt
        have HS3 := Lib.hid hs3
        clear hw2 L2 hs3
        have HB3 : Hid (Below wr.heap.size wr (w2.alloc (.cells #[.int .i64 0, .int .i64 0, .int .i64 Y] 33))) := Lib.hid (HB2.out.alloc (by rw [HS3.out]; exact Nat.le_refl _) _)
        obtain ⟨fn, tmps, assign, body, hy, hR⟩ := HY.out pre ⟨0, 0, Y⟩ _ (HJa.out _ HB3.out) (by rw [hP.out, HX.out]; simp)
        dsimp only [tkv] at hy
        have HTT : Hid (T = ⟨0, 0, Y⟩) := Lib.hid (by rw [HT.out, if_pos hM]; exact congrArg (Lz.Tk.mk 0 0) hm6)
        gi_wp2
        refine hR.mono ?_
        rintro e W3 (⟨rfl, hJ4, hk4⟩ | ⟨rfl, hJx4⟩)
        · have HB7 : Hid (Boxed W3 B 9 (.string s)) := Lib.hid ((hk4.2.1 (HB5.out.alloc _).lt).trans (HB5.out.alloc _))
          have HB8 : Hid (Boxed W3 (B + 1) 3 (.int .i64 win)) := Lib.hid ((hk4.2.2 (HB6.out.alloc _).lt).trans (HB6.out.alloc _))
          have HSZ : Hid (W.heap.size ≤ W3.heap.size) := Lib.hid (by have h1 := hk4.1.size; have h2 := HB3.out.size; have h3 := hsz.out; omega)
          have HJ4 := Lib.hid hJ4
          clear hy hR hk4 hJ4
          gi_wp2
          go_roundw
          case rel => exact ⟨k + st, pre ++ [⟨0, 0, Y⟩], by omega, by go_num, Lib.hid (by rw [hP.out, HX.out, HTT.out, List.append_assoc]; rfl), HJ4, HSZ, HB7, HB8⟩
          case measure => simp [intOf]; omega
        · clear hy hR
          gi_wp2
          refine bodyPost_ret (results_none rfl _ _ _) rfl ?_
          exact ⟨⟨_, rfl⟩, .inr ⟨pre ++ [⟨0, 0, Y⟩], ⟨Lz.rest s.data.toList win (k + st), by rw [hP.out, HX.out, HTT.out, List.append_assoc]; rfl⟩, hJx4⟩⟩
      · rw [if_neg hM] at hs2
        gi_wp2
        refine ⟨trivial, ?_⟩
        gi_at_call 26
        refine L2.mono ?_
        rintro e w2 ⟨rfl, kk, hw2⟩
        have HB2 : Hid (Below wr.heap.size wr w2) := Lib.hid (by rw [hw2]; exact below_drewN (Below.refl _ _) _)
        have hs3 : w2.heap.size = wr.heap.size := by rw [hw2]; rfl
        have HB5 : Hid (Boxed w2 B 9 (.string s)) := Lib.hid (hb1.out.kept (grown_none HB2.out) (by simp))
        have HB6 : Hid (Boxed w2 (B + 1) 3 (.int .i64 win)) := Lib.hid (hb2.out.kept (grown_none HB2.out) (by simp))
        have d1 := HB5.out.cell
        have d2 := HB6.out.cell
        have hB5 := HB5.out.lt
        have hB6 := HB6.out.lt
        have HS3 := Lib.hid hs3
        clear hw2 L2 hs3
        have HB3 : Hid (Below wr.heap.size wr (w2.alloc (.cells #[.int .i64 D, .int .i64 M, .int .i64 0] 33))) := Lib.hid (HB2.out.alloc (by rw [HS3.out]; exact Nat.le_refl _) _)
        obtain ⟨fn, tmps, assign, body, hy, hR⟩ := HY.out pre ⟨D, M, 0⟩ _ (HJa.out _ HB3.out) (by rw [hP.out, HX.out]; simp)
        dsimp only [tkv] at hy
        have HTT : Hid (T = ⟨D, M, 0⟩) := Lib.hid (by rw [HT.out, if_neg hM])
        gi_wp2
        refine hR.mono ?_
        rintro e W3 (⟨rfl, hJ4, hk4⟩ | ⟨rfl, hJx4⟩)
        · have HB7 : Hid (Boxed W3 B 9 (.string s)) := Lib.hid ((hk4.2.1 (HB5.out.alloc _).lt).trans (HB5.out.alloc _))
          have HB8 : Hid (Boxed W3 (B + 1) 3 (.int .i64 win)) := Lib.hid ((hk4.2.2 (HB6.out.alloc _).lt).trans (HB6.out.alloc _))
          have HSZ : Hid (W.heap.size ≤ W3.heap.size) := Lib.hid (by have h1 := hk4.1.size; have h2 := HB3.out.size; have h3 := hsz.out; omega)
          have HJ4 := Lib.hid hJ4
          clear hy hR hk4 hJ4
          gi_wp2
          go_roundw
          case rel => exact ⟨k + st, pre ++ [⟨D, M, 0⟩], by omega, by go_num, Lib.hid (by rw [hP.out, HX.out, HTT.out, List.append_assoc]; rfl), HJ4, HSZ, HB7, HB8⟩
          case measure => simp [intOf]; omega
        · clear hy hR
          gi_wp2
          refine bodyPost_ret (results_none rfl _ _ _) rfl ?_
          exact ⟨⟨_, rfl⟩, .inr ⟨pre ++ [⟨D, M, 0⟩], ⟨Lz.rest s.data.toList win (k + st), by rw [hP.out, HX.out, HTT.out, List.append_assoc]; rfl⟩, hJx4⟩⟩
    · obtain rfl : k = s.size := by omega
      gi_wp2
      go_end0
      exact ⟨⟨_, rfl⟩, .inl ⟨pre, by rw [hP.out, Lz.rest_end (by rw [hL]; exact Nat.le_refl _), List.append_nil], hJs.out⟩⟩

end Go.Proofs.Ytdmfgdhfkceihaa
