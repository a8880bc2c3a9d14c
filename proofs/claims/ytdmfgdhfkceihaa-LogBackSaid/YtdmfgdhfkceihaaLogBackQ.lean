/- LogBack: the given statement, out of the walk in YtdmfgdhfkceihaaLogBack. For every input. -/
import Derived.Test.YtdmfgdhfkceihaaRows
import Derived.Test.YtdmfgdhfkceihaaLogBack
import Derived.Test.YtdmfgdhfkceihaaArgs5
import Derived.WalkKit
import Derived.ProofKit
import Derived.OpenShut
import Derived.ShutString
import Derived.Lib.SmallJoins
import Derived.ChangeOld
import Derived.Below
import Derived.SliceStrings
namespace Go.Proofs.Ytdmfgdhfkceihaa.logBack
open Go.ChangeShapes Go.WideShapes Go.ChangeAt Go.RowKit Go.Joins
open Go.ChangeMaps (open_string shut_string)

theorem own : ownKnob Try.prog.godebug = none := by kernel_rfl

theorem cells23 : Try.prog.cellsOf 23 = 5 := by kernel_rfl

theorem walk (a0_0 : Int) (a0_1 : ByteArray) (a0_2 : ByteArray) (a0_3 : Int) (a0_4 : ByteArray) (a1_0 : Int) (a1_1 : ByteArray) (a1_2 : ByteArray) (a1_3 : Int) (a1_4 : ByteArray) (w0_0 : (Lit.int .i64 a0_0).wf = true) (w0_1 : a0_1.size ≤ maxLen) (w0_2 : a0_2.size ≤ maxLen) (w0_3 : (Lit.int .i64 a0_3).wf = true) (w0_4 : a0_4.size ≤ maxLen) (w1_0 : (Lit.int .i64 a1_0).wf = true) (w1_1 : a1_1.size ≤ maxLen) (w1_2 : a1_2.size ≤ maxLen) (w1_3 : (Lit.int .i64 a1_3).wf = true) (w1_4 : a1_4.size ≤ maxLen) (w : World) :
    Calls Try.prog 3 #[.agg #[.int .i64 a0_0, .string a0_1, .string a0_2, .int .i64 a0_3, .string a0_4], .agg #[.int .i64 a1_0, .string a1_1, .string a1_2, .int .i64 a1_3, .string a1_4]] w fun e w' => e = .returned (.bool true) ∧ Below w.heap.size w w' := by
  exact logBack_walk a0_0 a0_1 a0_2 a0_3 a0_4 a1_0 a1_1 a1_2 a1_3 a1_4 w0_0 w0_1 w0_2 w0_3 w0_4 w1_0 w1_1 w1_2 w1_3 w1_4 w

set_option maxRecDepth 100000 in
theorem lifted (os : Os) (started : os.Started) (H : Type) (enc : TypeId × Value → H) :
    ReturnsInHanded {} Try.checked os 3 .any (Rows.logBackSpec.pre6 enc Try.prog Try.f3 Rows.logBackRow.domain false) (Rows.logBackSpec.post enc Try.prog Try.f3 false true false false) := by
  refine returnsInHanded_of_change (C := Try.checked) own started (by kernel_rfl) Try.func3
    (ChangeSpec.witness6 (enc := enc) (C := Try.checked) false ⟨#[], #[.agg #[.int .i64 0, .string ByteArray.empty, .string ByteArray.empty, .int .i64 0, .string ByteArray.empty], .agg #[.int .i64 0, .string ByteArray.empty, .string ByteArray.empty, .int .i64 0, .string ByteArray.empty]], []⟩ 8 (by kernel_rfl) (by kernel_rfl) (by kernel_rfl) (by kernel_rfl)) ?_
  intro W base args ds gs before hval0 hW hcnd _
  have hval : ∀ (j : Nat) t v, Try.f3.params[j]? = some t → args[j]? = some v → Value.okWide Try.prog W .any base t v := hval0
  have hW' := hW
  obtain ⟨p, q, hA0, hV, rfl, hfz, hnd⟩ := hW
  have hA : DataW.TrodAll enc Try.prog W 0 (fun _ => true) true Try.f3.params.toList args.toList ds p := hA0
  rw [Try.params3] at hA hval
  obtain ⟨v0, vs0, d0, ds0, p0, q0, hargs, rfl, rfl, h0, r0⟩ := trodAll_cons hA
  obtain ⟨v1, vs1, d1, ds1, p1, q1, rfl, rfl, rfl, h1, r1⟩ := trodAll_cons r0
  obtain ⟨rfl, rfl, rfl⟩ := trodAll_nil r1
  obtain rfl : args = #[v0, v1] := by cases args; simp_all
  obtain ⟨rfl, rfl⟩ := trodVars_none hV
  obtain ⟨c0_0, c0_1, c0_2, c0_3, c0_4, y0_0, y0_1, y0_2, y0_3, y0_4, m0, rfl, rfl, rfl, hy0_0, hy0_1, hy0_2, hy0_3, hy0_4⟩ := open_agg5 Try.underlying23 (by kernel_rfl) cells23 (hval 0 23 v0 rfl rfl) h0
  obtain ⟨a0_0, e0_0, rfl, w0_0⟩ := DataW.trod_int Try.underlying3 hy0_0
  obtain ⟨a0_1, e0_1, rfl, w0_1⟩ := DataW.trod_string Try.underlying9 hy0_1
  obtain ⟨a0_2, e0_2, rfl, w0_2⟩ := DataW.trod_string Try.underlying9 hy0_2
  obtain ⟨a0_3, e0_3, rfl, w0_3⟩ := DataW.trod_int Try.underlying3 hy0_3
  obtain ⟨a0_4, e0_4, rfl, w0_4⟩ := DataW.trod_string Try.underlying9 hy0_4
  simp at e0_0 e0_1 e0_2 e0_3 e0_4
  subst e0_0 e0_1 e0_2 e0_3 e0_4
  obtain ⟨c1_0, c1_1, c1_2, c1_3, c1_4, y1_0, y1_1, y1_2, y1_3, y1_4, m1, rfl, rfl, rfl, hy1_0, hy1_1, hy1_2, hy1_3, hy1_4⟩ := open_agg5 Try.underlying23 (by kernel_rfl) cells23 (hval 1 23 v1 rfl rfl) h1
  obtain ⟨a1_0, e1_0, rfl, w1_0⟩ := DataW.trod_int Try.underlying3 hy1_0
  obtain ⟨a1_1, e1_1, rfl, w1_1⟩ := DataW.trod_string Try.underlying9 hy1_1
  obtain ⟨a1_2, e1_2, rfl, w1_2⟩ := DataW.trod_string Try.underlying9 hy1_2
  obtain ⟨a1_3, e1_3, rfl, w1_3⟩ := DataW.trod_int Try.underlying3 hy1_3
  obtain ⟨a1_4, e1_4, rfl, w1_4⟩ := DataW.trod_string Try.underlying9 hy1_4
  simp at e1_0 e1_1 e1_2 e1_3 e1_4
  subst e1_0 e1_1 e1_2 e1_3 e1_4

  clear hA0 hval0
  simp only [List.append_nil] at hW'
  have reads0 : ∀ (W' : World) (sp : Nat → Bool), DataW.Trod enc Try.prog W' 0 sp true 23 (.agg #[.int .i64 a0_0, .string a0_1, .string a0_2, .int .i64 a0_3, .string a0_4]) (.agg [.lit (.int .i64 a0_0), .lit (.string a0_1.data.toList), .lit (.string a0_2.data.toList), .lit (.int .i64 a0_3), .lit (.string a0_4.data.toList)]) [] := fun W' sp =>
    shut_agg5 (y0 := (.lit (.int .i64 a0_0), [])) (y1 := (.lit (.string a0_1.data.toList), [])) (y2 := (.lit (.string a0_2.data.toList), [])) (y3 := (.lit (.int .i64 a0_3), [])) (y4 := (.lit (.string a0_4.data.toList), [])) Try.underlying23 (by kernel_rfl) cells23 ⟨1, by simp [DataW.trod, Try.underlying3, w0_0]⟩ ⟨1, by simp [DataW.trod, Try.underlying9, w0_1]⟩ ⟨1, by simp [DataW.trod, Try.underlying9, w0_2]⟩ ⟨1, by simp [DataW.trod, Try.underlying3, w0_3]⟩ ⟨1, by simp [DataW.trod, Try.underlying9, w0_4]⟩
  have reads1 : ∀ (W' : World) (sp : Nat → Bool), DataW.Trod enc Try.prog W' 0 sp true 23 (.agg #[.int .i64 a1_0, .string a1_1, .string a1_2, .int .i64 a1_3, .string a1_4]) (.agg [.lit (.int .i64 a1_0), .lit (.string a1_1.data.toList), .lit (.string a1_2.data.toList), .lit (.int .i64 a1_3), .lit (.string a1_4.data.toList)]) [] := fun W' sp =>
    shut_agg5 (y0 := (.lit (.int .i64 a1_0), [])) (y1 := (.lit (.string a1_1.data.toList), [])) (y2 := (.lit (.string a1_2.data.toList), [])) (y3 := (.lit (.int .i64 a1_3), [])) (y4 := (.lit (.string a1_4.data.toList), [])) Try.underlying23 (by kernel_rfl) cells23 ⟨1, by simp [DataW.trod, Try.underlying3, w1_0]⟩ ⟨1, by simp [DataW.trod, Try.underlying9, w1_1]⟩ ⟨1, by simp [DataW.trod, Try.underlying9, w1_2]⟩ ⟨1, by simp [DataW.trod, Try.underlying3, w1_3]⟩ ⟨1, by simp [DataW.trod, Try.underlying9, w1_4]⟩
  refine (walk a0_0 a0_1 a0_2 a0_3 a0_4 a1_0 a1_1 a1_2 a1_3 a1_4 w0_0 w0_1 w0_2 w0_3 w0_4 w1_0 w1_1 w1_2 w1_3 w1_4 W).mono fun e W' ⟨he, hg⟩ => ?_
  subst he

  exact ⟨_, rfl, post_below (pa := []) (pv := []) hW' (fun _ _ _ => (trodAll_cons_mk (shut_bool Try.underlying4 _) trodAll_mk0)) (fun sp _ => (trodAll_cons_mk (reads0 _ sp) (trodAll_cons_mk (reads1 _ sp) trodAll_mk0))) (fun _ _ => rfl) rfl
    hg (ok_one (by kernel_rfl) rfl (okWide_bool_mk Try.underlying4 _))⟩

theorem over : Rows.logBackRow.holds Try.pinned (OpenSpec.ofChange Rows.logBackSpec) :=
  OpenClaim.holds_of_wide 3 Try.f3 rfl rfl rfl rfl rfl rfl rfl ⟨rfl, rfl, rfl, rfl, rfl⟩ rfl rfl rfl rfl rfl (by kernel_rfl) Try.func3 (by kernel_rfl)
    (of_decide_eq_true (by kernel_rfl)) (by unfold Func.isWrapper; first | (rw [if_pos (by decide +kernel)]; kernel_rfl) | (rw [if_neg (by decide +kernel)]; exact ⟨rfl, rfl⟩))
    (fun os started H enc _ => lifted os started H enc)

theorem proved : Rows.LogBackSaid :=
  over
end Go.Proofs.Ytdmfgdhfkceihaa.logBack
