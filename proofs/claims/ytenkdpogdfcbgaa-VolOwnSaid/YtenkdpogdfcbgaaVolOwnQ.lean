/- VolOwn: the given statement, out of the walk in YtenkdpogdfcbgaaVolOwn. For every input. -/
import Derived.Test.YtenkdpogdfcbgaaRows
import Derived.Test.YtenkdpogdfcbgaaVolOwn
import Derived.Test.YtenkdpogdfcbgaaArgs5
import Derived.WalkKit
import Derived.ProofKit
import Derived.OpenShut
import Derived.ShutString
import Derived.Lib.SmallJoins
import Derived.ChangeOld
import Derived.Below
import Derived.SliceStrings
namespace Go.Proofs.Ytenkdpogdfcbgaa.volOwn
open Go.ChangeShapes Go.WideShapes Go.ChangeAt Go.RowKit Go.Joins
open Go.ChangeMaps (open_string shut_string)

theorem own : ownKnob Try.prog.godebug = none := by kernel_rfl
theorem laidOut : laidOutB Try.prog = true := by kernel_rfl
theorem cells55 : Try.prog.cellsOf 55 = 5 := by kernel_rfl

theorem walk (a0 : Option Addr) (len0 cap0 : Nat) (t0 : List Lg.Op) (a1 : Int) (a2 : Int) (a3 : ByteArray) (a4 : ByteArray) (a5_0 : Int) (a5_1 : ByteArray) (a5_2 : ByteArray) (a5_3 : Int) (a5_4 : ByteArray) (w : World) (w0 : OArg w a0 len0 cap0 t0) (w1 : (Lit.int .i64 a1).wf = true) (w2 : (Lit.int .i64 a2).wf = true) (w3 : a3.size ≤ maxLen) (w4 : a4.size ≤ maxLen) (w5_0 : (Lit.int .i64 a5_0).wf = true) (w5_1 : a5_1.size ≤ maxLen) (w5_2 : a5_2.size ≤ maxLen) (w5_3 : (Lit.int .i64 a5_3).wf = true) (w5_4 : a5_4.size ≤ maxLen) :
    Calls Try.prog 11 #[.slice a0 len0 cap0, .int .i64 a1, .int .i64 a2, .string a3, .string a4, .agg #[.int .i64 a5_0, .string a5_1, .string a5_2, .int .i64 a5_3, .string a5_4]] w fun e w' => e = .returned (.bool true) ∧ Below w.heap.size w w' := by
  exact volOwn_walk a0 len0 cap0 t0 a1 a2 a3 a4 a5_0 a5_1 a5_2 a5_3 a5_4 w w0 w1 w2 w3 w4 w5_0 w5_1 w5_2 w5_3 w5_4

set_option maxRecDepth 100000 in
theorem lifted (os : Os) (started : os.Started) (H : Type) (enc : TypeId × Value → H) :
    ReturnsInHanded {} Try.checked os 11 .any (Rows.volOwnSpec.pre6 enc Try.prog Try.f11 Rows.volOwnRow.domain false) (Rows.volOwnSpec.post enc Try.prog Try.f11 false true false false) := by
  refine returnsInHanded_of_change (C := Try.checked) own started (by kernel_rfl) Try.func11
    (ChangeSpec.witness6 (enc := enc) (C := Try.checked) false ⟨#[], #[.slice none 0 0, .int .i64 0, .int .i64 0, .string ByteArray.empty, .string ByteArray.empty, .agg #[.int .i64 0, .string ByteArray.empty, .string ByteArray.empty, .int .i64 0, .string ByteArray.empty]], []⟩ 8 (by kernel_rfl) (by kernel_rfl) (by kernel_rfl) (by kernel_rfl)) ?_
  intro W base args ds gs before hval0 hW hcnd _
  have hval : ∀ (j : Nat) t v, Try.f11.params[j]? = some t → args[j]? = some v → Value.okWide Try.prog W .any base t v := hval0
  have hW' := hW
  obtain ⟨p, q, hA0, hV, rfl, hfz, hnd⟩ := hW
  have hA : DataW.TrodAll enc Try.prog W 0 (fun _ => true) true Try.f11.params.toList args.toList ds p := hA0
  rw [Try.params11] at hA hval
  obtain ⟨v0, vs0, d0, ds0, p0, q0, hargs, rfl, rfl, h0, r0⟩ := trodAll_cons hA
  obtain ⟨v1, vs1, d1, ds1, p1, q1, rfl, rfl, rfl, h1, r1⟩ := trodAll_cons r0
  obtain ⟨v2, vs2, d2, ds2, p2, q2, rfl, rfl, rfl, h2, r2⟩ := trodAll_cons r1
  obtain ⟨v3, vs3, d3, ds3, p3, q3, rfl, rfl, rfl, h3, r3⟩ := trodAll_cons r2
  obtain ⟨v4, vs4, d4, ds4, p4, q4, rfl, rfl, rfl, h4, r4⟩ := trodAll_cons r3
  obtain ⟨v5, vs5, d5, ds5, p5, q5, rfl, rfl, rfl, h5, r5⟩ := trodAll_cons r4
  obtain ⟨rfl, rfl, rfl⟩ := trodAll_nil r5
  obtain rfl : args = #[v0, v1, v2, v3, v4, v5] := by cases args; simp_all
  obtain ⟨rfl, rfl⟩ := trodVars_none hV
  obtain ⟨a0, len0, cap0, rfl⟩ := okWide_slice Try.underlying50 (hval 0 50 v0 rfl rfl)
  have k0 := h0
  have lt0 : ∀ x ∈ p0, x.block < W.heap.size := by obtain ⟨m, hm⟩ := k0; exact DataW.trod_lt m _ _ _ hm
  obtain ⟨t0, w0⟩ : ∃ zs, OArg W a0 len0 cap0 zs := by
    obtain ⟨fuel, hf⟩ := h0
    obtain ⟨a', l', c', zs, hcs, hz⟩ := open_ops Try.underlying50 Try.underlying55 (by kernel_rfl) (by kernel_rfl) Try.underlying3 Try.underlying9 Try.underlying9 Try.underlying3 Try.underlying9 hf
    simp [Value.cells] at hcs
    obtain ⟨rfl, rfl, rfl⟩ := hcs
    exact ⟨zs, hz⟩
  obtain ⟨a1, rfl, rfl, rfl, w1⟩ := open_int Try.underlying3 (hval 1 3 v1 rfl rfl) h1
  obtain ⟨a2, rfl, rfl, rfl, w2⟩ := open_int Try.underlying3 (hval 2 3 v2 rfl rfl) h2
  obtain ⟨a3, rfl, rfl, rfl, w3⟩ := open_string Try.underlying9 (hval 3 9 v3 rfl rfl) h3
  obtain ⟨a4, rfl, rfl, rfl, w4⟩ := open_string Try.underlying9 (hval 4 9 v4 rfl rfl) h4
  obtain ⟨c5_0, c5_1, c5_2, c5_3, c5_4, y5_0, y5_1, y5_2, y5_3, y5_4, m5, rfl, rfl, rfl, hy5_0, hy5_1, hy5_2, hy5_3, hy5_4⟩ := open_agg5 Try.underlying55 (by kernel_rfl) cells55 (hval 5 55 v5 rfl rfl) h5
  obtain ⟨a5_0, e5_0, rfl, w5_0⟩ := DataW.trod_int Try.underlying3 hy5_0
  obtain ⟨a5_1, e5_1, rfl, w5_1⟩ := DataW.trod_string Try.underlying9 hy5_1
  obtain ⟨a5_2, e5_2, rfl, w5_2⟩ := DataW.trod_string Try.underlying9 hy5_2
  obtain ⟨a5_3, e5_3, rfl, w5_3⟩ := DataW.trod_int Try.underlying3 hy5_3
  obtain ⟨a5_4, e5_4, rfl, w5_4⟩ := DataW.trod_string Try.underlying9 hy5_4
  simp at e5_0 e5_1 e5_2 e5_3 e5_4
  subst e5_0 e5_1 e5_2 e5_3 e5_4

  clear hA0 hval0

  have reads5 : ∀ (W' : World) (sp : Nat → Bool), DataW.Trod enc Try.prog W' 0 sp true 55 (.agg #[.int .i64 a5_0, .string a5_1, .string a5_2, .int .i64 a5_3, .string a5_4]) (.agg [.lit (.int .i64 a5_0), .lit (.string a5_1.data.toList), .lit (.string a5_2.data.toList), .lit (.int .i64 a5_3), .lit (.string a5_4.data.toList)]) [] := fun W' sp =>
    shut_agg5 (y0 := (.lit (.int .i64 a5_0), [])) (y1 := (.lit (.string a5_1.data.toList), [])) (y2 := (.lit (.string a5_2.data.toList), [])) (y3 := (.lit (.int .i64 a5_3), [])) (y4 := (.lit (.string a5_4.data.toList), [])) Try.underlying55 (by kernel_rfl) cells55 ⟨1, by simp [DataW.trod, Try.underlying3, w5_0]⟩ ⟨1, by simp [DataW.trod, Try.underlying9, w5_1]⟩ ⟨1, by simp [DataW.trod, Try.underlying9, w5_2]⟩ ⟨1, by simp [DataW.trod, Try.underlying3, w5_3]⟩ ⟨1, by simp [DataW.trod, Try.underlying9, w5_4]⟩
  refine (walk a0 len0 cap0 t0 a1 a2 a3 a4 a5_0 a5_1 a5_2 a5_3 a5_4 W w0 w1 w2 w3 w4 w5_0 w5_1 w5_2 w5_3 w5_4).mono fun e W' ⟨he, bel⟩ => ?_
  subst he
  exact ⟨_, rfl, _, _, _, [], _, [], hW', trodAll_mk1 (shut_bool Try.underlying4 _), (trodAll_cons_mk (Below.trod laidOut (by kernel_rfl) (of_decide_eq_true (by kernel_rfl)) k0 bel lt0) (trodAll_cons_mk (shut_int Try.underlying3 w1) (trodAll_cons_mk (shut_int Try.underlying3 w2) (trodAll_cons_mk (shut_string Try.underlying9 w3) (trodAll_cons_mk (shut_string Try.underlying9 w4) (trodAll_cons_mk (reads5 _ _) trodAll_mk0)))))), rfl, bel.frame _, fun h => by cases h⟩

theorem over : Rows.volOwnRow.holds Try.pinned (OpenSpec.ofChange Rows.volOwnSpec) :=
  OpenClaim.holds_of_wide 11 Try.f11 rfl rfl rfl rfl rfl rfl rfl ⟨rfl, rfl, rfl, rfl, rfl⟩ rfl rfl rfl rfl rfl (by kernel_rfl) Try.func11 (by kernel_rfl)
    (of_decide_eq_true (by kernel_rfl)) (by unfold Func.isWrapper; first | (rw [if_pos (by decide +kernel)]; kernel_rfl) | (rw [if_neg (by decide +kernel)]; exact ⟨rfl, rfl⟩))
    (fun os started H enc _ => lifted os started H enc)

theorem proved : Rows.VolOwnSaid :=
  over
end Go.Proofs.Ytenkdpogdfcbgaa.volOwn
