/- TargetHeld: the given statement, out of the walk in YtenkdpogdfcbgaaGreatTargetHeld. For every input. -/
import Derived.Test.YtenkdpogdfcbgaaGreatRows
import Derived.Test.YtenkdpogdfcbgaaGreatTargetHeld
import Derived.Test.YtenkdpogdfcbgaaGreatArgs5
import Derived.WalkKit
import Derived.ProofKit
import Derived.OpenShut
import Derived.ShutString
import Derived.Lib.SmallJoins
import Derived.ChangeOld
import Derived.Below
import Derived.SliceStrings
namespace Go.Proofs.YtenkdpogdfcbgaaGreat.targetHeld
open Go.ChangeShapes Go.WideShapes Go.ChangeAt Go.RowKit Go.Joins
open Go.ChangeMaps (open_string shut_string)

theorem own : ownKnob Tryz.prog.godebug = none := by kernel_rfl
theorem laidOut : laidOutB Tryz.prog = true := by kernel_rfl
theorem cells29 : Tryz.prog.cellsOf 29 = 5 := by kernel_rfl

theorem walk (a0 : Option Addr) (len0 cap0 : Nat) (z0 : Nat → Nat → Int) (a1 : Option Addr) (len1 cap1 : Nat) (t1 : List Lg.Op) (a2 : Int) (a3_0 : Int) (a3_1 : ByteArray) (a3_2 : ByteArray) (a3_3 : Int) (a3_4 : ByteArray) (w : World) (w0 : LArg w a0 len0 cap0 z0) (w1 : OArg w a1 len1 cap1 t1) (w2 : (Lit.int .i64 a2).wf = true) (w3_0 : (Lit.int .i64 a3_0).wf = true) (w3_1 : a3_1.size ≤ maxLen) (w3_2 : a3_2.size ≤ maxLen) (w3_3 : (Lit.int .i64 a3_3).wf = true) (w3_4 : a3_4.size ≤ maxLen) :
    Calls Tryz.prog 4 #[.slice a0 len0 cap0, .slice a1 len1 cap1, .int .i64 a2, .agg #[.int .i64 a3_0, .string a3_1, .string a3_2, .int .i64 a3_3, .string a3_4]] w fun e w' => e = .returned (.bool true) ∧ Below w.heap.size w w' := by
  exact targetHeld_walk a0 len0 cap0 z0 a1 len1 cap1 t1 a2 a3_0 a3_1 a3_2 a3_3 a3_4 w w0 w1 w2 w3_0 w3_1 w3_2 w3_3 w3_4

set_option maxRecDepth 100000 in
theorem lifted (os : Os) (started : os.Started) (H : Type) (enc : TypeId × Value → H) :
    ReturnsInHanded {} Tryz.checked os 4 .any (Rows.targetHeldSpec.pre6 enc Tryz.prog Tryz.f4 Rows.targetHeldRow.domain false) (Rows.targetHeldSpec.post enc Tryz.prog Tryz.f4 false true false false) := by
  refine returnsInHanded_of_change (C := Tryz.checked) own started (by kernel_rfl) Tryz.func4
    (ChangeSpec.witness6 (enc := enc) (C := Tryz.checked) false ⟨#[], #[.slice none 0 0, .slice none 0 0, .int .i64 0, .agg #[.int .i64 0, .string ByteArray.empty, .string ByteArray.empty, .int .i64 0, .string ByteArray.empty]], []⟩ 8 (by kernel_rfl) (by kernel_rfl) (by kernel_rfl) (by kernel_rfl)) ?_
  intro W base args ds gs before hval0 hW hcnd _
  have hval : ∀ (j : Nat) t v, Tryz.f4.params[j]? = some t → args[j]? = some v → Value.okWide Tryz.prog W .any base t v := hval0
  have hW' := hW
  obtain ⟨p, q, hA0, hV, rfl, hfz, hnd⟩ := hW
  have hA : DataW.TrodAll enc Tryz.prog W 0 (fun _ => true) true Tryz.f4.params.toList args.toList ds p := hA0
  rw [Tryz.params4] at hA hval
  obtain ⟨v0, vs0, d0, ds0, p0, q0, hargs, rfl, rfl, h0, r0⟩ := trodAll_cons hA
  obtain ⟨v1, vs1, d1, ds1, p1, q1, rfl, rfl, rfl, h1, r1⟩ := trodAll_cons r0
  obtain ⟨v2, vs2, d2, ds2, p2, q2, rfl, rfl, rfl, h2, r2⟩ := trodAll_cons r1
  obtain ⟨v3, vs3, d3, ds3, p3, q3, rfl, rfl, rfl, h3, r3⟩ := trodAll_cons r2
  obtain ⟨rfl, rfl, rfl⟩ := trodAll_nil r3
  obtain rfl : args = #[v0, v1, v2, v3] := by cases args; simp_all
  obtain ⟨rfl, rfl⟩ := trodVars_none hV
  obtain ⟨a0, len0, cap0, rfl⟩ := okWide_slice Tryz.underlying22 (hval 0 22 v0 rfl rfl)
  have k0 := h0
  have lt0 : ∀ x ∈ p0, x.block < W.heap.size := by obtain ⟨m, hm⟩ := k0; exact DataW.trod_lt m _ _ _ hm
  obtain ⟨z0, w0⟩ : ∃ zs, LArg W a0 len0 cap0 zs := by
    obtain ⟨fuel, hf⟩ := h0
    obtain ⟨a', l', c', zs, hcs, hz⟩ := open_rows Tryz.underlying22 Tryz.underlying72 Tryz.underlying3 (by kernel_rfl) (by kernel_rfl) hf
    simp [Value.cells] at hcs
    obtain ⟨rfl, rfl, rfl⟩ := hcs
    exact ⟨zs, hz⟩
  obtain ⟨a1, len1, cap1, rfl⟩ := okWide_slice Tryz.underlying23 (hval 1 23 v1 rfl rfl)
  have k1 := h1
  have lt1 : ∀ x ∈ p1, x.block < W.heap.size := by obtain ⟨m, hm⟩ := k1; exact DataW.trod_lt m _ _ _ hm
  obtain ⟨t1, w1⟩ : ∃ zs, OArg W a1 len1 cap1 zs := by
    obtain ⟨fuel, hf⟩ := h1
    obtain ⟨a', l', c', zs, hcs, hz⟩ := open_ops Tryz.underlying23 Tryz.underlying29 (by kernel_rfl) (by kernel_rfl) Tryz.underlying3 Tryz.underlying9 Tryz.underlying9 Tryz.underlying3 Tryz.underlying9 hf
    simp [Value.cells] at hcs
    obtain ⟨rfl, rfl, rfl⟩ := hcs
    exact ⟨zs, hz⟩
  obtain ⟨a2, rfl, rfl, rfl, w2⟩ := open_int Tryz.underlying3 (hval 2 3 v2 rfl rfl) h2
  obtain ⟨c3_0, c3_1, c3_2, c3_3, c3_4, y3_0, y3_1, y3_2, y3_3, y3_4, m3, rfl, rfl, rfl, hy3_0, hy3_1, hy3_2, hy3_3, hy3_4⟩ := open_agg5 Tryz.underlying29 (by kernel_rfl) cells29 (hval 3 29 v3 rfl rfl) h3
  obtain ⟨a3_0, e3_0, rfl, w3_0⟩ := DataW.trod_int Tryz.underlying3 hy3_0
  obtain ⟨a3_1, e3_1, rfl, w3_1⟩ := DataW.trod_string Tryz.underlying9 hy3_1
  obtain ⟨a3_2, e3_2, rfl, w3_2⟩ := DataW.trod_string Tryz.underlying9 hy3_2
  obtain ⟨a3_3, e3_3, rfl, w3_3⟩ := DataW.trod_int Tryz.underlying3 hy3_3
  obtain ⟨a3_4, e3_4, rfl, w3_4⟩ := DataW.trod_string Tryz.underlying9 hy3_4
  simp at e3_0 e3_1 e3_2 e3_3 e3_4
  subst e3_0 e3_1 e3_2 e3_3 e3_4

  clear hA0 hval0

  have reads3 : ∀ (W' : World) (sp : Nat → Bool), DataW.Trod enc Tryz.prog W' 0 sp true 29 (.agg #[.int .i64 a3_0, .string a3_1, .string a3_2, .int .i64 a3_3, .string a3_4]) (.agg [.lit (.int .i64 a3_0), .lit (.string a3_1.data.toList), .lit (.string a3_2.data.toList), .lit (.int .i64 a3_3), .lit (.string a3_4.data.toList)]) [] := fun W' sp =>
    shut_agg5 (y0 := (.lit (.int .i64 a3_0), [])) (y1 := (.lit (.string a3_1.data.toList), [])) (y2 := (.lit (.string a3_2.data.toList), [])) (y3 := (.lit (.int .i64 a3_3), [])) (y4 := (.lit (.string a3_4.data.toList), [])) Tryz.underlying29 (by kernel_rfl) cells29 ⟨1, by simp [DataW.trod, Tryz.underlying3, w3_0]⟩ ⟨1, by simp [DataW.trod, Tryz.underlying9, w3_1]⟩ ⟨1, by simp [DataW.trod, Tryz.underlying9, w3_2]⟩ ⟨1, by simp [DataW.trod, Tryz.underlying3, w3_3]⟩ ⟨1, by simp [DataW.trod, Tryz.underlying9, w3_4]⟩
  refine (walk a0 len0 cap0 z0 a1 len1 cap1 t1 a2 a3_0 a3_1 a3_2 a3_3 a3_4 W w0 w1 w2 w3_0 w3_1 w3_2 w3_3 w3_4).mono fun e W' ⟨he, bel⟩ => ?_
  subst he
  exact ⟨_, rfl, _, _, _, [], _, [], hW', trodAll_mk1 (shut_bool Tryz.underlying4 _), (trodAll_cons_mk (Below.trod laidOut (by kernel_rfl) (of_decide_eq_true (by kernel_rfl)) k0 bel lt0) (trodAll_cons_mk (Below.trod laidOut (by kernel_rfl) (of_decide_eq_true (by kernel_rfl)) k1 bel lt1) (trodAll_cons_mk (shut_int Tryz.underlying3 w2) (trodAll_cons_mk (reads3 _ _) trodAll_mk0)))), rfl, bel.frame _, fun h => by cases h⟩

theorem over : Rows.targetHeldRow.holds Tryz.pinned (OpenSpec.ofChange Rows.targetHeldSpec) :=
  OpenClaim.holds_of_wide 4 Tryz.f4 rfl rfl rfl rfl rfl rfl rfl ⟨rfl, rfl, rfl, rfl, rfl⟩ rfl rfl rfl rfl rfl (by kernel_rfl) Tryz.func4 (by kernel_rfl)
    (of_decide_eq_true (by kernel_rfl)) (by unfold Func.isWrapper; first | (rw [if_pos (by decide +kernel)]; kernel_rfl) | (rw [if_neg (by decide +kernel)]; exact ⟨rfl, rfl⟩))
    (fun os started H enc _ => lifted os started H enc)

theorem proved : Rows.TargetHeldSaid :=
  over
end Go.Proofs.YtenkdpogdfcbgaaGreat.targetHeld
