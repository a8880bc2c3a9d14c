/- SegOwn: the given statement, out of the walk in YtenkdpogdfcbgaaSegOwn. For every input. -/
import Derived.Test.YtenkdpogdfcbgaaRows
import Derived.Test.YtenkdpogdfcbgaaSegOwn
import Derived.WalkKit
import Derived.ProofKit
import Derived.OpenShut
import Derived.ShutString
import Derived.Lib.SmallJoins
import Derived.ChangeOld
import Derived.Below
import Derived.SliceStrings
namespace Go.Proofs.Ytenkdpogdfcbgaa.segOwn
open Go.ChangeShapes Go.WideShapes Go.ChangeAt Go.RowKit Go.Joins
open Go.ChangeMaps (open_string shut_string)

theorem own : ownKnob Try.prog.godebug = none := by kernel_rfl
theorem laidOut : laidOutB Try.prog = true := by kernel_rfl

theorem walk (a0 : Option Addr) (len0 cap0 : Nat) (t0 : List Sg.R) (a1_0 : Bool) (a1_1 : Int) (a1_2 : Int) (a1_3 : ByteArray) (a2 : Option Addr) (len2 cap2 : Nat) (t2 : List Bg.It) (w : World) (w0 : RArg w a0 len0 cap0 t0) (w1_1 : (Lit.int .i64 a1_1).wf = true) (w1_2 : (Lit.int .i64 a1_2).wf = true) (w1_3 : a1_3.size ≤ maxLen) (w2 : IArg w a2 len2 cap2 t2) :
    Calls Try.prog 8 #[.slice a0 len0 cap0, .agg #[.bool a1_0, .int .i64 a1_1, .int .i64 a1_2, .string a1_3], .slice a2 len2 cap2] w fun e w' => e = .returned (.bool true) ∧ Below w.heap.size w w' := by
  exact segOwn_walk a0 len0 cap0 t0 a1_0 a1_1 a1_2 a1_3 a2 len2 cap2 t2 w w0 w1_1 w1_2 w1_3 w2

set_option maxRecDepth 100000 in
theorem lifted (os : Os) (started : os.Started) (H : Type) (enc : TypeId × Value → H) :
    ReturnsInHanded {} Try.checked os 8 .any (Rows.segOwnSpec.pre6 enc Try.prog Try.f8 Rows.segOwnRow.domain false) (Rows.segOwnSpec.post enc Try.prog Try.f8 false true false false) := by
  refine returnsInHanded_of_change (C := Try.checked) own started (by kernel_rfl) Try.func8
    (ChangeSpec.witness6 (enc := enc) (C := Try.checked) false ⟨#[], #[.slice none 0 0, .agg #[.bool false, .int .i64 0, .int .i64 0, .string ByteArray.empty], .slice none 0 0], []⟩ 8 (by kernel_rfl) (by kernel_rfl) (by kernel_rfl) (by kernel_rfl)) ?_
  intro W base args ds gs before hval0 hW hcnd _
  have hval : ∀ (j : Nat) t v, Try.f8.params[j]? = some t → args[j]? = some v → Value.okWide Try.prog W .any base t v := hval0
  have hW' := hW
  obtain ⟨p, q, hA0, hV, rfl, hfz, hnd⟩ := hW
  have hA : DataW.TrodAll enc Try.prog W 0 (fun _ => true) true Try.f8.params.toList args.toList ds p := hA0
  rw [Try.params8] at hA hval
  obtain ⟨v0, vs0, d0, ds0, p0, q0, hargs, rfl, rfl, h0, r0⟩ := trodAll_cons hA
  obtain ⟨v1, vs1, d1, ds1, p1, q1, rfl, rfl, rfl, h1, r1⟩ := trodAll_cons r0
  obtain ⟨v2, vs2, d2, ds2, p2, q2, rfl, rfl, rfl, h2, r2⟩ := trodAll_cons r1
  obtain ⟨rfl, rfl, rfl⟩ := trodAll_nil r2
  obtain rfl : args = #[v0, v1, v2] := by cases args; simp_all
  obtain ⟨rfl, rfl⟩ := trodVars_none hV
  obtain ⟨a0, len0, cap0, rfl⟩ := okWide_slice Try.underlying45 (hval 0 45 v0 rfl rfl)
  have k0 := h0
  have lt0 : ∀ x ∈ p0, x.block < W.heap.size := by obtain ⟨m, hm⟩ := k0; exact DataW.trod_lt m _ _ _ hm
  obtain ⟨t0, w0⟩ : ∃ zs, RArg W a0 len0 cap0 zs := by
    obtain ⟨fuel, hf⟩ := h0
    obtain ⟨a', l', c', zs, hcs, hz⟩ := open_recs Try.underlying45 Try.underlying36 (by kernel_rfl) Try.underlying29 (by kernel_rfl) (by kernel_rfl) (by kernel_rfl) rfl rfl Try.underlying4 Try.underlying3 Try.underlying3 Try.underlying9 hf
    simp [Value.cells] at hcs
    obtain ⟨rfl, rfl, rfl⟩ := hcs
    exact ⟨zs, hz⟩
  obtain ⟨a1_0, a1_1, a1_2, a1_3, rfl, rfl, rfl, w1_1, w1_2, w1_3⟩ := open_rec1 Try.underlying36 (by kernel_rfl) Try.underlying29 (by kernel_rfl) (by kernel_rfl) (by kernel_rfl) rfl rfl Try.underlying4 Try.underlying3 Try.underlying3 Try.underlying9 (hval 1 36 v1 rfl rfl) h1
  obtain ⟨a2, len2, cap2, rfl⟩ := okWide_slice Try.underlying25 (hval 2 25 v2 rfl rfl)
  have k2 := h2
  have lt2 : ∀ x ∈ p2, x.block < W.heap.size := by obtain ⟨m, hm⟩ := k2; exact DataW.trod_lt m _ _ _ hm
  obtain ⟨t2, w2⟩ : ∃ zs, IArg W a2 len2 cap2 zs := by
    obtain ⟨fuel, hf⟩ := h2
    obtain ⟨a', l', c', zs, hcs, hz⟩ := open_items Try.underlying25 Try.underlying43 (by kernel_rfl) (by kernel_rfl) Try.underlying3 Try.underlying3 Try.underlying9 Try.underlying3 hf
    simp [Value.cells] at hcs
    obtain ⟨rfl, rfl, rfl⟩ := hcs
    exact ⟨zs, hz⟩

  clear hA0 hval0

  have reads1 : ∀ (W' : World) (sp : Nat → Bool), DataW.Trod enc Try.prog W' 0 sp true 36 (.agg #[.bool a1_0, .int .i64 a1_1, .int .i64 a1_2, .string a1_3]) (.agg [.agg [.lit (.bool a1_0), .lit (.int .i64 a1_1), .lit (.int .i64 a1_2)], .lit (.string a1_3.data.toList)]) [] := fun W' sp =>
    shut_rec1 Try.underlying36 (by kernel_rfl) Try.underlying29 (by kernel_rfl) (by kernel_rfl) (by kernel_rfl) rfl rfl Try.underlying4 Try.underlying3 Try.underlying3 Try.underlying9 w1_1 w1_2 w1_3
  refine (walk a0 len0 cap0 t0 a1_0 a1_1 a1_2 a1_3 a2 len2 cap2 t2 W w0 w1_1 w1_2 w1_3 w2).mono fun e W' ⟨he, bel⟩ => ?_
  subst he
  exact ⟨_, rfl, _, _, _, [], _, [], hW', trodAll_mk1 (shut_bool Try.underlying4 _), (trodAll_cons_mk (Below.trod laidOut (by kernel_rfl) (of_decide_eq_true (by kernel_rfl)) k0 bel lt0) (trodAll_cons_mk (reads1 _ _) (trodAll_cons_mk (Below.trod laidOut (by kernel_rfl) (of_decide_eq_true (by kernel_rfl)) k2 bel lt2) trodAll_mk0))), rfl, bel.frame _, fun h => by cases h⟩

theorem over : Rows.segOwnRow.holds Try.pinned (OpenSpec.ofChange Rows.segOwnSpec) :=
  OpenClaim.holds_of_wide 8 Try.f8 rfl rfl rfl rfl rfl rfl rfl ⟨rfl, rfl, rfl, rfl, rfl⟩ rfl rfl rfl rfl rfl (by kernel_rfl) Try.func8 (by kernel_rfl)
    (of_decide_eq_true (by kernel_rfl)) (by unfold Func.isWrapper; first | (rw [if_pos (by decide +kernel)]; kernel_rfl) | (rw [if_neg (by decide +kernel)]; exact ⟨rfl, rfl⟩))
    (fun os started H enc _ => lifted os started H enc)

theorem proved : Rows.SegOwnSaid :=
  over
end Go.Proofs.Ytenkdpogdfcbgaa.segOwn
