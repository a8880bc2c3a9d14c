/- BagOwn: the given statement, out of the walk in YteddendidjhmbaaBagOwn. For every input. -/
import Derived.Test.YteddendidjhmbaaRows
import Derived.Test.YteddendidjhmbaaBagOwn
import Derived.WalkKit
import Derived.ProofKit
import Derived.OpenShut
import Derived.ShutString
import Derived.Lib.SmallJoins
import Derived.ChangeOld
import Derived.Below
import Derived.SliceStrings
import Derived.SizedLaws
namespace Go.Proofs.Yteddendidjhmbaa.bagOwn
open Go.ChangeShapes Go.WideShapes Go.ChangeAt Go.RowKit Go.Joins
open Go.ChangeMaps (open_string shut_string)

theorem own : ownKnob Try.prog.godebug = none := by kernel_rfl
theorem laidOut : laidOutB Try.prog = true := by kernel_rfl
theorem cells26 : Try.prog.cellsOf 26 = 3 := by kernel_rfl

theorem walk (a0 : Option Addr) (len0 cap0 : Nat) (t0 : List Bg.It) (a1 : ByteArray) (a2_0 : Bool) (a2_1 : Int) (a2_2 : Int) (w : World) (w0 : IArg w a0 len0 cap0 t0) (bnd0 : len0 * 40 ≤ 140737488351232) (w1 : a1.size ≤ 140737488351232) (w2_1 : (Lit.int .i64 a2_1).wf = true) (w2_2 : (Lit.int .i64 a2_2).wf = true) :
    Calls Try.prog 7 #[.slice a0 len0 cap0, .string a1, .agg #[.bool a2_0, .int .i64 a2_1, .int .i64 a2_2]] w fun e w' => e = .returned (.bool true) ∧ Below w.heap.size w w' := by
  exact bagOwn_walk a0 len0 cap0 t0 a1 a2_0 a2_1 a2_2 w w0 bnd0 w1 w2_1 w2_2

set_option maxRecDepth 100000 in
theorem lifted (os : Os) (started : os.Started) (H : Type) (enc : TypeId × Value → H) :
    ReturnsInHanded {} Try.checked os 7 .any (Rows.bagOwnSpec.pre6 enc Try.prog Try.f7 Rows.bagOwnRow.domain false) (Rows.bagOwnSpec.post enc Try.prog Try.f7 false true false false) := by
  refine returnsInHanded_of_change_sized (C := Try.checked) own started (by kernel_rfl) Try.func7
    (ChangeSpec.witness6 (enc := enc) (C := Try.checked) false ⟨#[], #[.slice none 0 0, .string ByteArray.empty, .agg #[.bool false, .int .i64 0, .int .i64 0]], []⟩ 8 (by kernel_rfl) (by kernel_rfl) (by kernel_rfl) (by kernel_rfl)) ?_
  intro W base args ds gs before hval0 hW hcnd hsz0 _
  have hval : ∀ (j : Nat) t v, Try.f7.params[j]? = some t → args[j]? = some v → Value.okWide Try.prog W .any base t v := hval0
  have hW' := hW
  obtain ⟨p, q, hA0, hV, rfl, hfz, hnd⟩ := hW
  have hA : DataW.TrodAll enc Try.prog W 0 (fun _ => true) true Try.f7.params.toList args.toList ds p := hA0
  rw [Try.params7] at hA hval
  obtain ⟨v0, vs0, d0, ds0, p0, q0, hargs, rfl, rfl, h0, r0⟩ := trodAll_cons hA
  obtain ⟨v1, vs1, d1, ds1, p1, q1, rfl, rfl, rfl, h1, r1⟩ := trodAll_cons r0
  obtain ⟨v2, vs2, d2, ds2, p2, q2, rfl, rfl, rfl, h2, r2⟩ := trodAll_cons r1
  obtain ⟨rfl, rfl, rfl⟩ := trodAll_nil r2
  obtain rfl : args = #[v0, v1, v2] := by cases args; simp_all
  obtain ⟨rfl, rfl⟩ := trodVars_none hV
  obtain ⟨a0, len0, cap0, rfl⟩ := okWide_slice Try.underlying22 (hval 0 22 v0 rfl rfl)
  have k0 := h0
  have lt0 : ∀ x ∈ p0, x.block < W.heap.size := by obtain ⟨m, hm⟩ := k0; exact DataW.trod_lt m _ _ _ hm
  obtain ⟨t0, w0, bnd0⟩ : ∃ zs, IArg W a0 len0 cap0 zs ∧ len0 * 40 ≤ 140737488351232 := by
    obtain ⟨fuel, hf⟩ := h0
    have hbk : len0 * 40 ≤ 140737488351232 := by
      rcases slice_len2 (a := a0) (len := len0) (cap := cap0) Try.underlying22 hf (by simp [Value.cells]) with h0 | ⟨E, S', hE, hl⟩
      · omega
      · have h := sized_slice (t := 22) (e := 37) hsz0 (j := 0) rfl (by rw [← hE]; rfl) Try.underlying22
        have e : reachBytes = 140737488351232 := rfl
        have eb : Try.checked.prog.bytesOf 37 = 40 := by kernel_rfl
        rw [e, eb] at h
        omega
    obtain ⟨a', l', c', zs, hcs, hz⟩ := open_items Try.underlying22 Try.underlying37 (by kernel_rfl) (by kernel_rfl) Try.underlying3 Try.underlying3 Try.underlying9 Try.underlying3 hf
    simp [Value.cells] at hcs
    obtain ⟨rfl, rfl, rfl⟩ := hcs
    exact ⟨zs, hz, hbk⟩
  obtain ⟨a1, rfl, rfl, rfl, w1⟩ := open_string Try.underlying9 (hval 1 9 v1 rfl rfl) h1
  obtain ⟨c2_0, c2_1, c2_2, y2_0, y2_1, y2_2, m2, rfl, rfl, rfl, hy2_0, hy2_1, hy2_2⟩ := open_agg3 Try.underlying26 (by kernel_rfl) cells26 (hval 2 26 v2 rfl rfl) h2
  obtain ⟨a2_0, e2_0, rfl⟩ := DataW.trod_bool Try.underlying4 hy2_0
  obtain ⟨a2_1, e2_1, rfl, w2_1⟩ := DataW.trod_int Try.underlying3 hy2_1
  obtain ⟨a2_2, e2_2, rfl, w2_2⟩ := DataW.trod_int Try.underlying3 hy2_2
  simp at e2_0 e2_1 e2_2
  subst e2_0 e2_1 e2_2
  have r1 : a1.size ≤ 140737488351232 := by
    have h := sized_string hsz0 (j := 1) (t := 9) rfl rfl
    have e : reachBytes = 140737488351232 := rfl
    rw [e] at h
    simpa using h
  clear hA0 hval0

  have reads2 : ∀ (W' : World) (sp : Nat → Bool), DataW.Trod enc Try.prog W' 0 sp true 26 (.agg #[.bool a2_0, .int .i64 a2_1, .int .i64 a2_2]) (.agg [.lit (.bool a2_0), .lit (.int .i64 a2_1), .lit (.int .i64 a2_2)]) [] := fun W' sp =>
    shut_agg3 (y0 := (.lit (.bool a2_0), [])) (y1 := (.lit (.int .i64 a2_1), [])) (y2 := (.lit (.int .i64 a2_2), [])) Try.underlying26 (by kernel_rfl) cells26 ⟨1, by simp [DataW.trod, Try.underlying4]⟩ ⟨1, by simp [DataW.trod, Try.underlying3, w2_1]⟩ ⟨1, by simp [DataW.trod, Try.underlying3, w2_2]⟩
  refine (walk a0 len0 cap0 t0 a1 a2_0 a2_1 a2_2 W w0 bnd0 r1 w2_1 w2_2).mono fun e W' ⟨he, bel⟩ => ?_
  subst he
  exact ⟨_, rfl, _, _, _, [], _, [], hW', trodAll_mk1 (shut_bool Try.underlying4 _), (trodAll_cons_mk (Below.trod laidOut (by kernel_rfl) (of_decide_eq_true (by kernel_rfl)) k0 bel lt0) (trodAll_cons_mk (shut_string Try.underlying9 w1) (trodAll_cons_mk (reads2 _ _) trodAll_mk0))), rfl, bel.frame _, fun h => by cases h⟩

theorem over : Rows.bagOwnRow.holds Try.pinned (OpenSpec.ofChange Rows.bagOwnSpec) :=
  OpenClaim.holds_of_wide 7 Try.f7 rfl rfl rfl rfl rfl rfl rfl ⟨rfl, rfl, rfl, rfl, rfl⟩ rfl rfl rfl rfl rfl (by kernel_rfl) Try.func7 (by kernel_rfl)
    (of_decide_eq_true (by kernel_rfl)) (by unfold Func.isWrapper; first | (rw [if_pos (by decide +kernel)]; kernel_rfl) | (rw [if_neg (by decide +kernel)]; exact ⟨rfl, rfl⟩))
    (fun os started H enc _ => lifted os started H enc)

theorem proved : Rows.BagOwnSaid :=
  over
end Go.Proofs.Yteddendidjhmbaa.bagOwn
