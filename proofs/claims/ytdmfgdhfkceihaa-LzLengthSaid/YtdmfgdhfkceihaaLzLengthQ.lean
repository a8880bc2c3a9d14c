/- LzLength: the given statement, out of the walk in YtdmfgdhfkceihaaLzLengthF. For every input. -/
import Derived.Test.YtdmfgdhfkceihaaRows
import Derived.Test.YtdmfgdhfkceihaaLzLengthF
import Derived.WalkKit
import Derived.ProofKit
import Derived.OpenShut
import Derived.ShutString
import Derived.Lib.SmallJoins
import Derived.ChangeOld
import Derived.Below
import Derived.SliceStrings
import Derived.SizedLaws
namespace Go.Proofs.Ytdmfgdhfkceihaa.lzLength
open Go.ChangeShapes Go.WideShapes Go.ChangeAt Go.RowKit Go.Joins
open Go.ChangeMaps (open_string shut_string)

theorem own : ownKnob Try.prog.godebug = none := by kernel_rfl
theorem laidOut : laidOutB Try.prog = true := by kernel_rfl

theorem walk (a0 : Option Addr) (len0 cap0 : Nat) (t0 : List Lz.Tk) (a1 : Option Addr) (len1 cap1 : Nat) (t1 : List Lz.Tk) (w : World) (w0 : IsRow3 w a0 len0 cap0 t0) (bnd0 : len0 * 24 ≤ 140737488351232) (w1 : IsRow3 w a1 len1 cap1 t1) (bnd1 : len1 * 24 ≤ 140737488351232) :
    Calls Try.prog 4 #[.slice a0 len0 cap0, .slice a1 len1 cap1] w fun e w' => e = .returned (.bool true) ∧ Below w.heap.size w w' := by
  exact lzLength_walk a0 len0 cap0 t0 a1 len1 cap1 t1 w w0 bnd0 w1 bnd1

set_option maxRecDepth 100000 in
theorem lifted (os : Os) (started : os.Started) (H : Type) (enc : TypeId × Value → H) :
    ReturnsInHanded {} Try.checked os 4 .any (Rows.lzLengthSpec.pre6 enc Try.prog Try.f4 Rows.lzLengthRow.domain false) (Rows.lzLengthSpec.post enc Try.prog Try.f4 false true false false) := by
  refine returnsInHanded_of_change_sized (C := Try.checked) own started (by kernel_rfl) Try.func4
    (ChangeSpec.witness6 (enc := enc) (C := Try.checked) false ⟨#[], #[.slice none 0 0, .slice none 0 0], []⟩ 8 (by kernel_rfl) (by kernel_rfl) (by kernel_rfl) (by kernel_rfl)) ?_
  intro W base args ds gs before hval0 hW hcnd hsz0 _
  have hval : ∀ (j : Nat) t v, Try.f4.params[j]? = some t → args[j]? = some v → Value.okWide Try.prog W .any base t v := hval0
  have hW' := hW
  obtain ⟨p, q, hA0, hV, rfl, hfz, hnd⟩ := hW
  have hA : DataW.TrodAll enc Try.prog W 0 (fun _ => true) true Try.f4.params.toList args.toList ds p := hA0
  rw [Try.params4] at hA hval
  obtain ⟨v0, vs0, d0, ds0, p0, q0, hargs, rfl, rfl, h0, r0⟩ := trodAll_cons hA
  obtain ⟨v1, vs1, d1, ds1, p1, q1, rfl, rfl, rfl, h1, r1⟩ := trodAll_cons r0
  obtain ⟨rfl, rfl, rfl⟩ := trodAll_nil r1
  obtain rfl : args = #[v0, v1] := by cases args; simp_all
  obtain ⟨rfl, rfl⟩ := trodVars_none hV
  obtain ⟨a0, len0, cap0, rfl⟩ := okWide_slice Try.underlying30 (hval 0 30 v0 rfl rfl)
  have k0 := h0
  have lt0 : ∀ x ∈ p0, x.block < W.heap.size := by obtain ⟨m, hm⟩ := k0; exact DataW.trod_lt m _ _ _ hm
  obtain ⟨t0, w0, bnd0⟩ : ∃ zs, IsRow3 W a0 len0 cap0 zs ∧ len0 * 24 ≤ 140737488351232 := by
    obtain ⟨fuel, hf⟩ := h0
    skip
    have hbk : len0 * 24 ≤ 140737488351232 := by
      rcases slice_len2 (a := a0) (len := len0) (cap := cap0) Try.underlying30 hf (by simp [Value.cells]) with h0 | ⟨E, S', hE, hl⟩
      · omega
      · have h := sized_slice (t := 30) (e := 33) hsz0 (j := 0) rfl (by rw [← hE]; rfl) Try.underlying30
        have e : reachBytes = 140737488351232 := rfl
        have eb : Try.checked.prog.bytesOf 33 = 24 := by kernel_rfl
        rw [e, eb] at h
        omega
    obtain ⟨a', l', c', zs, hcs, hz⟩ := open_tokens Try.underlying30 Try.underlying33 (by kernel_rfl) (by kernel_rfl) Try.underlying3 Try.underlying3 Try.underlying3 hf
    simp [Value.cells] at hcs
    obtain ⟨rfl, rfl, rfl⟩ := hcs
    exact ⟨zs, hz, hbk⟩
  obtain ⟨a1, len1, cap1, rfl⟩ := okWide_slice Try.underlying30 (hval 1 30 v1 rfl rfl)
  have k1 := h1
  have lt1 : ∀ x ∈ p1, x.block < W.heap.size := by obtain ⟨m, hm⟩ := k1; exact DataW.trod_lt m _ _ _ hm
  obtain ⟨t1, w1, bnd1⟩ : ∃ zs, IsRow3 W a1 len1 cap1 zs ∧ len1 * 24 ≤ 140737488351232 := by
    obtain ⟨fuel, hf⟩ := h1
    skip
    have hbk : len1 * 24 ≤ 140737488351232 := by
      rcases slice_len2 (a := a1) (len := len1) (cap := cap1) Try.underlying30 hf (by simp [Value.cells]) with h0 | ⟨E, S', hE, hl⟩
      · omega
      · have h := sized_slice (t := 30) (e := 33) hsz0 (j := 1) rfl (by rw [← hE]; rfl) Try.underlying30
        have e : reachBytes = 140737488351232 := rfl
        have eb : Try.checked.prog.bytesOf 33 = 24 := by kernel_rfl
        rw [e, eb] at h
        omega
    obtain ⟨a', l', c', zs, hcs, hz⟩ := open_tokens Try.underlying30 Try.underlying33 (by kernel_rfl) (by kernel_rfl) Try.underlying3 Try.underlying3 Try.underlying3 hf
    simp [Value.cells] at hcs
    obtain ⟨rfl, rfl, rfl⟩ := hcs
    exact ⟨zs, hz, hbk⟩

  clear hA0 hval0

  refine (walk a0 len0 cap0 t0 a1 len1 cap1 t1 W w0 bnd0 w1 bnd1).mono fun e W' ⟨he, bel⟩ => ?_
  subst he
  exact ⟨_, rfl, _, _, _, [], _, [], hW', trodAll_mk1 (shut_bool Try.underlying4 _), (trodAll_cons_mk (Below.trod laidOut (by kernel_rfl) (of_decide_eq_true (by kernel_rfl)) k0 bel lt0) (trodAll_cons_mk (Below.trod laidOut (by kernel_rfl) (of_decide_eq_true (by kernel_rfl)) k1 bel lt1) trodAll_mk0)), rfl, bel.frame _, fun h => by cases h⟩

theorem over : Rows.lzLengthRow.holds Try.pinned (OpenSpec.ofChange Rows.lzLengthSpec) :=
  OpenClaim.holds_of_wide 4 Try.f4 rfl rfl rfl rfl rfl rfl rfl ⟨rfl, rfl, rfl, rfl, rfl⟩ rfl rfl rfl rfl rfl (by kernel_rfl) Try.func4 (by kernel_rfl)
    (of_decide_eq_true (by kernel_rfl)) (by unfold Func.isWrapper; first | (rw [if_pos (by decide +kernel)]; kernel_rfl) | (rw [if_neg (by decide +kernel)]; exact ⟨rfl, rfl⟩))
    (fun os started H enc _ => lifted os started H enc)

theorem proved : Rows.LzLengthSaid :=
  over
end Go.Proofs.Ytdmfgdhfkceihaa.lzLength
