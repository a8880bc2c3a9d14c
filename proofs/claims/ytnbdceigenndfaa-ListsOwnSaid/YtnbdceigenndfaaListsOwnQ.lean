/- ListsOwn: the given statement, out of the walk in YtnbdceigenndfaaListsOwn. For every input. -/
import Derived.Test.YtnbdceigenndfaaRows
import Derived.Test.YtnbdceigenndfaaListsOwn
import Derived.WalkKit
import Derived.ProofKit
import Derived.OpenShut
import Derived.ShutString
import Derived.Lib.SmallJoins
import Derived.ChangeOld
import Derived.Below
import Derived.SliceStrings
import Derived.SizedLaws
namespace Go.Proofs.Ytnbdceigenndfaa.listsOwn
open Go.ChangeShapes Go.WideShapes Go.ChangeAt Go.RowKit Go.Joins
open Go.ChangeMaps (open_string shut_string)

theorem own : ownKnob Try.prog.godebug = none := by kernel_rfl
theorem laidOut : laidOutB Try.prog = true := by kernel_rfl

theorem walk (a0 : Int) (a1 : ByteArray) (a2 : Option Addr) (len2 cap2 : Nat) (z2 : List Int) (a3 : Option Addr) (len3 cap3 : Nat) (s3 : List ByteArray) (a4 : Option Addr) (len4 cap4 : Nat) (s4 : List ByteArray) (a5 : Int) (w : World) (w0 : (Lit.int .i64 a0).wf = true) (w1 : a1.size ≤ 140737488351232) (w2 : IsRowI w a2 len2 cap2 z2) (bnd2 : len2 * 8 ≤ 140737488351232) (w3 : IsRowS w a3 len3 cap3 s3) (bnd3 : len3 * 16 ≤ 140737488351232) (w4 : IsRowS w a4 len4 cap4 s4) (bnd4 : len4 * 16 ≤ 140737488351232) (w5 : (Lit.int .i64 a5).wf = true) :
    Calls Try.prog 3 #[.int .i64 a0, .string a1, .slice a2 len2 cap2, .slice a3 len3 cap3, .slice a4 len4 cap4, .int .i64 a5] w fun e w' => e = .returned (.bool true) ∧ Below w.heap.size w w' := by
  exact listsOwn_walk a0 a1 a2 len2 cap2 z2 a3 len3 cap3 s3 a4 len4 cap4 s4 a5 w w0 w1 w2 bnd2 w3 bnd3 w4 bnd4 w5

set_option maxRecDepth 100000 in
theorem lifted (os : Os) (started : os.Started) (H : Type) (enc : TypeId × Value → H) :
    ReturnsInHanded {} Try.checked os 3 .any (Rows.listsOwnSpec.pre6 enc Try.prog Try.f3 Rows.listsOwnRow.domain false) (Rows.listsOwnSpec.post enc Try.prog Try.f3 false true false false) := by
  refine returnsInHanded_of_change_sized (C := Try.checked) own started (by kernel_rfl) Try.func3
    (ChangeSpec.witness6 (enc := enc) (C := Try.checked) false ⟨#[], #[.int .i64 0, .string ByteArray.empty, .slice none 0 0, .slice none 0 0, .slice none 0 0, .int .i64 0], []⟩ 8 (by kernel_rfl) (by kernel_rfl) (by kernel_rfl) (by kernel_rfl)) ?_
  intro W base args ds gs before hval0 hW hcnd hsz0 _
  have hval : ∀ (j : Nat) t v, Try.f3.params[j]? = some t → args[j]? = some v → Value.okWide Try.prog W .any base t v := hval0
  have hW' := hW
  obtain ⟨p, q, hA0, hV, rfl, hfz, hnd⟩ := hW
  have hA : DataW.TrodAll enc Try.prog W 0 (fun _ => true) true Try.f3.params.toList args.toList ds p := hA0
  rw [Try.params3] at hA hval
  obtain ⟨v0, vs0, d0, ds0, p0, q0, hargs, rfl, rfl, h0, r0⟩ := trodAll_cons hA
  obtain ⟨v1, vs1, d1, ds1, p1, q1, rfl, rfl, rfl, h1, r1⟩ := trodAll_cons r0
  obtain ⟨v2, vs2, d2, ds2, p2, q2, rfl, rfl, rfl, h2, r2⟩ := trodAll_cons r1
  obtain ⟨v3, vs3, d3, ds3, p3, q3, rfl, rfl, rfl, h3, r3⟩ := trodAll_cons r2
  obtain ⟨v4, vs4, d4, ds4, p4, q4, rfl, rfl, rfl, h4, r4⟩ := trodAll_cons r3
  obtain ⟨v5, vs5, d5, ds5, p5, q5, rfl, rfl, rfl, h5, r5⟩ := trodAll_cons r4
  obtain ⟨rfl, rfl, rfl⟩ := trodAll_nil r5
  obtain rfl : args = #[v0, v1, v2, v3, v4, v5] := by cases args; simp_all
  obtain ⟨rfl, rfl⟩ := trodVars_none hV
  obtain ⟨a0, rfl, rfl, rfl, w0⟩ := open_int Try.underlying3 (hval 0 3 v0 rfl rfl) h0
  obtain ⟨a1, rfl, rfl, rfl, w1⟩ := open_string Try.underlying9 (hval 1 9 v1 rfl rfl) h1
  obtain ⟨a2, len2, cap2, rfl⟩ := okWide_slice Try.underlying22 (hval 2 22 v2 rfl rfl)
  have k2 := h2
  have lt2 : ∀ x ∈ p2, x.block < W.heap.size := by obtain ⟨m, hm⟩ := k2; exact DataW.trod_lt m _ _ _ hm
  obtain ⟨z2, w2, bnd2⟩ : ∃ zs, IsRowI W a2 len2 cap2 zs ∧ len2 * 8 ≤ 140737488351232 := by
    obtain ⟨fuel, hf⟩ := h2
    rcases open_ints Try.underlying22 Try.underlying3 (by kernel_rfl) hf with ⟨hcs, _⟩ | ⟨x, l, c, zs, hcs, _, hl, hm, hz, hx, hcell, hwz⟩
    · simp [Value.cells] at hcs
      obtain ⟨rfl, rfl, rfl⟩ := hcs
      exact ⟨[], (.inl ⟨rfl, rfl, rfl, rfl⟩), by decide⟩
    · simp [Value.cells] at hcs
      obtain ⟨rfl, rfl, rfl⟩ := hcs
      have hr : len2 * 8 ≤ 140737488351232 := by
        simp only [Prod.mk.injEq] at hx
        have h := sized_slice (t := 22) (e := 3) hsz0 (j := 2) rfl (by rw [hx.1]; rfl) Try.underlying22
        have e : reachBytes = 140737488351232 := rfl
        have eb : Try.checked.prog.bytesOf 3 = 8 := by kernel_rfl
        rw [e, eb] at h
        simp [lits] at h hz
        omega
      exact ⟨zs, (.inr ⟨_, rfl, hl, hm, by simpa using hz, hcell, hwz⟩), hr⟩
  obtain ⟨a3, len3, cap3, rfl⟩ := okWide_slice Try.underlying23 (hval 3 23 v3 rfl rfl)
  have k3 := h3
  have lt3 : ∀ x ∈ p3, x.block < W.heap.size := by obtain ⟨m, hm⟩ := k3; exact DataW.trod_lt m _ _ _ hm
  obtain ⟨s3, w3, bnd3⟩ : ∃ zs, IsRowS W a3 len3 cap3 zs ∧ len3 * 16 ≤ 140737488351232 := by
    obtain ⟨fuel, hf⟩ := h3
    rcases open_strings Try.underlying23 Try.underlying9 (by kernel_rfl) hf with ⟨hcs, _⟩ | ⟨x, l, c, zs, hcs, _, hl, hm, hz, hx, hcell, hwz⟩
    · simp [Value.cells] at hcs
      obtain ⟨rfl, rfl, rfl⟩ := hcs
      exact ⟨[], (.inl ⟨rfl, rfl, rfl, rfl⟩), by decide⟩
    · simp [Value.cells] at hcs
      obtain ⟨rfl, rfl, rfl⟩ := hcs
      have hr : len3 * 16 ≤ 140737488351232 := by
        simp only [Prod.mk.injEq] at hx
        have h := sized_slice (t := 23) (e := 9) hsz0 (j := 3) rfl (by rw [hx.1]; rfl) Try.underlying23
        have e : reachBytes = 140737488351232 := rfl
        have eb : Try.checked.prog.bytesOf 9 = 16 := by kernel_rfl
        rw [e, eb] at h
        simp [strs] at h hz
        omega
      exact ⟨zs, (.inr ⟨_, rfl, hl, hm, by simpa using hz, hcell, hwz⟩), hr⟩
  obtain ⟨a4, len4, cap4, rfl⟩ := okWide_slice Try.underlying23 (hval 4 23 v4 rfl rfl)
  have k4 := h4
  have lt4 : ∀ x ∈ p4, x.block < W.heap.size := by obtain ⟨m, hm⟩ := k4; exact DataW.trod_lt m _ _ _ hm
  obtain ⟨s4, w4, bnd4⟩ : ∃ zs, IsRowS W a4 len4 cap4 zs ∧ len4 * 16 ≤ 140737488351232 := by
    obtain ⟨fuel, hf⟩ := h4
    rcases open_strings Try.underlying23 Try.underlying9 (by kernel_rfl) hf with ⟨hcs, _⟩ | ⟨x, l, c, zs, hcs, _, hl, hm, hz, hx, hcell, hwz⟩
    · simp [Value.cells] at hcs
      obtain ⟨rfl, rfl, rfl⟩ := hcs
      exact ⟨[], (.inl ⟨rfl, rfl, rfl, rfl⟩), by decide⟩
    · simp [Value.cells] at hcs
      obtain ⟨rfl, rfl, rfl⟩ := hcs
      have hr : len4 * 16 ≤ 140737488351232 := by
        simp only [Prod.mk.injEq] at hx
        have h := sized_slice (t := 23) (e := 9) hsz0 (j := 4) rfl (by rw [hx.1]; rfl) Try.underlying23
        have e : reachBytes = 140737488351232 := rfl
        have eb : Try.checked.prog.bytesOf 9 = 16 := by kernel_rfl
        rw [e, eb] at h
        simp [strs] at h hz
        omega
      exact ⟨zs, (.inr ⟨_, rfl, hl, hm, by simpa using hz, hcell, hwz⟩), hr⟩
  obtain ⟨a5, rfl, rfl, rfl, w5⟩ := open_int Try.underlying3 (hval 5 3 v5 rfl rfl) h5
  have r1 : a1.size ≤ 140737488351232 := by
    have h := sized_string hsz0 (j := 1) (t := 9) rfl rfl
    have e : reachBytes = 140737488351232 := rfl
    rw [e] at h
    simpa using h
  clear hA0 hval0

  refine (walk a0 a1 a2 len2 cap2 z2 a3 len3 cap3 s3 a4 len4 cap4 s4 a5 W w0 r1 w2 bnd2 w3 bnd3 w4 bnd4 w5).mono fun e W' ⟨he, bel⟩ => ?_
  subst he
  exact ⟨_, rfl, _, _, _, [], _, [], hW', trodAll_mk1 (shut_bool Try.underlying4 _), (trodAll_cons_mk (shut_int Try.underlying3 w0) (trodAll_cons_mk (shut_string Try.underlying9 w1) (trodAll_cons_mk (Below.trod laidOut (by kernel_rfl) (of_decide_eq_true (by kernel_rfl)) k2 bel lt2) (trodAll_cons_mk (Below.trod laidOut (by kernel_rfl) (of_decide_eq_true (by kernel_rfl)) k3 bel lt3) (trodAll_cons_mk (Below.trod laidOut (by kernel_rfl) (of_decide_eq_true (by kernel_rfl)) k4 bel lt4) (trodAll_cons_mk (shut_int Try.underlying3 w5) trodAll_mk0)))))), rfl, bel.frame _, fun h => by cases h⟩

theorem over : Rows.listsOwnRow.holds Try.pinned (OpenSpec.ofChange Rows.listsOwnSpec) :=
  OpenClaim.holds_of_wide 3 Try.f3 rfl rfl rfl rfl rfl rfl rfl ⟨rfl, rfl, rfl, rfl, rfl⟩ rfl rfl rfl rfl rfl (by kernel_rfl) Try.func3 (by kernel_rfl)
    (of_decide_eq_true (by kernel_rfl)) (by unfold Func.isWrapper; first | (rw [if_pos (by decide +kernel)]; kernel_rfl) | (rw [if_neg (by decide +kernel)]; exact ⟨rfl, rfl⟩))
    (fun os started H enc _ => lifted os started H enc)

theorem proved : Rows.ListsOwnSaid :=
  over
end Go.Proofs.Ytnbdceigenndfaa.listsOwn
