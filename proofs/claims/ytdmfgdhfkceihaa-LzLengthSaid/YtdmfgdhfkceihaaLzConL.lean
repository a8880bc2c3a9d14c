/- slices.Grow at nil and slices.Concat of two, at tokens, as long as they may be. -/
import Derived.Test.YtdmfgdhfkceihaaLzConW
import Derived.OwnWalk
namespace Go.Proofs.Ytdmfgdhfkceihaa
open Go.RowKit

set_option maxRecDepth 100000 in
set_option maxHeartbeats 2000000 in
theorem Grow_L (n : Nat) (h0 : 0 < n) (hn : n * 24 ≤ 281474976710656) (w : World) :
    Calls Try.prog 24 #[.slice none 0 0, .int .i64 n] w fun e w' => ∃ G, n ≤ G ∧ e = .returned (.slice (some ⟨w.heap.size, 0, none⟩) 0 G) ∧ w'.ownsRow w.heap.size 33 3 (.slice (some ⟨w.heap.size, 0, none⟩) 0 G) 0 [] ∧ Below w.heap.size w w' := by
  obtain ⟨i0, hi, hz0, hz1, hz2⟩ := info_parts Try.infoTok
  have hz := fun ty => Lib.run_append_nil_zeros w 30 3 ty 33 i0 (.agg #[.int .i64 0, .int .i64 0, .int .i64 0]) .i64 .i64 Try.underlying30 Try.underlying3 hi hz0 n (by omega) (by rw [hz1]; decide) (by omega) (by rw [hz2]; omega)
  have hge := grownCap_ge w n 0 33
  have hle := grownCap_le_maxLen w n 0 33 (by unfold maxLen; omega)
  have hcs : (Builtin.zeroCells (Value.agg #[.int .i64 0, .int .i64 0, .int .i64 0]).cells n ++ Builtin.zeroCells (Value.agg #[.int .i64 0, .int .i64 0, .int .i64 0]).cells (grownCap w n 0 33 - n)).size = grownCap w n 0 33 * 3 := by
    rw [Array.size_append, size_zeroCells, size_zeroCells]
    show n * 3 + _ * 3 = _
    omega
  generalize grownCap w n 0 33 = G at *
  generalize Builtin.zeroCells (Value.agg #[.int .i64 0, .int .i64 0, .int .i64 0]).cells n ++ Builtin.zeroCells (Value.agg #[.int .i64 0, .int .i64 0, .int .i64 0]).cells (G - n) = cs at *
  have HF : Hid ((w.drew.alloc (.cells cs 33)).ownsRow w.heap.size 33 3 (.slice (some ⟨w.heap.size, 0, none⟩) 0 G) 0 [] ∧ Below w.heap.size w (w.drew.alloc (.cells cs 33))) :=
    Lib.hid ⟨World.ownsRow_made w.drew cs G (Nat.le_refl _) hle hcs, ((Below.refl _ w).drew).alloc (Nat.le_refl _) _⟩
  have hn0 : decide ((0 : Int) < (n : Int)) = true := decide_eq_true (by omega)
  clear hcs hle
  go_enter Try.func24, Try.ntmps24
  go_wp2_with (at_builtin; refine Lib.wpList_append_run _ rfl _ _ _ _ rfl _ _ rfl rfl _ _ (hz _) ?_)
  go_ret
  exact ⟨G, hge, rfl, HF.out⟩

set_option maxRecDepth 100000 in
set_option maxHeartbeats 4000000 in
theorem Concat2_L (b c n1 c1 n2 c2 : Nat) (a1 a2 : Option Addr) (t1 t2 : List Lz.Tk) (w : World) (hb : b < w.heap.size) (hc1 : w.cell? ⟨b, 0, none⟩ = some (.slice a1 n1 c1)) (hc2 : w.cell? ⟨b, 1, none⟩ = some (.slice a2 n2 c2))
    (h1 : KArg w a1 n1 c1 t1) (h2 : KArg w a2 n2 c2 t2) (z1 : a1 = none → n1 = 0 ∧ c1 = 0) (z2 : a2 = none → n2 = 0 ∧ c2 = 0) (hn1 : n1 * 24 ≤ 140737488351232) (hn2 : n2 * 24 ≤ 140737488351232) :
    Calls Try.prog 12 #[.slice (some ⟨b, 0, none⟩) 2 c] w fun e w' => ∃ v, e = .returned v ∧ w'.ownsRow w.heap.size 33 3 v (n1 + n2) (kv (t1 ++ t2)) ∧ Below w.heap.size w w' := by
  by_cases hs0 : n1 + n2 = 0
  · exact Concat2_K b c n1 c1 n2 c2 a1 a2 t1 t2 w hb hc1 hc2 h1 h2 z1 z2 (by omega) (by omega)
  obtain ⟨i0, hi, hz0, hz1, hz2⟩ := info_parts Try.infoTok
  have H1 := Lib.hid h1; have H2 := Lib.hid h2; have Z1 := Lib.hid z1; have Z2 := Lib.hid z2; clear z1 z2; have HB := Lib.hid hb
  have HC1 := Lib.hid hc1; have HC2 := Lib.hid hc2
  have G1 := fun w => Grow_L (n1 + n2) (by omega) (by omega) w
  obtain ⟨S, hS⟩ : ∃ S : Int, ((n1 + n2 : Nat) : Int) = S := ⟨_, rfl⟩
  rw [hS] at G1
  have HS : Hid ((n1 : Int) + (n2 : Int) = S) := Lib.hid (by omega)
  have HS9 : Hid ((n1 : Int) + (n2 : Int) ≤ 11728124029610) := Lib.hid (by omega)
  clear hS h1 h2 hb hs0
  go_enter Try.func12, Try.ntmps12
  go_wp2_with fail
  go_loop [3, 11] (fun x i => (x = .int .i64 0 ∧ i = .int .i64 0) ∨ (x = .int .i64 n1 ∧ i = .int .i64 1) ∨ (x = .int .i64 S ∧ i = .int .i64 2)) (fun _ i => 2 - (intOf i).toNat)
  case atStart => exact Or.inl ⟨rfl, rfl⟩
  case round =>
    rcases hrel with ⟨rfl, rfl⟩ | ⟨rfl, rfl⟩ | ⟨rfl, rfl⟩
    · go_wp2_with fail
      go_round
      case rel => exact Or.inr (Or.inl ⟨by go_num, by go_num⟩)
      case measure => simp [intOf]
    · have h9 := HS9.out
      go_wp2_with fail
      go_round
      case rel => exact Or.inr (Or.inr ⟨by rw [← HS.out], by go_num⟩)
      case measure => simp [intOf]
    · have hS0 : ¬ S < 0 := by have := HS.out; omega
      clear hc1 hc2
      go_wp2_with fail
      with_reducible refine (G1 _).mono ?_
      rintro e w1 ⟨G, hG, rfl, hown1, hb1⟩
      obtain ⟨g, hg⟩ : ∃ g, w.heap.size = g := ⟨_, rfl⟩
      have HG := Lib.hid hG; have HGB := Lib.hid (Nat.le_of_eq hg)
      have HO1 := Lib.hid hown1; have HB1 := Lib.hid hb1
      rw [hg] at HO1 ⊢
      clear hown1 hb1 G1 hG
      have HZ := Lib.hid hg
      clear hg
      go_wp2_with fail
      go_loopw [6, 27] (fun v i wr => Hid (Below w.heap.size w wr) ∧ ((i = .int .i64 0 ∧ v = .slice (some ⟨g, 0, none⟩) 0 G ∧ Hid (wr.ownsRow g 33 3 (.slice (some ⟨g, 0, none⟩) 0 G) 0 [])) ∨ (i = .int .i64 1 ∧ v = .slice (some ⟨g, 0, none⟩) n1 G ∧ Hid (wr.ownsRow g 33 3 (.slice (some ⟨g, 0, none⟩) n1 G) n1 (kv t1))) ∨ (i = .int .i64 2 ∧ v = .slice (some ⟨g, 0, none⟩) (n1 + n2) G ∧ Hid (wr.ownsRow g 33 3 (.slice (some ⟨g, 0, none⟩) (n1 + n2) G) (n1 + n2) (kv (t1 ++ t2)))))) (fun _ i _ => 2 - (intOf i).toNat)
      case atStart => exact ⟨HB1, Or.inl ⟨rfl, rfl, HO1⟩⟩
      case round =>
        obtain ⟨hB, ⟨rfl, rfl, hO⟩ | ⟨rfl, rfl, hO⟩ | ⟨rfl, rfl, hO⟩⟩ := hrel
        · have g1 : wr.cell? ⟨b, 0, none⟩ = some (.slice a1 n1 c1) := by rw [hB.out.cell (p := ⟨b, 0, none⟩) HB.out]; exact HC1.out
          have hcl : Hid (∀ x, a1 = some x → ∀ j u, (kv t1)[j]? = some u → wr.cell? (x.add j) = some u) := Lib.hid fun x e => by subst e; exact (H1.out.keep hB.out).cells
          have hll : Hid ((kv t1).length = n1 * 3) := Lib.hid (by rw [kv_length, H1.out.len])
          have hfit : 0 + n1 ≤ G := by have := HG.out; omega
          go_wp2_with (at_builtin; refine wpList_append_fits_any _ rfl _ _ _ rfl g 33 i0 3 Try.underlying30 hi hz1 g 0 G [] rfl hO.out a1 n1 c1 (kv t1) rfl hll.out Z1.out hcl.out (kv_one t1) hfit ?_)
          intro w' q1 q2
          have HO' : Hid (w'.ownsRow g 33 3 (.slice (some ⟨g, 0, none⟩) n1 G) n1 (kv t1)) := Lib.hid (by simpa using q1)
          have HB' : Hid (Below w.heap.size w w') := Lib.hid (hB.out.grown q2 hB.out.size (fun k e => by cases e; exact HGB.out))
          clear q1 q2 hcl hll hfit
          go_wp2_with fail
          go_roundw
          case rel => exact ⟨HB', Or.inr (Or.inl ⟨by go_num, by simp, HO'⟩)⟩
          case measure => simp [intOf]
        · have g1 : wr.cell? ⟨b, 1, none⟩ = some (.slice a2 n2 c2) := by rw [hB.out.cell (p := ⟨b, 1, none⟩) HB.out]; exact HC2.out
          have hcl : Hid (∀ x, a2 = some x → ∀ j u, (kv t2)[j]? = some u → wr.cell? (x.add j) = some u) := Lib.hid fun x e => by subst e; exact (H2.out.keep hB.out).cells
          have hll : Hid ((kv t2).length = n2 * 3) := Lib.hid (by rw [kv_length, H2.out.len])
          have hfit : n1 + n2 ≤ G := HG.out
          go_wp2_with (at_builtin; refine wpList_append_fits_any _ rfl _ _ _ rfl g 33 i0 3 Try.underlying30 hi hz1 g n1 G (kv t1) rfl hO.out a2 n2 c2 (kv t2) rfl hll.out Z2.out hcl.out (kv_one t2) hfit ?_)
          intro w' q1 q2
          have HO' : Hid (w'.ownsRow g 33 3 (.slice (some ⟨g, 0, none⟩) (n1 + n2) G) (n1 + n2) (kv (t1 ++ t2))) := Lib.hid (by rw [kv_app]; exact q1)
          have HB' : Hid (Below w.heap.size w w') := Lib.hid (hB.out.grown q2 hB.out.size (fun k e => by cases e; exact HGB.out))
          clear q1 q2 hcl hll hfit
          go_wp2_with fail
          go_roundw
          case rel => exact ⟨HB', Or.inr (Or.inr ⟨by go_num, rfl, HO'⟩)⟩
          case measure => simp [intOf]
        · go_wp2_with fail
          go_ret
          exact ⟨_, rfl, HZ.out ▸ hO.out, hB.out⟩

end Go.Proofs.Ytdmfgdhfkceihaa
