/- LogJoins: a log behind another one goes on from where that ended; for every input. -/
import Derived.Test.YthccdoejnklidaaLrW
import Derived.Lib.AppendZeros
import Derived.Lib.Walk
import Derived.Lib.SliceRun
import Derived.Laws.AppendOwnNone
import Derived.Deep.RegionWith
import Derived.StillTailTactics
import Derived.Test.YthccdoejnklidaaSameW
namespace Go.Proofs.Ythccdoejnklidaa
open Go.RowKit

theorem ov_one (l : List Lg.Op) : ∀ u ∈ ov l, u.oneCell' = true := by
  induction l with
  | nil => intro u hu; cases hu
  | cons t l ih =>
    intro u hu
    rw [ov] at hu
    rcases List.mem_cons.1 hu with rfl | hu
    · rfl
    rcases List.mem_cons.1 hu with rfl | hu
    · rfl
    rcases List.mem_cons.1 hu with rfl | hu
    · rfl
    rcases List.mem_cons.1 hu with rfl | hu
    · rfl
    rcases List.mem_cons.1 hu with rfl | hu
    · rfl
    · exact ih u hu

theorem ov_split {l : List Lg.Op} {j : Nat} {u : Value} (h : (ov l)[j]? = some u) : ∃ k t, l[k]? = some t ∧ (j = k * 5 ∧ u = .int .i64 t.k ∨ j = k * 5 + 1 ∧ u = .string t.nm ∨ j = k * 5 + 2 ∧ u = .string t.tn ∨ j = k * 5 + 3 ∧ u = .int .i64 t.a ∨ j = k * 5 + 4 ∧ u = .string t.tx) := by
  induction l generalizing j with
  | nil => simp [ov] at h
  | cons x l ih =>
    match j with
    | 0 => exact ⟨0, x, rfl, Or.inl ⟨rfl, by simpa [ov] using h.symm⟩⟩
    | 1 => exact ⟨0, x, rfl, Or.inr (Or.inl ⟨rfl, by simpa [ov] using h.symm⟩)⟩
    | 2 => exact ⟨0, x, rfl, Or.inr (Or.inr (Or.inl ⟨rfl, by simpa [ov] using h.symm⟩))⟩
    | 3 => exact ⟨0, x, rfl, Or.inr (Or.inr (Or.inr (Or.inl ⟨rfl, by simpa [ov] using h.symm⟩)))⟩
    | 4 => exact ⟨0, x, rfl, Or.inr (Or.inr (Or.inr (Or.inr ⟨rfl, by simpa [ov] using h.symm⟩)))⟩
    | j + 5 =>
      obtain ⟨k, t, h1, h2⟩ := ih (j := j) (by simpa [ov] using h)
      refine ⟨k + 1, t, by simpa using h1, ?_⟩
      rcases h2 with ⟨rfl, h2⟩ | ⟨rfl, h2⟩ | ⟨rfl, h2⟩ | ⟨rfl, h2⟩ | ⟨rfl, h2⟩
      · exact Or.inl ⟨by omega, h2⟩
      · exact Or.inr (Or.inl ⟨by omega, h2⟩)
      · exact Or.inr (Or.inr (Or.inl ⟨by omega, h2⟩))
      · exact Or.inr (Or.inr (Or.inr (Or.inl ⟨by omega, h2⟩)))
      · exact Or.inr (Or.inr (Or.inr (Or.inr ⟨by omega, h2⟩)))

theorem OSl.cells {w : World} {x : Addr} {n c : Nat} {ts : List Lg.Op} (h : OSl w (some x) n c ts) : ∀ j u, (ov ts)[j]? = some u → w.cell? (x.add j) = some u := by
  intro j u hu
  obtain ⟨k, t, hk, hh⟩ := ov_split hu
  have hne : ts ≠ [] := by rintro rfl; simp at hk
  obtain ⟨x', he, hc⟩ := h.at_ hne
  cases he
  obtain ⟨c1, c2, c3, c4, c5⟩ := hc k t hk
  rcases hh with ⟨rfl, rfl⟩ | ⟨rfl, rfl⟩ | ⟨rfl, rfl⟩ | ⟨rfl, rfl⟩ | ⟨rfl, rfl⟩
  · exact c1
  · exact c2
  · exact c3
  · exact c4
  · exact c5

set_option maxRecDepth 100000 in
set_option maxHeartbeats 2000000 in
theorem Grow_O (n : Nat) (hn : n ≤ 549755813888) (w : World) :
    Calls Try.prog 33 #[.slice none 0 0, .int .i64 n] w fun e w' => ∃ v, e = .returned v ∧ w'.ownsRow w.heap.size 28 5 v 0 [] ∧ Below w.heap.size w w' := by
  obtain ⟨i0, hi, hz0, hz1, hz2⟩ := info_parts kp_infoOp
  by_cases h0 : n = 0
  · subst h0
    go_enter Try.func33, Try.ntmps33
    go_wp2_with fail
    go_ret
    exact ⟨_, rfl, World.ownsRow_nil _ _ _ _, Below.refl _ _⟩
  · have hz := fun ty => Lib.run_append_nil_zeros w 22 3 ty 28 i0 (.agg #[.int .i64 0, .string ⟨#[]⟩, .string ⟨#[]⟩, .int .i64 0, .string ⟨#[]⟩]) .i64 .i64 Try.underlying22 Try.underlying3 hi hz0 n (by omega) (by rw [hz1]; decide) (by omega) (by rw [hz2]; omega)
    have hge := grownCap_ge w n 0 28
    have hle := grownCap_le_maxLen w n 0 28 (by unfold maxLen; omega)
    have hcs : (Builtin.zeroCells (Value.agg #[.int .i64 0, .string ⟨#[]⟩, .string ⟨#[]⟩, .int .i64 0, .string ⟨#[]⟩]).cells n ++ Builtin.zeroCells (Value.agg #[.int .i64 0, .string ⟨#[]⟩, .string ⟨#[]⟩, .int .i64 0, .string ⟨#[]⟩]).cells (grownCap w n 0 28 - n)).size = grownCap w n 0 28 * 5 := by
      rw [Array.size_append, size_zeroCells, size_zeroCells]
      show n * 5 + _ * 5 = _
      omega
    generalize grownCap w n 0 28 = G at *
    generalize Builtin.zeroCells (Value.agg #[.int .i64 0, .string ⟨#[]⟩, .string ⟨#[]⟩, .int .i64 0, .string ⟨#[]⟩]).cells n ++ Builtin.zeroCells (Value.agg #[.int .i64 0, .string ⟨#[]⟩, .string ⟨#[]⟩, .int .i64 0, .string ⟨#[]⟩]).cells (G - n) = cs at *
    have HF : Hid ((w.drew.alloc (.cells cs 28)).ownsRow w.heap.size 28 5 (.slice (some ⟨w.heap.size, 0, none⟩) 0 G) 0 [] ∧ Below w.heap.size w (w.drew.alloc (.cells cs 28))) :=
      Lib.hid ⟨World.ownsRow_made w.drew cs G (Nat.le_refl _) hle hcs, ((Below.refl _ w).drew).alloc (Nat.le_refl _) _⟩
    have hn0 : decide ((0 : Int) < (n : Int)) = true := decide_eq_true (by omega)
    clear hcs hle
    go_enter Try.func33, Try.ntmps33
    go_wp2_with (at_builtin; refine Lib.wpList_append_run _ rfl _ _ _ _ rfl _ _ rfl rfl _ _ (hz _) ?_)
    go_ret
    exact ⟨_, rfl, HF.out⟩

set_option maxRecDepth 100000 in
set_option maxHeartbeats 4000000 in
theorem Concat2_O (b c n1 c1 n2 c2 : Nat) (a1 a2 : Option Addr) (t1 t2 : List Lg.Op) (w : World) (hb : b < w.heap.size) (hc1 : w.cell? ⟨b, 0, none⟩ = some (.slice a1 n1 c1)) (hc2 : w.cell? ⟨b, 1, none⟩ = some (.slice a2 n2 c2))
    (h1 : OSl w a1 n1 c1 t1) (h2 : OSl w a2 n2 c2 t2) (z1 : a1 = none → n1 = 0 ∧ c1 = 0) (z2 : a2 = none → n2 = 0 ∧ c2 = 0) (hn1 : n1 ≤ 1048576) (hn2 : n2 ≤ 1048576) :
    Calls Try.prog 16 #[.slice (some ⟨b, 0, none⟩) 2 c] w fun e w' => ∃ v, e = .returned v ∧ w'.ownsRow w.heap.size 28 5 v (n1 + n2) (ov (t1 ++ t2)) ∧ Below w.heap.size w w' := by
  obtain ⟨i0, hi, hz0, hz1, hz2⟩ := info_parts kp_infoOp
  have H1 := Lib.hid h1; have H2 := Lib.hid h2; have Z1 := Lib.hid z1; have Z2 := Lib.hid z2; clear z1 z2; have HB := Lib.hid hb
  have HC1 := Lib.hid hc1; have HC2 := Lib.hid hc2
  have G1 := fun w => Grow_O (n1 + n2) (by omega) w
  obtain ⟨S, hS⟩ : ∃ S : Int, ((n1 + n2 : Nat) : Int) = S := ⟨_, rfl⟩
  rw [hS] at G1
  have HS : Hid ((n1 : Int) + (n2 : Int) = S) := Lib.hid (by omega)
  clear hS
  have b1 : n1 + n2 ≤ maxLen := by unfold maxLen; omega
  have b2 : 0 + n1 ≤ maxLen ∧ (0 + n1) * 64 ≤ 140737488355328 ∧ (n1 + n2) * 64 ≤ 140737488355328 := by unfold maxLen; omega
  have HBB := Lib.hid b1; have HBC := Lib.hid b2
  clear h1 h2 hb b1 b2
  go_enter Try.func16, Try.ntmps16
  go_wp2_with fail
  go_loop [3, 11] (fun x i => (x = .int .i64 0 ∧ i = .int .i64 0) ∨ (x = .int .i64 n1 ∧ i = .int .i64 1) ∨ (x = .int .i64 S ∧ i = .int .i64 2)) (fun _ i => 2 - (intOf i).toNat)
  case atStart => exact Or.inl ⟨rfl, rfl⟩
  case round =>
    rcases hrel with ⟨rfl, rfl⟩ | ⟨rfl, rfl⟩ | ⟨rfl, rfl⟩
    · go_wp2_with fail
      go_round
      case rel => exact Or.inr (Or.inl ⟨by go_num, by go_num⟩)
      case measure => simp [intOf]
    · go_wp2_with fail
      go_round
      case rel => exact Or.inr (Or.inr ⟨by rw [← HS.out], by go_num⟩)
      case measure => simp [intOf]
    · have hS0 : ¬ S < 0 := by have := HS.out; omega
      clear hc1 hc2
      go_wp2_with fail
      with_reducible refine (G1 _).mono ?_
      rintro e w1 ⟨v1, rfl, hown1, hb1⟩
      have HO1 := Lib.hid hown1; have HB1 := Lib.hid hb1
      clear hown1 hb1 G1
      go_wp2_with fail
      go_loopw [6, 27] (fun v i wr => Hid (Below w.heap.size w wr) ∧ ((i = .int .i64 0 ∧ Hid (wr.ownsRow w.heap.size 28 5 v 0 [])) ∨ (i = .int .i64 1 ∧ Hid (wr.ownsRow w.heap.size 28 5 v n1 (ov t1))) ∨ (i = .int .i64 2 ∧ Hid (wr.ownsRow w.heap.size 28 5 v (n1 + n2) (ov (t1 ++ t2)))))) (fun _ i _ => 2 - (intOf i).toNat)
      case atStart => exact ⟨HB1, Or.inl ⟨rfl, HO1⟩⟩
      case round =>
        obtain ⟨hB, ⟨rfl, hO⟩ | ⟨rfl, hO⟩ | ⟨rfl, hO⟩⟩ := hrel
        · have g1 : wr.cell? ⟨b, 0, none⟩ = some (.slice a1 n1 c1) := by rw [hB.out.cell (p := ⟨b, 0, none⟩) HB.out]; exact HC1.out
          have hsz := hB.out.size
          rcases a1 with _ | x1
          · obtain ⟨rfl, rfl⟩ := Z1.out rfl
            have ht : t1 = [] := List.length_eq_zero_iff.1 H1.out.len
            have HT : Hid (t1 = []) := Lib.hid ht
            clear ht
            go_wp2_with (at_builtin; refine wpList_append_own_none rfl _ _ _ rfl w.heap.size 28 i0 5 Try.underlying22 hi _ 0 [] rfl hO.out rfl ?_)
            go_roundw
            case rel => exact ⟨hB, Or.inr (Or.inl ⟨by go_num, Lib.hid (by rw [HT.out]; exact hO.out)⟩)⟩
            case measure => simp [intOf]
          · have hcl := Lib.hid (H1.out.keep hB.out).cells
            have hll : Hid ((ov t1).length = n1 * 5) := Lib.hid (by rw [ov_length, H1.out.len])
            go_wp2_with (at_builtin; refine wpList_append_own _ rfl _ _ _ rfl w.heap.size 28 i0 (.agg #[.int .i64 0, .string ⟨#[]⟩, .string ⟨#[]⟩, .int .i64 0, .string ⟨#[]⟩]) 5 64 Try.underlying22 hi hz0 hz1 hz2 rfl (by decide) _ 0 [] rfl hO.out x1 n1 c1 (ov t1) rfl hll.out hcl.out (ov_one t1) HBC.out.1 HBC.out.2.1 hsz ?_)
            intro v' w' q1 q2 _
            have HO' : Hid (w'.ownsRow w.heap.size 28 5 v' n1 (ov t1)) := Lib.hid (by simpa using q1)
            have HB' : Hid (Below w.heap.size w w') := Lib.hid (own_grown hO.out hB.out (Nat.le_refl _) hsz q2)
            clear q1 q2
            go_wp2_with fail
            go_roundw
            case rel => exact ⟨HB', Or.inr (Or.inl ⟨by go_num, HO'⟩)⟩
            case measure => simp [intOf]
        · have g1 : wr.cell? ⟨b, 1, none⟩ = some (.slice a2 n2 c2) := by rw [hB.out.cell (p := ⟨b, 1, none⟩) HB.out]; exact HC2.out
          have hsz := hB.out.size
          rcases a2 with _ | x2
          · obtain ⟨rfl, rfl⟩ := Z2.out rfl
            have HT : Hid (t2 = []) := Lib.hid (List.length_eq_zero_iff.1 H2.out.len)
            go_wp2_with (at_builtin; refine wpList_append_own_none rfl _ _ _ rfl w.heap.size 28 i0 5 Try.underlying22 hi _ n1 (ov t1) rfl hO.out rfl ?_)
            go_roundw
            case rel => exact ⟨hB, Or.inr (Or.inr ⟨by go_num, Lib.hid (by rw [HT.out, List.append_nil]; exact hO.out)⟩)⟩
            case measure => simp [intOf]
          · have hcl := Lib.hid (H2.out.keep hB.out).cells
            have hll : Hid ((ov t2).length = n2 * 5) := Lib.hid (by rw [ov_length, H2.out.len])
            go_wp2_with (at_builtin; refine wpList_append_own _ rfl _ _ _ rfl w.heap.size 28 i0 (.agg #[.int .i64 0, .string ⟨#[]⟩, .string ⟨#[]⟩, .int .i64 0, .string ⟨#[]⟩]) 5 64 Try.underlying22 hi hz0 hz1 hz2 rfl (by decide) _ n1 (ov t1) rfl hO.out x2 n2 c2 (ov t2) rfl hll.out hcl.out (ov_one t2) HBB.out HBC.out.2.2 hsz ?_)
            intro v' w' q1 q2 _
            have HO' : Hid (w'.ownsRow w.heap.size 28 5 v' (n1 + n2) (ov (t1 ++ t2))) := Lib.hid (by rw [ov_app]; exact q1)
            have HB' : Hid (Below w.heap.size w w') := Lib.hid (own_grown hO.out hB.out (Nat.le_refl _) hsz q2)
            clear q1 q2
            go_wp2_with fail
            go_roundw
            case rel => exact ⟨HB', Or.inr (Or.inr ⟨by go_num, HO'⟩)⟩
            case measure => simp [intOf]
        · go_wp2_with fail
          go_ret
          exact ⟨_, rfl, hO.out, hB.out⟩

end Go.Proofs.Ythccdoejnklidaa

namespace Go.Proofs.Ythccdoejnklidaa.Lr
open Go.Proofs.Ythccdoejnklidaa

theorem kp_runs {s : Vo.St} {p : Vo.St × List Lg.Op} {o : Lg.Op} (h : run s p.2 = ⟨p.1, 0⟩) : run s (kp p o).2 = ⟨(kp p o).1, 0⟩ := by
  unfold kp
  split
  · rename_i h0
    show run s (p.2 ++ [o]) = _
    rw [run_app (by rw [h]), h]
    show (if (Vo.doR p.1 o).e ≠ 0 then _ else run (Vo.doR p.1 o).s []) = _
    rw [if_neg (fun h1 => h1 h0)]
    rfl
  · exact h

theorem kp_folds {s : Vo.St} : ∀ (l : List Lg.Op) (p : Vo.St × List Lg.Op), run s p.2 = ⟨p.1, 0⟩ → run s (l.foldl kp p).2 = ⟨(l.foldl kp p).1, 0⟩
  | [], _, h => h
  | o :: l, p, h => by
    rw [List.foldl_cons]
    exact kp_folds l (kp p o) (kp_runs h)
end Go.Proofs.Ythccdoejnklidaa.Lr

namespace Go.Proofs.Ythccdoejnklidaa
open Go.RowKit

abbrev opJ1 : Lg.Op := ⟨1, ⟨#[97]⟩, ⟨#[]⟩, 1, ⟨#[]⟩⟩
abbrev opJ2 : Lg.Op := ⟨2, ⟨#[97]⟩, ⟨#[]⟩, 0, ⟨#[]⟩⟩
theorem opJ_chk : ∀ t ∈ [opJ1, opJ2], Lg.chkE t = 0 := fun t ht => by
  rcases List.mem_cons.1 ht with rfl | ht
  · kernel_rfl
  · rw [List.mem_singleton] at ht
    subst ht
    kernel_rfl
theorem opJ_run : Lr.run Vo.st0 [opJ1, opJ2] = ⟨⟨[], []⟩, 0⟩ := by kernel_rfl

theorem two_opJ (w : World) : OSl (w.alloc (.cells #[.int .i64 1, .string ⟨#[97]⟩, .string ⟨#[]⟩, .int .i64 1, .string ⟨#[]⟩, .int .i64 2, .string ⟨#[97]⟩, .string ⟨#[]⟩, .int .i64 0, .string ⟨#[]⟩] 28)) (some ⟨w.heap.size, 0, none⟩) 2 2 [opJ1, opJ2] := by
  refine ⟨fun _ => ⟨_, rfl, fun j t hj => ?_⟩, rfl, Nat.le_refl _, by decide, fun h => (by cases h)⟩
  match j, hj with
  | 0, hj =>
    cases hj
    exact ⟨cell_new w (k := 0) rfl, cell_new w (k := 1) rfl, cell_new w (k := 2) rfl, cell_new w (k := 3) rfl, cell_new w (k := 4) rfl⟩
  | 1, hj =>
    cases hj
    exact ⟨cell_new w (k := 5) rfl, cell_new w (k := 6) rfl, cell_new w (k := 7) rfl, cell_new w (k := 8) rfl, cell_new w (k := 9) rfl⟩
  | j + 2, hj => simp at hj

theorem log_sizeJ {l : List Lg.Op} (h : ∀ o ∈ l, Lg.chkE o = 0) (hl : l.length ≤ 200) : (⟨(Lr.log l).toArray⟩ : ByteArray).size ≤ 20000 := by
  have h1 := Lr.log_length h
  show (Lr.log l).toArray.size ≤ _
  rw [List.size_toArray]
  omega

theorem log_apps (l m : List Lg.Op) : (⟨(Lr.log (l ++ m)).toArray⟩ : ByteArray) = ⟨(Lr.log l).toArray⟩ ++ ⟨(Lr.log m).toArray⟩ := by
  rw [Lr.log_app]
  apply ByteArray.ext
  rw [ByteArray.data_append]
  show (Lr.log l ++ Lr.log m).toArray = (Lr.log l).toArray ++ (Lr.log m).toArray
  simp

/-- A log of two deeds: one that makes a volume, one that drops it. -/
theorem two_log : ∃ s1 : ByteArray, (∀ W : World, Calls Try.prog 7 #[.slice (some ⟨W.heap.size, 0, none⟩) 2 2] (W.alloc (.cells #[.int .i64 1, .string ⟨#[97]⟩, .string ⟨#[]⟩, .int .i64 1, .string ⟨#[]⟩, .int .i64 2, .string ⟨#[97]⟩, .string ⟨#[]⟩, .int .i64 0, .string ⟨#[]⟩] 28)) fun e w' => e = .returned (.tuple #[.string s1, .int .i64 0]) ∧ Below (W.alloc (.cells #[.int .i64 1, .string ⟨#[97]⟩, .string ⟨#[]⟩, .int .i64 1, .string ⟨#[]⟩, .int .i64 2, .string ⟨#[97]⟩, .string ⟨#[]⟩, .int .i64 0, .string ⟨#[]⟩] 28)).heap.size (W.alloc (.cells #[.int .i64 1, .string ⟨#[97]⟩, .string ⟨#[]⟩, .int .i64 1, .string ⟨#[]⟩, .int .i64 2, .string ⟨#[97]⟩, .string ⟨#[]⟩, .int .i64 0, .string ⟨#[]⟩] 28)) w') ∧
    ∀ W, Calls Try.prog 10 #[.string s1] W (RepTo W ⟨[], []⟩ 2 0) := by
  obtain ⟨ops, ho⟩ : ∃ ops, ops = [opJ1, opJ2] := ⟨_, rfl⟩
  have h2 : ∀ W : World, OSl (W.alloc (.cells #[.int .i64 1, .string ⟨#[97]⟩, .string ⟨#[]⟩, .int .i64 1, .string ⟨#[]⟩, .int .i64 2, .string ⟨#[97]⟩, .string ⟨#[]⟩, .int .i64 0, .string ⟨#[]⟩] 28)) (some ⟨W.heap.size, 0, none⟩) 2 2 ops := fun W => by rw [ho]; exact two_opJ W
  have hr : Lr.run Vo.st0 ops = ⟨⟨[], []⟩, 0⟩ := by rw [ho]; exact opJ_run
  have hl : ops.length = 2 := by rw [ho]; rfl
  clear ho
  have hc := Lr.run_chk (s := Vo.st0) (l := ops) (by rw [hr])
  refine ⟨⟨(Lr.log ops).toArray⟩, fun W => Log_L (some ⟨W.heap.size, 0, none⟩) 2 2 ops _ (h2 W) hc (by decide), fun W => ?_⟩
  have h := Replay_L ⟨(Lr.log ops).toArray⟩ ops [] 0 W (by rw [List.append_nil]) (Nat.le_trans (log_sizeJ hc (by omega)) (by decide)) (by omega) (by rw [hr]) (Or.inl ⟨rfl, rfl⟩)
  rw [hr, if_pos rfl, if_pos rfl, hl] at h
  exact h

theorem no_log (w : World) : Calls Try.prog 7 #[.slice none 0 0] w fun e w' => e = .returned (.tuple #[.string ⟨#[]⟩, .int .i64 0]) ∧ Below w.heap.size w w' :=
  Log_L none 0 0 [] w ⟨fun h => absurd rfl h, rfl, Nat.le_refl _, Nat.zero_le _, fun _ => ⟨rfl, rfl⟩⟩ (fun t ht => absurd ht List.not_mem_nil) (by decide)

set_option maxRecDepth 100000 in
set_option maxHeartbeats 16000000 in
theorem logJoins_walk (a0 : Option Addr) (len0 cap0 : Nat) (t0 : List Lg.Op) (a1 : Option Addr) (len1 cap1 : Nat) (t1 : List Lg.Op) (w : World) (w0 : OArg w a0 len0 cap0 t0) (w1 : OArg w a1 len1 cap1 t1) :
    Calls Try.prog 6 #[.slice a0 len0 cap0, .slice a1 len1 cap1] w fun e w' => e = .returned (.bool true) ∧ Below w.heap.size w w' := by
  obtain ⟨i0, hi, hz0, hz1, hz2⟩ := info_parts kp_infoOp
  obtain ⟨q, hq⟩ : ∃ q, min len1 60 = q := ⟨_, rfl⟩
  have hq1 : q ≤ len1 := by omega
  have hq2 : q ≤ 60 := by omega
  have hqi : min (len1 : Int) 60 = (q : Int) := by omega
  have hcap := w1.1.cap
  have hmax := w1.1.max
  unfold maxLen at hmax
  have HM : Hid (∀ t ∈ t1.take q, t.nm.size ≤ maxLen ∧ t.tn.size ≤ maxLen ∧ t.tx.size ≤ maxLen) := Lib.hid fun t ht => w1.2 t (List.mem_of_mem_take ht)
  have HT0 := Lib.hid (w1.1.take hq1)
  have KV : Hid (∀ W, Below w.heap.size w W → Calls Try.prog 8 #[.slice a0 len0 cap0] W (KeptTo W (Lr.kept t0))) := Lib.hid fun W hb => kept_V a0 len0 cap0 t0 W ⟨w0.1.keep hb, w0.2⟩
  have C0 := no_log w
  obtain ⟨s1, hCJ, RP⟩ := two_log
  have CJ := Lib.hid hCJ
  clear hCJ
  have HKR := Lib.hid (Lr.kept_run t0); have HKC := Lib.hid (Lr.kept_chk t0); have HKL := Lib.hid (Lr.kept_len t0); have HKG := Lib.hid (Lr.kept_right t0)
  obtain ⟨P, hP⟩ : ∃ P, Lr.kept t0 = P := ⟨_, rfl⟩
  rw [hP] at KV HKR HKC HKL HKG
  obtain ⟨KS, KL⟩ := P
  dsimp only at HKR HKC HKL HKG
  have hKL := HKL.out
  obtain ⟨s2, hs2⟩ : ∃ s2 : ByteArray, s2 = ⟨(Lr.log KL).toArray⟩ := ⟨_, rfl⟩
  have L2 : Hid (∀ (a : Option Addr) (n c : Nat) (W : World), OSl W a n c KL → Calls Try.prog 7 #[.slice a n c] W fun e w' => e = .returned (.tuple #[.string s2, .int .i64 0]) ∧ Below W.heap.size W w') := Lib.hid fun a n c W h => by
    rw [hs2]; exact Log_L a n c KL W h HKC.out (by have := HKL.out; have := h.len; omega)
  have hz2s := log_sizeJ HKC.out (by omega)
  rw [← hs2] at hz2s
  have HS2 := Lib.hid hs2
  clear hs2 w0 w1 hP hq
  go_enter Try.func6, Try.ntmps6
  go_wp2_with fail
  with_reducible refine C0.mono ?_
  rintro e v1 ⟨rfl, hb1⟩
  have ha1 := hb1.alloc hb1.size (.cells #[.int .i64 1, .string ⟨#[97]⟩, .string ⟨#[]⟩, .int .i64 1, .string ⟨#[]⟩, .int .i64 2, .string ⟨#[97]⟩, .string ⟨#[]⟩, .int .i64 0, .string ⟨#[]⟩] 28)
  have HB1 := Lib.hid ha1
  have K1 := CJ.out v1
  clear hb1 ha1 C0 CJ
  go_wp2_with fail
  with_reducible refine K1.mono ?_
  rintro e v2 ⟨rfl, hb2⟩
  have HB2 := Lib.hid (HB1.out.trans (hb2.mono HB1.out.size))
  clear hb2 K1
  go_wp2_with fail
  with_reducible refine (RP _).mono ?_
  rintro e v3 ⟨a3, n3, c3, b3, m3, d3, rs3, rfl, hs3, hb3⟩
  obtain rfl : m3 = 0 := hs3.vlen.symm
  have ha3 := hb3.alloc hb3.size (.cells #[.slice a3 n3 c3, .slice b3 0 d3] 32)
  have HB3 := Lib.hid (HB2.out.trans (ha3.mono HB2.out.size))
  have HX3 := Lib.hid (bxs_new v3 32 #[.slice a3 n3 c3, .slice b3 0 d3] [.slice a3 n3 c3, .slice b3 0 d3] rfl)
  have x0 := HX3.out.c 0 _ rfl; have x1 := HX3.out.c 1 _ rfl
  clear hs3 hb3 ha3 RP
  have K4 := KV.out _ HB3.out
  go_wp2_with fail
  with_reducible refine K4.mono ?_
  rintro e v4 ⟨a4, n4, c4, a5, n5, c5, b5, m5, d5, rs5, rfl, o4, l4, hs4, hb4⟩
  dsimp only at o4 l4 hs4
  obtain rfl : KL.length = n4 := l4
  have hal4 := (Below.refl v4.heap.size v4).alloc (Nat.le_refl _) (.cells #[.slice a5 n5 c5, .slice b5 m5 d5] 32)
  have HBV := Lib.hid (HB3.out.trans (hb4.mono HB3.out.size))
  have HAL4 := Lib.hid hal4
  have hbase : w.heap.size ≤ v4.heap.size := HBV.out.size
  have HT := Lib.hid (HT0.out.keep HBV.out)
  have HY4 := Lib.hid (bxs_new v4 32 #[.slice a5 n5 c5, .slice b5 m5 d5] [.slice a5 n5 c5, .slice b5 m5 d5] rfl)
  have HS4 := Lib.hid ((hs4.low HB3.out.size).keep hal4)
  have HF4 : Hid (∀ v ∈ sls a5 n5 c5 b5 m5 d5 rs5, v.ownBlock ≠ some v4.heap.size) := Lib.hid fun v hv e => by have := (hs4.lt v hv _ e).2; omega
  have HO4 := Lib.hid (own_osl o4 rfl)
  clear o4 hs4 hb4 hal4 K4 x0 x1 HT0
  go_wp2_with fail
  generalize (v4.alloc (.cells #[.slice a5 n5 c5, .slice b5 m5 d5] 32)) = W4 at *
  go_loopw [14, 77] (fun v x wr => ∃ (k : Nat) (al : Option Addr) (nl cl : Nat) (a5 : Option Addr) (n5 c5 : Nat) (b5 : Option Addr) (m5 d5 : Nat) (rs5 : List Rw) (S : Vo.St) (L : List Lg.Op), k ≤ q ∧ x = .int .i64 k ∧ v = .slice al nl cl ∧ Hid ((S, L) = ((t1.take q).take k).foldl Lr.kp (KS, []) ∧ Vo.Right S ∧ L.length = nl ∧ nl ≤ k) ∧ Hid (Below v4.heap.size v4 wr) ∧ Hid (Bxs wr v4.heap.size [.slice a5 n5 c5, .slice b5 m5 d5]) ∧
      Hid (StW wr w.heap.size a5 n5 c5 b5 m5 d5 rs5 S) ∧ Hid (∀ v ∈ sls a5 n5 c5 b5 m5 d5 rs5, v.ownBlock ≠ some v4.heap.size) ∧ Hid (wr.ownsRow (v4.heap.size + 1) 28 5 (.slice al nl cl) nl (ov L)) ∧ Hid (∀ v ∈ sls a5 n5 c5 b5 m5 d5 rs5, ∀ K, (Value.slice al nl cl).ownBlock = some K → v.ownBlock ≠ some K))
    (fun _ x _ => q - (intOf x).toNat)
  case atStart => exact ⟨0, none, 0, 0, _, _, _, _, _, _, rs5, KS, [], Nat.zero_le _, rfl, rfl, Lib.hid ⟨rfl, HKG.out, rfl, Nat.le_refl _⟩, HAL4, HY4, HS4, HF4, Lib.hid (World.ownsRow_nil _ _ _ _), Lib.hid fun v hv K e => by cases e⟩
  case round =>
    obtain ⟨k, al, nl, cl, a5, n5, c5, b5, m5, d5, rs5, S, L, hk, rfl, rfl, HS, BW, YW, SW, FW, OW, NW⟩ := hrel
    have hsz := BW.out.size
    have hyl := YW.out.lt
    by_cases hlt : k < q
    · have hkl : k < (t1.take q).length := by rw [HT.out.len]; exact hlt
      obtain ⟨X, b', o', s', rfl, hX, d0, d1, d2, d3, d4⟩ := (HT.out.keep BW.out).get hkl
      have hal := (Below.refl wr.heap.size wr).alloc (Nat.le_refl _) (.cells #[.int .i64 (t1.take q)[k].k, .string (t1.take q)[k].nm, .string (t1.take q)[k].tn, .int .i64 (t1.take q)[k].a, .string (t1.take q)[k].tx] 28)
      have hm := HM.out (t1.take q)[k] (List.getElem_mem hkl)
      have DO := Do_V a5 b5 n5 c5 m5 d5 w.heap.size rs5 S (t1.take q)[k] _ (SW.out.keep hal) HS.out.2.1 hm.1 hm.2.1 hm.2.2
      have HST : Hid (Lr.kp (S, L) (t1.take q)[k] = ((t1.take q).take (k + 1)).foldl Lr.kp (KS, [])) := Lib.hid (by rw [fold_take Lr.kp (KS, []) hkl, HS.out.1])
      have HDR := Lib.hid (Vo.do_right HS.out.2.1 (t1.take q)[k])
      have HAL := Lib.hid hal
      have HO9 := Lib.hid (bxs_new wr 28 #[.int .i64 (t1.take q)[k].k, .string (t1.take q)[k].nm, .string (t1.take q)[k].tn, .int .i64 (t1.take q)[k].a, .string (t1.take q)[k].tx] [.int .i64 (t1.take q)[k].k, .string (t1.take q)[k].nm, .string (t1.take q)[k].tn, .int .i64 (t1.take q)[k].a, .string (t1.take q)[k].tx] rfl)
      have y0 := YW.out.c 0 _ rfl; have y1 := YW.out.c 1 _ rfl
      clear hal hm
      obtain ⟨R, hR⟩ : ∃ R, Vo.doR S (t1.take q)[k] = R := ⟨_, rfl⟩
      rw [hR] at DO HDR
      have HST2 : Hid ((if R.e = 0 then (R.s, L ++ [(t1.take q)[k]]) else (S, L)) = ((t1.take q).take (k + 1)).foldl Lr.kp (KS, [])) := Lib.hid (by rw [← HST.out, Lr.kp, hR])
      have HOV : Hid (ov (L ++ [(t1.take q)[k]]) = ov L ++ [.int .i64 (t1.take q)[k].k, .string (t1.take q)[k].nm, .string (t1.take q)[k].tn, .int .i64 (t1.take q)[k].a, .string (t1.take q)[k].tx]) := Lib.hid (by rw [ov_app]; rfl)
      clear hR HST
      generalize (t1.take q)[k].k = f1 at *
      generalize (t1.take q)[k].nm = f2 at *
      generalize (t1.take q)[k].tn = f3 at *
      generalize (t1.take q)[k].a = f4 at *
      generalize (t1.take q)[k].tx = f5 at *
      obtain ⟨RS, RE⟩ := R
      dsimp only at HST2 HDR
      obtain ⟨T9, hT9⟩ : ∃ T9, (t1.take q)[k] = T9 := ⟨_, rfl⟩
      rw [hT9] at HST2 HOV
      clear hT9
      go_wp2_with fail
      with_reducible refine DO.mono ?_
      rintro e w2 ⟨a6, n6, c6, b6, m6, d6, rs6, rfl, hs6, hb6⟩
      dsimp only at hs6
      have hb7 := HAL.out.trans (hb6.mono (by rw [World.size_alloc]; omega))
      have HB7 := Lib.hid (BW.out.trans (hb7.mono hsz))
      have HY7 := Lib.hid (YW.out.on hb7); have HS7 := Lib.hid (SW.out.keep hb7)
      have HO7 := Lib.hid (own_keep OW.out hb7)
      have HP7 := Lib.hid (HO9.out.on hb6)
      have hz6 : wr.heap.size < w2.heap.size := by have := hb6.size; rw [World.size_alloc] at this; omega
      have HS6 := Lib.hid (hs6.low (show w.heap.size ≤ _ by rw [World.size_alloc]; omega))
      have HF6 : Hid (∀ v ∈ sls a6 n6 c6 b6 m6 d6 rs6, v.ownBlock ≠ some v4.heap.size) := Lib.hid (hs6.off (by rw [World.size_alloc]; omega))
      have HN6 : Hid (∀ v ∈ sls a6 n6 c6 b6 m6 d6 rs6, ∀ K, (Value.slice al nl cl).ownBlock = some K → v.ownBlock ≠ some K) := Lib.hid fun v hv K e h => by
        have h1 := own_block_lt OW.out K e
        have h2 := (hs6.lt v hv K h).1
        rw [World.size_alloc] at h2
        omega
      clear hs6 hb6 hb7 d0 d1 d2 d3 d4 y0 y1
      by_cases hE : RE = 0
      · subst hE
        have HST3 : Hid ((RS, L ++ [T9]) = ((t1.take q).take (k + 1)).foldl Lr.kp (KS, [])) := Lib.hid (by have := HST2.out; rwa [if_pos rfl] at this)
        have hal := (Below.refl w2.heap.size w2).alloc (Nat.le_refl _) (.cells #[.slice a6 n6 c6, .slice b6 m6 d6] 32)
        have HB8 := Lib.hid (HB7.out.trans (hal.mono HB7.out.size)); have HY8 := Lib.hid (HY7.out.on hal)
        have HO8 := Lib.hid (own_keep HO7.out hal); have HP8 := Lib.hid (HP7.out.on hal); have HS8 := Lib.hid (HS6.out.keep hal)
        have HNT : Hid (∀ K, (Value.slice al nl cl).ownBlock = some K → K < w2.heap.size) := Lib.hid fun K e => own_block_lt HO7.out K e
        have HT8 := Lib.hid (bxs_new w2 32 #[.slice a6 n6 c6, .slice b6 m6 d6] [.slice a6 n6 c6, .slice b6 m6 d6] rfl)
        have hn60 : nl ≤ 60 := by have := HS.out.2.2.2; omega
        have hb1 : nl + 1 ≤ maxLen := by unfold maxLen; omega
        have hb22 : (nl + 1) * 64 ≤ 140737488355328 := by omega
        have HLN := Lib.hid HS.out.2.2.1
        have HLK := Lib.hid HS.out.2.2.2
        clear HST2 hal HS7 HB7 HY7 HO7 HP7 HS6 SW OW HS
        go_wp2_with fail
        generalize w2.alloc (.cells #[.slice a6 n6 c6, .slice b6 m6 d6] 32) = W8 at *
        have p0 := HP8.out.c 0 _ rfl; have p1 := HP8.out.c 1 _ rfl; have p2 := HP8.out.c 2 _ rfl; have p3 := HP8.out.c 3 _ rfl; have p4 := HP8.out.c 4 _ rfl
        have t0 := HT8.out.c 0 _ rfl; have t1 := HT8.out.c 1 _ rfl
        have hW8 := HB8.out.size
        have hyl8 := HY8.out.lt
        have hb3 : v4.heap.size + 1 ≤ (W8.alloc (.cells #[.int .i64 f1, .string f2, .string f3, .int .i64 f4, .string f5] 28)).heap.size := by rw [World.size_alloc]; omega
        have HOA : Hid ((W8.alloc (.cells #[.int .i64 f1, .string f2, .string f3, .int .i64 f4, .string f5] 28)).drew.ownsRow (v4.heap.size + 1) 28 5 (.slice al nl cl) nl (ov L)) := Lib.hid (HO8.out.alloc _).drew
        have HCE : Hid (∀ (j : Nat) (u : Value), [Value.int .i64 f1, .string f2, .string f3, .int .i64 f4, .string f5][j]? = some u → (W8.alloc (.cells #[.int .i64 f1, .string f2, .string f3, .int .i64 f4, .string f5] 28)).drew.cell? ((⟨W8.heap.size, 0, none⟩ : Addr).add j) = some u) := Lib.hid (World.news_of_block (w := (W8.alloc (.cells #[.int .i64 f1, .string f2, .string f3, .int .i64 f4, .string f5] 28)).drew) (B := W8.heap.size) (cs := #[.int .i64 f1, .string f2, .string f3, .int .i64 f4, .string f5]) (t := 28) (fr := (0, 0)) (Go.Deep.blk_alloc_new W8 _))
        have HON : Hid (∀ u ∈ [Value.int .i64 f1, .string f2, .string f3, .int .i64 f4, .string f5], u.oneCell' = true) := Lib.hid (by intro u hu; simp at hu; rcases hu with rfl | rfl | rfl | rfl | rfl <;> rfl)
        have HRB := Lib.hid (row_base HO8.out)
        have HYA := Lib.hid ((HY8.out.alloc (.cells #[.int .i64 f1, .string f2, .string f3, .int .i64 f4, .string f5] 28)).drew)
        have HTA := Lib.hid ((HT8.out.alloc (.cells #[.int .i64 f1, .string f2, .string f3, .int .i64 f4, .string f5] 28)).drew)
        have u0 := HTA.out.c 0 _ rfl; have u1 := HTA.out.c 1 _ rfl
        have HTN : Hid (∀ K, (Value.slice al nl cl).ownBlock = some K → K ≠ w2.heap.size) := Lib.hid fun K e => by have := HNT.out K e; omega
        go_region_law (refine step_append_lies _ (by rfl) (.tmp 90) (.tmp 92) 22 (by rfl) (v4.heap.size + 1) 28 i0 (.agg #[.int .i64 0, .string ⟨#[]⟩, .string ⟨#[]⟩, .int .i64 0, .string ⟨#[]⟩]) 5 64 Try.underlying22 hi hz0 hz1 hz2 (by rfl) (by decide) (.slice al nl cl) nl (ov L) (by rfl) HOA.out ⟨W8.heap.size, 0, none⟩ 1 1 [.int .i64 f1, .string f2, .string f3, .int .i64 f4, .string f5] (by rfl) (by rfl) HCE.out HON.out (by decide) hb1 hb22 hb3 _ (by rfl) (fun g' cap' wq q1 q2 q3 q4 => ?_); have HYq := Lib.hid (HYA.out.grown q2 (fun e => by have := HRB.out _ e.symm; omega)); have yf0 := HYq.out.z 0 (show 0 < 2 by decide); have yf1 := HYq.out.z 1 (show 1 < 2 by decide); have y0 := HYq.out.c 0 _ rfl; have y1 := HYq.out.c 1 _ rfl; have HTq := Lib.hid (HTA.out.grown q2 (fun e => HTN.out _ e.symm rfl)); have s0 := HTq.out.c 0 _ rfl; have s1 := HTq.out.c 1 _ rfl)
        all_goals
          have S8a := HS8.out.keep (((Below.refl _ W8).alloc (Nat.le_refl _) (.cells #[.int .i64 f1, .string f2, .string f3, .int .i64 f4, .string f5] 28)).drew)
          have SQ := Lib.hid (S8a.kept q2 (fun v hv K hK e => HN6.out v hv K e hK) (fun v hv K hK => (S8a.lt v hv K hK).2))
          have BQ := Lib.hid ((HB8.out.alloc HB8.out.size (.cells #[.int .i64 f1, .string f2, .string f3, .int .i64 f4, .string f5] 28)).drew.grown q2 (HB8.out.alloc HB8.out.size (.cells #[.int .i64 f1, .string f2, .string f3, .int .i64 f4, .string f5] 28)).size (fun K e => by have := HRB.out K e; omega))
          have hbq := row_base q1
          have OQ : Hid (wq.ownsRow (v4.heap.size + 1) 28 5 (.slice (some ⟨g', 0, none⟩) (nl + 1) cap') (nl + 1) (ov (L ++ [T9]))) := Lib.hid (by rw [HOV.out]; exact q1)
          have NQ : Hid (∀ v ∈ sls a6 n6 c6 b6 m6 d6 rs6, ∀ K, (Value.slice (some ⟨g', 0, none⟩) (nl + 1) cap').ownBlock = some K → v.ownBlock ≠ some K) := Lib.hid fun v hv K e h => by
            have e2 : g' = K := Option.some.inj e
            rcases q3 with h3 | h3
            · exact HN6.out v hv K (by rw [h3, e2]) h
            · have h4 := (HS8.out.lt v hv K h).2
              have h5 : g' = (W8.alloc (.cells #[.int .i64 f1, .string f2, .string f3, .int .i64 f4, .string f5] 28)).heap.size := h3
              rw [World.size_alloc] at h5
              omega
          have hnb : (Value.slice (some ⟨g', 0, none⟩) (nl + 1) cap').ownBlock ≠ some v4.heap.size := fun e => by have := hbq _ e; omega
          have HNB := Lib.hid hnb
          clear q1 q2 q3 q4 S8a hbq hnb
          go_wp2_with fail
          go_roundw
          case rel => exact ⟨k + 1, _, _, _, _, _, _, _, _, _, _, RS, L ++ [T9], hlt, by go_num, rfl, Lib.hid ⟨HST3.out, HDR.out, by rw [List.length_append, HLN.out]; rfl, by have := HLK.out; omega⟩, Lib.hid (below_set2 BQ.out (Nat.le_refl _) _ _), Lib.hid (HYq.out.set2 _ _), Lib.hid ((SQ.out.other (i := 0) HF6.out _).other (i := 1) HF6.out _), HF6, Lib.hid (own_other (own_other OQ.out HNB.out _) HNB.out _), NQ⟩
          case measure => simp [intOf]; omega
      · have HST3 : Hid ((S, L) = ((t1.take q).take (k + 1)).foldl Lr.kp (KS, [])) := Lib.hid (by have := HST2.out; rwa [if_neg hE] at this)
        have hb : ((RE : Int) == 0) = false := beq_eq_false_iff_ne.2 (by omega)
        clear hE
        go_wp2_with fail
        go_roundw
        case rel => exact ⟨k + 1, _, _, _, _, _, _, _, _, _, _, _, _, hlt, by go_num, rfl, Lib.hid ⟨HST3.out, HS.out.2.1, HS.out.2.2.1, Nat.le_succ_of_le HS.out.2.2.2⟩, Lib.hid (HB7.out.alloc HB7.out.size _), Lib.hid (HY7.out.alloc _), Lib.hid (HS7.out.keep ((Below.refl _ w2).alloc (Nat.le_refl _) _)), FW, Lib.hid (HO7.out.alloc _), NW⟩
        case measure => simp [intOf]; omega
    · obtain rfl : k = q := by omega
      have HK9 : Hid ((t1.take k).foldl Lr.kp (KS, []) = (S, L)) := Lib.hid (by
        rw [HS.out.1, List.take_take, Nat.min_self])
      have hrun := Lr.kp_folds (s := KS) (t1.take k) (KS, []) rfl
      rw [HK9.out] at hrun
      dsimp only at hrun
      have hn6 : nl ≤ 60 := by have := HS.out.2.2.2; omega
      have hLn := HS.out.2.2.1
      have hLC := Lr.run_chk (s := KS) (l := L) (by rw [hrun])
      have hall : Lr.run Vo.st0 (KL ++ L) = ⟨S, 0⟩ := by rw [Lr.run_app (by rw [HKR.out]), HKR.out]; exact hrun
      have hallc := Lr.run_chk (s := Vo.st0) (l := KL ++ L) (by rw [hall])
      obtain ⟨s3, hs3⟩ : ∃ s3 : ByteArray, s3 = ⟨(Lr.log L).toArray⟩ := ⟨_, rfl⟩
      have hz3s := log_sizeJ hLC (by omega)
      rw [← hs3] at hz3s
      have happ := log_apps KL L
      rw [← hs3, ← HS2.out] at happ
      have hlz : (KL ++ L).length ≤ 200 := by rw [List.length_append]; omega
      have L3 : Hid (∀ (a : Option Addr) (n c : Nat) (W : World), OSl W a n c L → Calls Try.prog 7 #[.slice a n c] W fun e w' => e = .returned (.tuple #[.string s3, .int .i64 0]) ∧ Below W.heap.size W w') := Lib.hid fun a n c W h => by
        rw [hs3]; exact Log_L a n c L W h hLC (by have := h.len; omega)
      have LC : Hid (∀ (a : Option Addr) (n c : Nat) (W : World), OSl W a n c (KL ++ L) → Calls Try.prog 7 #[.slice a n c] W fun e w' => e = .returned (.tuple #[.string (s2 ++ s3), .int .i64 0]) ∧ Below W.heap.size W w') := Lib.hid fun a n c W h => by
        have h1 := Log_L a n c (KL ++ L) W h hallc (by have := h.len; omega)
        rw [happ] at h1
        exact h1
      obtain ⟨N, hN⟩ : ∃ N, KL.length + nl = N := ⟨_, rfl⟩
      have RC : Hid (∀ W, Calls Try.prog 10 #[.string (s2 ++ s3)] W (RepTo W S N 0)) := Lib.hid fun W => by
        have h := Replay_L ⟨(Lr.log (KL ++ L)).toArray⟩ (KL ++ L) [] 0 W (by rw [List.append_nil]) (Nat.le_trans (log_sizeJ hallc hlz) (by decide)) hlz (by rw [hall]) (Or.inl ⟨rfl, rfl⟩)
        rw [hall, if_pos rfl, if_pos rfl, happ, List.length_append, hLn, hN] at h
        exact h
      have hNi : (KL.length : Int) + (nl : Int) = (N : Int) := by omega
      have hsum : ¬ (9223372036854775807 < s2.size + s3.size) := by omega
      have HRS := Lib.hid HS.out.2.1
      have HOA := Lib.hid (HO4.out.keep BW.out)
      have HOB := Lib.hid (own_osl OW.out hLn)
      have HBW := Lib.hid (HBV.out.trans (BW.out.mono hbase))
      clear hrun hLn hLC hall hallc hs3 happ hlz hN HK9 HS BW OW NW
      have K5 := L2.out a4 KL.length c4 _ HOA.out
      go_wp2_with fail
      with_reducible refine K5.mono ?_
      rintro e v5 ⟨rfl, hb5⟩
      have HB5 := Lib.hid (HBW.out.trans (hb5.mono HBW.out.size)); have HA5 := Lib.hid (HOA.out.keep hb5); have HC5 := Lib.hid (HOB.out.keep hb5); have HY5 := Lib.hid (YW.out.on hb5); have HS5 := Lib.hid (SW.out.keep hb5)
      clear hb5 K5
      have K6 := L3.out al nl cl _ HC5.out
      go_wp2_with fail
      with_reducible refine K6.mono ?_
      rintro e v6 ⟨rfl, hb6⟩
      have HB6 := Lib.hid (HB5.out.trans (hb6.mono HB5.out.size)); have HA6 := Lib.hid (HA5.out.keep hb6); have HC6 := Lib.hid (HC5.out.keep hb6); have HY6 := Lib.hid (HY5.out.on hb6); have HS6 := Lib.hid (HS5.out.keep hb6)
      clear hb6 K6
      have hal := (Below.refl v6.heap.size v6).alloc (Nat.le_refl _) (.cells #[.slice a4 KL.length c4, .slice al nl cl] 22)
      have HB7 := Lib.hid (HB6.out.trans (hal.mono HB6.out.size)); have HY7 := Lib.hid (HY6.out.on hal); have HS7 := Lib.hid (HS6.out.keep hal)
      have KC := Concat2_O v6.heap.size 2 KL.length c4 nl cl a4 al KL L _ (by rw [World.size_alloc]; omega) (cell_new v6 (k := 0) rfl) (cell_new v6 (k := 1) rfl) (HA6.out.keep hal) (HC6.out.keep hal) HA6.out.nil HC6.out.nil (by omega) (by omega)
      clear hal
      go_wp2_with fail
      with_reducible refine KC.mono ?_
      rintro e v8 ⟨x8, rfl, o8, hb8⟩
      obtain ⟨a8, c8, rfl⟩ := own_shape o8
      have HB8 := Lib.hid (HB7.out.trans (hb8.mono HB7.out.size)); have HY8 := Lib.hid (HY7.out.on hb8); have HS8 := Lib.hid (HS7.out.keep hb8)
      have hcl : (KL ++ L).length = KL.length + nl := by have := HC6.out.len; rw [List.length_append]; omega
      have K8 := LC.out a8 (KL.length + nl) c8 _ (own_osl o8 hcl)
      clear hb8 o8 KC hcl
      go_wp2_with fail
      with_reducible refine K8.mono ?_
      rintro e v9 ⟨rfl, hb9⟩
      have HB9 := Lib.hid (HB8.out.trans (hb9.mono HB8.out.size)); have HY9 := Lib.hid (HY8.out.on hb9); have HS9 := Lib.hid (HS8.out.keep hb9)
      clear hb9 K8
      have K9 := RC.out v9
      go_wp2_with fail
      with_reducible refine K9.mono ?_
      rintro e v10 ⟨a6, n6, c6, b6, m6, d6, rs6, rfl, hs10, hb10⟩
      have ha10 := hb10.alloc hb10.size (.cells #[.slice a6 n6 c6, .slice b6 m6 d6] 32)
      have HB10 := Lib.hid (HB9.out.trans (ha10.mono HB9.out.size)); have HY10 := Lib.hid (HY9.out.on ha10); have HS10 := Lib.hid (HS9.out.keep ha10)
      have HX10 := Lib.hid (bxs_new v10 32 #[.slice a6 n6 c6, .slice b6 m6 d6] [.slice a6 n6 c6, .slice b6 m6 d6] rfl)
      have HR10 := Lib.hid (hs10.keep ((Below.refl _ v10).alloc (Nat.le_refl _) (.cells #[.slice a6 n6 c6, .slice b6 m6 d6] 32)))
      clear hs10 hb10 ha10 K9
      have x0 := HX10.out.c 0 _ rfl; have x1 := HX10.out.c 1 _ rfl; have y0 := HY10.out.c 0 _ rfl; have y1 := HY10.out.c 1 _ rfl
      have K10 := Same_V a6 a5 b6 b5 n6 c6 m6 d6 n5 c5 m5 d5 _ _ rs6 rs5 S _ HR10.out HS10.out HRS.out
      go_wp2_with fail
      with_reducible refine K10.mono ?_
      rintro e v11 ⟨rfl, hb11⟩
      have HB11 := Lib.hid (HB10.out.trans (hb11.mono HB10.out.size))
      clear hb11 K10
      go_wp2_with fail
      go_ret
      exact ⟨rfl, HB11.out⟩

end Go.Proofs.Ythccdoejnklidaa
