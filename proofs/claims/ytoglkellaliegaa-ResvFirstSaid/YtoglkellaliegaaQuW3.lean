/- Walks: slices.Grow at nil, slices.Concat of two, queue.Add, queued. -/
import Derived.Test.YtoglkellaliegaaQuW2
import Derived.Lib.AppendZeros
import Derived.Lib.Walk
import Derived.Lib.SliceRun
import Derived.Laws.AppendOwnNone
import Derived.Deep.RegionWith
import Derived.StillTailTactics
namespace Go.Proofs.Ytoglkellaliegaa
open Go.RowKit

set_option maxRecDepth 100000 in
set_option maxHeartbeats 2000000 in
theorem Grow_nil (n : Nat) (hn : n ≤ 1099511627776) (w : World) :
    Calls Try.prog 65 #[.slice none 0 0, .int .i64 n] w fun e w' => ∃ v, e = .returned v ∧ w'.ownsRow w.heap.size 24 2 v 0 [] ∧ Below w.heap.size w w' := by
  obtain ⟨i0, hi, hz0, hz1, hz2⟩ := info_parts Try.infoTask
  by_cases h0 : n = 0
  · subst h0
    go_enter Try.func65, Try.ntmps65
    go_wp2_with fail
    go_ret
    exact ⟨_, rfl, World.ownsRow_nil _ _ _ _, Below.refl _ _⟩
  · have hz := fun ty => Lib.run_append_nil_zeros w 22 3 ty 24 i0 (.agg #[.int .i64 0, .int .i64 0]) .i64 .i64 Try.underlying22 Try.underlying3 hi hz0 n (by omega) (by rw [hz1]; decide) (by omega) (by rw [hz2]; omega)
    have hge := grownCap_ge w n 0 24
    have hle := grownCap_le_maxLen w n 0 24 (by unfold maxLen; omega)
    have hcs : (Builtin.zeroCells (Value.agg #[.int .i64 0, .int .i64 0]).cells n ++ Builtin.zeroCells (Value.agg #[.int .i64 0, .int .i64 0]).cells (grownCap w n 0 24 - n)).size = grownCap w n 0 24 * 2 := by
      rw [Array.size_append, size_zeroCells, size_zeroCells]
      show n * 2 + _ * 2 = _
      omega
    generalize grownCap w n 0 24 = G at *
    generalize Builtin.zeroCells (Value.agg #[.int .i64 0, .int .i64 0]).cells n ++ Builtin.zeroCells (Value.agg #[.int .i64 0, .int .i64 0]).cells (G - n) = cs at *
    have HF : Hid ((w.drew.alloc (.cells cs 24)).ownsRow w.heap.size 24 2 (.slice (some ⟨w.heap.size, 0, none⟩) 0 G) 0 [] ∧ Below w.heap.size w (w.drew.alloc (.cells cs 24))) :=
      Lib.hid ⟨World.ownsRow_made w.drew cs G (Nat.le_refl _) hle hcs, ((Below.refl _ w).drew).alloc (Nat.le_refl _) _⟩
    have hn0 : decide ((0 : Int) < (n : Int)) = true := decide_eq_true (by omega)
    clear hcs hle
    go_enter Try.func65, Try.ntmps65
    go_wp2_with (at_builtin; refine Lib.wpList_append_run _ rfl _ _ _ _ rfl _ _ rfl rfl _ _ (hz _) ?_)
    go_ret
    exact ⟨_, rfl, HF.out⟩

/-- A slice of tasks, whole. -/
structure TSl (w : World) (a : Option Addr) (n c : Nat) (ts : List Qu.T) : Prop where
  at_ : TasksAt w a ts
  len : ts.length = n
  cap : n ≤ c
  max : c ≤ maxLen
  nil : a = none → n = 0 ∧ c = 0

theorem TSl.keep {w w' : World} {a : Option Addr} {n c : Nat} {ts : List Qu.T} (h : TSl w a n c ts) (hb : Below w.heap.size w w') : TSl w' a n c ts := ⟨h.at_.keep hb, h.len, h.cap, h.max, h.nil⟩

theorem TSl.cells {w : World} {x : Addr} {n c : Nat} {ts : List Qu.T} (h : TSl w (some x) n c ts) : ∀ j u, (tv ts)[j]? = some u → w.cell? (x.add j) = some u := by
  by_cases h0 : ts = []
  · subst h0
    intro j u hu
    simp [tv] at hu
  · obtain ⟨g, o, he, -, -⟩ := h.at_ h0
    cases he
    exact h.at_.cells

/-- A row of the call's own is such a slice. -/
theorem tsl_own {w : World} {base n : Nat} {e : TypeId} {v : Value} {ts : List Qu.T} (h : w.ownsRow base e 2 v n (tv ts)) (hn : ts.length = n) : ∃ a c, v = .slice a n c ∧ TSl w a n c ts := by
  obtain ⟨a, c, rfl, h1, h2, h3⟩ := tasks_own h hn
  refine ⟨a, c, rfl, h1, hn, h2, h3, ?_⟩
  rintro rfl
  rcases h.2 with ⟨he, h0⟩ | ⟨g, cap, cur, he, -⟩
  · cases he; exact ⟨h0, rfl⟩
  · cases he

theorem own_grown {w w' : World} {base : Nat} {e : TypeId} {size : Nat} {v : Value} {n : Nat} {xs : List Value} (h : w.ownsRow base e size v n xs) {B : Nat} {W : World} (hB : Below B W w) (hb : B ≤ base) (hs : B ≤ w.heap.size) (hg : w.grownBy w' v.ownBlock) : Below B W w' :=
  hB.grown hg hs (fun k hk => Nat.le_trans hb (row_base h k hk))

set_option maxRecDepth 100000 in
set_option maxHeartbeats 4000000 in
theorem Clone_T (a : Option Addr) (n c : Nat) (ts : List Qu.T) (w : World) (hT : TSl w a n c ts) (hn : n ≤ 1099511627776) :
    Calls Try.prog 52 #[.slice a n c] w fun e w' => ∃ v, e = .returned v ∧ w'.ownsRow w.heap.size 24 2 v n (tv ts) ∧ Below w.heap.size w w' := by
  obtain ⟨i0, hi, hz0, hz1, hz2⟩ := info_parts Try.infoTask
  rcases a with _ | x
  · obtain ⟨rfl, rfl⟩ := hT.nil rfl
    obtain rfl : ts = [] := List.length_eq_zero_iff.1 hT.len
    clear hT
    have en : ∀ w, (binOp .eql 22 (.slice none 0 0) (.slice none 0 0)).run Try.prog w = .ok (.bool true) w := fun w => Lib.run_eql_slice_nil w 22 24 none 0 0 0 0 Try.underlying22
    go_enter Try.func52, Try.ntmps52
    go_wp2_with fail
    go_ret
    exact ⟨_, rfl, World.ownsRow_nil _ _ _ _, Below.refl _ _⟩
  · have HB1 : ∀ T, Below w.heap.size w (w.alloc (.cells #[] T)) := fun T => (Below.refl _ w).alloc (Nat.le_refl _) _
    have hcells : ∀ (T : TypeId) j u, (tv ts)[j]? = some u → (w.alloc (.cells #[] T)).cell? (x.add j) = some u := fun T => (hT.keep (HB1 T)).cells
    have H3 := Lib.hid (hcells 24)
    have HL : Hid ((tv ts).length = n * 2) := Lib.hid (by rw [tv_length, hT.len])
    have H5 : Hid (0 + n ≤ maxLen ∧ (0 + n) * 16 ≤ 140737488355328) := Lib.hid ⟨by unfold maxLen; omega, by omega⟩
    have HO : Hid ((w.alloc (.cells #[] 24)).ownsRow w.heap.size 24 2 (.slice (some ⟨w.heap.size, 0, none⟩) 0 0) 0 []) := Lib.hid (World.ownsRow_made w #[] 0 (Nat.le_refl _) (Nat.zero_le _) rfl)
    have HS : Hid (w.heap.size ≤ (w.alloc (.cells #[] 24)).heap.size) := Lib.hid (by rw [World.size_alloc]; omega)
    have HB := Lib.hid (HB1 24)
    clear hcells hT HB1
    have en : ∀ w, (binOp .eql 22 (.slice (some x) n c) (.slice none 0 0)).run Try.prog w = .ok (.bool false) w := fun w => Lib.run_eql_slice_nil w 22 24 (some x) n c 0 0 Try.underlying22
    go_enter Try.func52, Try.ntmps52
    go_wp2_with (at_builtin; refine wpList_append_own _ rfl _ _ _ rfl w.heap.size 24 i0 (.agg #[.int .i64 0, .int .i64 0]) 2 16 Try.underlying22 hi hz0 hz1 hz2 rfl (by decide) (.slice (some ⟨w.heap.size, 0, none⟩) 0 0) 0 [] rfl HO.out x n c (tv ts) rfl HL.out H3.out (tv_one ts) H5.out.1 H5.out.2 HS.out ?_)
    intro v' w' q1 q2 _
    have HF : Hid (w'.ownsRow w.heap.size 24 2 v' n (tv ts) ∧ Below w.heap.size w w') := Lib.hid ⟨by simpa using q1, own_grown HO.out HB.out (Nat.le_refl _) HS.out q2⟩
    clear q1 q2 H3 HL H5
    go_wp2_with fail
    go_ret
    exact ⟨_, rfl, HF.out⟩

set_option maxRecDepth 100000 in
set_option maxHeartbeats 4000000 in
theorem Concat2_T (b c n1 c1 n2 c2 : Nat) (a1 a2 : Option Addr) (t1 t2 : List Qu.T) (w : World) (hb : b < w.heap.size) (hc1 : w.cell? ⟨b, 0, none⟩ = some (.slice a1 n1 c1)) (hc2 : w.cell? ⟨b, 1, none⟩ = some (.slice a2 n2 c2))
    (h1 : TSl w a1 n1 c1 t1) (h2 : TSl w a2 n2 c2 t2) (hn1 : n1 ≤ 1000000) (hn2 : n2 ≤ 1000000) :
    Calls Try.prog 31 #[.slice (some ⟨b, 0, none⟩) 2 c] w fun e w' => ∃ v, e = .returned v ∧ w'.ownsRow w.heap.size 24 2 v (n1 + n2) (tv (t1 ++ t2)) ∧ Below w.heap.size w w' := by
  obtain ⟨i0, hi, hz0, hz1, hz2⟩ := info_parts Try.infoTask
  have H1 := Lib.hid h1; have H2 := Lib.hid h2; have HB := Lib.hid hb
  have HC1 := Lib.hid hc1; have HC2 := Lib.hid hc2
  have G1 := fun w => Grow_nil (n1 + n2) (by omega) w
  obtain ⟨S, hS⟩ : ∃ S : Int, ((n1 + n2 : Nat) : Int) = S := ⟨_, rfl⟩
  rw [hS] at G1
  have HS : Hid ((n1 : Int) + (n2 : Int) = S) := Lib.hid (by omega)
  clear hS
  have b1 : n1 + n2 ≤ maxLen := by unfold maxLen; omega
  have b2 : 0 + n1 ≤ maxLen ∧ (0 + n1) * 16 ≤ 140737488355328 ∧ (n1 + n2) * 16 ≤ 140737488355328 := by unfold maxLen; omega
  have HBB := Lib.hid b1; have HBC := Lib.hid b2
  clear h1 h2 hb b1 b2
  go_enter Try.func31, Try.ntmps31
  go_wp2_with fail
  go_loop [3, 11] (fun x i => (x = .int .i64 0 ∧ i = .int .i64 0) ∨ (x = .int .i64 n1 ∧ i = .int .i64 1) ∨ (x = .int .i64 S ∧ i = .int .i64 2)) (fun _ i => 2 - (intOf i).toNat)
  case atStart => exact Or.inl ⟨rfl, rfl⟩
  case round =>
    rcases hrel with ⟨rfl, rfl⟩ | ⟨rfl, rfl⟩ | ⟨rfl, rfl⟩
    · go_wp2_with fail
      go_round
      case rel => exact Or.inr (Or.inl ⟨by go_num, by go_num⟩)
      case measure => simp [intOf]
    · go_wp2_with fail
      go_round
      case rel => exact Or.inr (Or.inr ⟨by rw [← HS.out], by go_num⟩)
      case measure => simp [intOf]
    · have hS0 : ¬ S < 0 := by have := HS.out; omega
      clear hc1 hc2
      go_wp2_with fail
      with_reducible refine (G1 _).mono ?_
      rintro e w1 ⟨v1, rfl, hown1, hb1⟩
      have HO1 := Lib.hid hown1; have HB1 := Lib.hid hb1
      clear hown1 hb1 G1
      go_wp2_with fail
      go_loopw [6, 27] (fun v i wr => Hid (Below w.heap.size w wr) ∧ ((i = .int .i64 0 ∧ Hid (wr.ownsRow w.heap.size 24 2 v 0 [])) ∨ (i = .int .i64 1 ∧ Hid (wr.ownsRow w.heap.size 24 2 v n1 (tv t1))) ∨ (i = .int .i64 2 ∧ Hid (wr.ownsRow w.heap.size 24 2 v (n1 + n2) (tv (t1 ++ t2)))))) (fun _ i _ => 2 - (intOf i).toNat)
      case atStart => exact ⟨HB1, Or.inl ⟨rfl, HO1⟩⟩
      case round =>
        obtain ⟨hB, ⟨rfl, hO⟩ | ⟨rfl, hO⟩ | ⟨rfl, hO⟩⟩ := hrel
        · have g1 : wr.cell? ⟨b, 0, none⟩ = some (.slice a1 n1 c1) := by rw [hB.out.cell (p := ⟨b, 0, none⟩) HB.out]; exact HC1.out
          have hsz := hB.out.size
          rcases a1 with _ | x1
          · obtain ⟨rfl, rfl⟩ := H1.out.nil rfl
            have ht : t1 = [] := List.length_eq_zero_iff.1 H1.out.len
            have HT : Hid (t1 = []) := Lib.hid ht
            clear ht
            go_wp2_with (at_builtin; refine wpList_append_own_none rfl _ _ _ rfl w.heap.size 24 i0 2 Try.underlying22 hi _ 0 [] rfl hO.out rfl ?_)
            go_roundw
            case rel => exact ⟨hB, Or.inr (Or.inl ⟨by go_num, Lib.hid (by rw [HT.out]; exact hO.out)⟩)⟩
            case measure => simp [intOf]
          · have hcl := Lib.hid (H1.out.keep hB.out).cells
            have hll : Hid ((tv t1).length = n1 * 2) := Lib.hid (by rw [tv_length, H1.out.len])
            go_wp2_with (at_builtin; refine wpList_append_own _ rfl _ _ _ rfl w.heap.size 24 i0 (.agg #[.int .i64 0, .int .i64 0]) 2 16 Try.underlying22 hi hz0 hz1 hz2 rfl (by decide) _ 0 [] rfl hO.out x1 n1 c1 (tv t1) rfl hll.out hcl.out (tv_one t1) HBC.out.1 HBC.out.2.1 hsz ?_)
            intro v' w' q1 q2 _
            have HO' : Hid (w'.ownsRow w.heap.size 24 2 v' n1 (tv t1)) := Lib.hid (by simpa using q1)
            have HB' : Hid (Below w.heap.size w w') := Lib.hid (own_grown hO.out hB.out (Nat.le_refl _) hsz q2)
            clear q1 q2
            go_wp2_with fail
            go_roundw
            case rel => exact ⟨HB', Or.inr (Or.inl ⟨by go_num, HO'⟩)⟩
            case measure => simp [intOf]
        · have g1 : wr.cell? ⟨b, 1, none⟩ = some (.slice a2 n2 c2) := by rw [hB.out.cell (p := ⟨b, 1, none⟩) HB.out]; exact HC2.out
          have hsz := hB.out.size
          rcases a2 with _ | x2
          · obtain ⟨rfl, rfl⟩ := H2.out.nil rfl
            have HT : Hid (t2 = []) := Lib.hid (List.length_eq_zero_iff.1 H2.out.len)
            go_wp2_with (at_builtin; refine wpList_append_own_none rfl _ _ _ rfl w.heap.size 24 i0 2 Try.underlying22 hi _ n1 (tv t1) rfl hO.out rfl ?_)
            go_roundw
            case rel => exact ⟨hB, Or.inr (Or.inr ⟨by go_num, Lib.hid (by rw [HT.out, List.append_nil]; exact hO.out)⟩)⟩
            case measure => simp [intOf]
          · have hcl := Lib.hid (H2.out.keep hB.out).cells
            have hll : Hid ((tv t2).length = n2 * 2) := Lib.hid (by rw [tv_length, H2.out.len])
            go_wp2_with (at_builtin; refine wpList_append_own _ rfl _ _ _ rfl w.heap.size 24 i0 (.agg #[.int .i64 0, .int .i64 0]) 2 16 Try.underlying22 hi hz0 hz1 hz2 rfl (by decide) _ n1 (tv t1) rfl hO.out x2 n2 c2 (tv t2) rfl hll.out hcl.out (tv_one t2) HBB.out HBC.out.2.2 hsz ?_)
            intro v' w' q1 q2 _
            have HO' : Hid (w'.ownsRow w.heap.size 24 2 v' (n1 + n2) (tv (t1 ++ t2))) := Lib.hid (by rw [tv_app]; exact q1)
            have HB' : Hid (Below w.heap.size w w') := Lib.hid (own_grown hO.out hB.out (Nat.le_refl _) hsz q2)
            clear q1 q2
            go_wp2_with fail
            go_roundw
            case rel => exact ⟨HB', Or.inr (Or.inr ⟨by go_num, HO'⟩)⟩
            case measure => simp [intOf]
        · go_wp2_with fail
          go_ret
          exact ⟨_, rfl, hO.out, hB.out⟩

end Go.Proofs.Ytoglkellaliegaa
