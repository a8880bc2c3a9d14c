/- SyncFinds: what is found differs, and what is not found, though it differs, lies beneath a clash; for every input; what was there stands below. -/
import Derived.Test.YtlimdfmnfhlcoaaTreeClash
import Derived.Test.YtlimdfmnfhlcoaaSyncFindsP
import Derived.BigQuiet
namespace Go.Proofs.Ytlimdfmnfhlcoaa
open Go.RowKit

theorem isNaN_int (x : Int) (w : World) : Calls Try.prog 39 #[.int .i64 x] w fun e w' => e = .returned (.bool false) ∧ w = w' := by
  go_enter Try.func39, Try.ntmps39
  go_wp2_with fail
  go_ret
  exact ⟨by simp, rfl⟩

set_option maxRecDepth 100000 in
set_option maxHeartbeats 2000000 in
theorem Less_ok (x y : Int) (w : World) (h : y ≤ x) : Calls Try.prog 31 #[.int .i64 x, .int .i64 y] w fun e w' => e = .returned (.bool false) ∧ w = w' := by
  have N1 := fun w => isNaN_int x w
  have e : decide (x < y) = false := decide_eq_false (by omega)
  clear h
  go_enter Try.func31, Try.ntmps31
  go_wp2_with fail
  refine (N1 _).mono ?_
  rintro e w' ⟨rfl, rfl⟩
  go_wp2_with fail
  go_ret
  exact ⟨rfl, rfl⟩

/-- Numbers lie there. -/
def NumsAt (w : World) (a : Option Addr) (l : List Nat) : Prop := ∀ j (hj : j < l.length), ∃ g, a = some ⟨g, 0, none⟩ ∧ w.cell? ⟨g, j, none⟩ = some (.int .i64 (l[j] : Int))

theorem NumsAt.keep {w w' : World} {a : Option Addr} {l : List Nat} (h : NumsAt w a l) (hb : Below w.heap.size w w') : NumsAt w' a l := fun j hj => by
  obtain ⟨g, hg, hc⟩ := h j hj
  exact ⟨g, hg, by rw [hb.cell (p := ⟨g, j, none⟩) (World.block_lt_of_cell? w _ hc)]; exact hc⟩

set_option maxRecDepth 100000 in
set_option maxHeartbeats 2000000 in
theorem IsSorted_N (a : Option Addr) (c n : Nat) (l : List Nat) (w : World) (hn : l.length = n) (hl : n ≤ 1000) (hp : l.Pairwise (· ≤ ·)) (hb : ∀ x, x ∈ l → x ≤ 2147483647) (h1 : NumsAt w a l) :
    Calls Try.prog 23 #[.slice a n c] w fun e w' => e = .returned (.bool true) ∧ ∃ q, w' = w.drewN q := by
  have H1 := Lib.hid h1; clear h1
  have HN := Lib.hid hn; clear hn
  have HP := Lib.hid hp; have HB := Lib.hid hb; clear hp hb
  go_enter Try.func23, Try.ntmps23
  go_wp2_with fail
  go_loopw [3] (fun x wr => ∃ k : Int, -1 ≤ k ∧ k < n ∧ x = .int .i64 k ∧ ∃ j, wr = w.drewN j) (fun x _ => (intOf x).toNat)
  case atStart => exact ⟨(n : Int) - 1, by omega, by omega, by go_num, 0, rfl⟩
  case round =>
    obtain ⟨k0, hk0, hk, rfl, hj⟩ := hrel
    by_cases hlt : 0 < k0
    · obtain ⟨k, rfl⟩ : ∃ k : Nat, k0 = (k : Int) + 1 := ⟨(k0 - 1).toNat, by omega⟩
      have hk1 : k + 1 < l.length := by rw [HN.out]; omega
      have hk2 : k < l.length := by omega
      obtain ⟨A, rfl, g1⟩ := H1.out (k + 1) hk1
      obtain ⟨A', hA, g2⟩ := H1.out k hk2
      cases hA
      have hle := (List.pairwise_iff_getElem.1 HP.out) k (k + 1) hk2 hk1 (by omega)
      generalize l[k + 1] = x at *
      generalize l[k] = y at *
      have g1' : wr.cell? ⟨A, k + 1, none⟩ = some (.int .i64 (x : Int)) := by obtain ⟨j, rfl⟩ := hj; exact g1
      have g2' : wr.cell? ⟨A, k, none⟩ = some (.int .i64 (y : Int)) := by obtain ⟨j, rfl⟩ := hj; exact g2
      have L1 := fun w => Less_ok x y w (by omega)
      have i1 : (0 : Int) ≤ (k : Int) + 1 := by omega
      have i2 : (k : Int) < n := by omega
      have q1 : IntKind.i64.wrap ((k : Int) + 1 - 1) = (k : Int) := by rw [show (k : Int) + 1 - 1 = (k : Int) from by omega]; exact IntWalk.i64_in _ (by omega)
      clear g1 g2 hk1 hk2
      go_wp2_with fail
      go_quiet ((go_at_call 31; exact Calls.quiet_of_same ((L1 _).mono fun _ _ ⟨h1, h2⟩ => ⟨h1, h2.symm⟩)))
      go_wp2_with fail
      go_roundw
      case rel => exact ⟨k, by omega, by omega, by go_num, by obtain ⟨j, rfl⟩ := hj; exact ⟨_, dd _ _ _⟩⟩
      case measure => simp [intOf]
    · go_wp2_with fail
      go_ret
      exact ⟨rfl, hj⟩

theorem bc_leaf : decide (Tr.leaf [98] = Tr.leaf [99]) = false := by decide +kernel
theorem bc_node : decide (Tr.node (Tr.leaf [97]) (Tr.leaf [98]) = Tr.node (Tr.leaf [97]) (Tr.leaf [99])) = false := by decide +kernel

theorem cmp_abac : cmp [⟨#[97]⟩, ⟨#[98]⟩] [⟨#[97]⟩, ⟨#[99]⟩] 2 = ([1], 3) := by
  have h1 := of_decide_eq_false bc_leaf
  have h2 := of_decide_eq_false bc_node
  show Sy.lk (Tr.levels [Tr.leaf [97], Tr.leaf [98]]) (Tr.levels [Tr.leaf [97], Tr.leaf [99]]) _ 0 = _
  have u : ∀ a b : Nat, Tr.levels [a, b] = [[a, b], [Tr.node a b]] := fun a b => by
    rw [Tr.levels_up (l := [a, b]) (by exact (by decide : 1 < 2)), Tr.levels_one (l := Tr.up [a, b]) (Nat.le_refl 1)]
    rfl
  rw [u, u]
  show Sy.lk [[Tr.leaf [97], Tr.leaf [98]], [Tr.node (Tr.leaf [97]) (Tr.leaf [98])]] [[Tr.leaf [97], Tr.leaf [99]], [Tr.node (Tr.leaf [97]) (Tr.leaf [99])]] 1 0 = _
  rw [Sy.lk_other (by exact h2), Sy.dn_both (by exact (by decide : ¬ 2 * 0 + 1 = 2)), Sy.lk_same (by rfl), Sy.lk_other (by exact h1)]
  rfl

theorem finds_test (w : World) (T : TypeId) : Calls Try.prog 20 #[.slice (some ⟨w.heap.size, 0, none⟩) 2 2, .slice (some ⟨w.heap.size + 1, 0, none⟩) 2 2] ((w.alloc (.cells #[.string ⟨#[97]⟩, .string ⟨#[98]⟩] T)).alloc (.cells #[.string ⟨#[97]⟩, .string ⟨#[99]⟩] T)) fun e w' =>
    ∃ g c, e = .returned (.tuple #[.slice (some ⟨g, 0, none⟩) 1 c, .int .i64 3, .int .i64 0]) ∧ w'.cell? ⟨g, 0, none⟩ = some (.int .i64 1) ∧ Below w.heap.size w w' := by
  have hz := World.size_alloc w (.cells #[.string ⟨#[97]⟩, .string ⟨#[98]⟩] T)
  have tx : ∀ (W : World) (o : Nat) (u : ByteArray) (_ : o = W.heap.size), TextsAt (W.alloc (.cells #[.string ⟨#[97]⟩, .string u] T)) (some ⟨o, 0, none⟩) 2 [⟨#[97]⟩, u] := fun W o u ho _ => ⟨_, rfl, fun i hi => by
    subst ho
    rw [addr_add]
    rcases i with _ | _ | i
    · exact cell_new W (k := 0) rfl
    · exact cell_new W (k := 1) rfl
    · omega⟩
  have sz : ∀ (u : ByteArray), u.size ≤ 64 → ∀ i, i < 2 → (([⟨#[97]⟩, u] : List ByteArray).getD i ByteArray.empty).size ≤ 64 := by
    intro u hu i hi
    rcases i with _ | _ | i
    · exact (by decide : (1 : Nat) ≤ 64)
    · exact hu
    · omega
  have h := Compare_ok (some ⟨w.heap.size, 0, none⟩) (some ⟨w.heap.size + 1, 0, none⟩) 2 2 2 [⟨#[97]⟩, ⟨#[98]⟩] [⟨#[97]⟩, ⟨#[99]⟩] ((w.alloc (.cells #[.string ⟨#[97]⟩, .string ⟨#[98]⟩] T)).alloc (.cells #[.string ⟨#[97]⟩, .string ⟨#[99]⟩] T)) (by omega) (by omega)
    ((tx w w.heap.size ⟨#[98]⟩ rfl).keep ((Below.refl _ _).alloc (Nat.le_refl _) _)) (tx (w.alloc _) _ ⟨#[99]⟩ hz.symm) (sz _ (by decide)) (sz _ (by decide))
  rw [cmp_abac] at h
  refine h.mono ?_
  rintro e w' ⟨v, rfl, hown, hb⟩
  obtain ⟨g, c, rfl, -⟩ := own_some hown (by decide)
  exact ⟨g, c, rfl, iv_cells hown rfl 0 (by decide), (((Below.refl w.heap.size w).alloc (Nat.le_refl _) _).alloc (by omega) _).trans (hb.mono (by rw [World.size_alloc]; omega))⟩

theorem test_eq1 {w1 : World} {g c : Nat} (hc : w1.cell? ⟨g, 0, none⟩ = some (.int .i64 1)) : ∀ (T : TypeId), Calls Try.prog 22 #[.slice (some ⟨g, 0, none⟩) 1 c, .slice (some ⟨w1.heap.size, 0, none⟩) 1 1] (w1.alloc (.cells #[.int .i64 1] T)) fun e w' => e = .returned (.bool true) ∧ ∃ q, w' = (w1.alloc (.cells #[.int .i64 1] T)).drewN q :=
  fun T => Equal_ints (some ⟨g, 0, none⟩) (some ⟨w1.heap.size, 0, none⟩) c 1 [1] (w1.alloc (.cells #[.int .i64 1] T)) (by decide) (fun j hj => by
    obtain rfl : j = 0 := by simp at hj; omega
    exact ⟨g, rfl, by rw [World.cell?_alloc_past _ _ _ (World.block_lt_of_cell? w1 _ hc)]; exact hc⟩) (fun j hj => by
    obtain rfl : j = 0 := by simp at hj; omega
    exact ⟨_, rfl, cell_new w1 (k := 0) rfl⟩)

/-- All that is needed of what Compare finds. -/
structure Found (ss tt : List ByteArray) (n : Nat) (l : List Nat) (q : Nat) : Prop where
  many : 1 ≤ q ∧ q ≤ 2 * n - 1
  sorted : l.Pairwise (· < ·)
  lt : ∀ j, j ∈ l → j < n
  ne : ∀ j, j ∈ l → ss.getD j ByteArray.empty ≠ tt.getD j ByteArray.empty
  fix : ∀ ff : List ByteArray, (∀ j, j < n → ff.getD j ByteArray.empty = if j ∈ l then tt.getD j ByteArray.empty else ss.getD j ByteArray.empty) → rootOf ff n = rootOf tt n

theorem levels_zero (l : List Nat) : (Tr.levels l).getD 0 [] = l := by
  by_cases h : 1 < l.length
  · rw [Tr.levels_up h]; rfl
  · rw [Tr.levels_one (by omega)]; rfl

theorem lvs_get (ss : List ByteArray) {n j : Nat} (h : j < n) : (lvs ss n).getD j 0 = Tr.leaf (ss.getD j ByteArray.empty).data.toList := by unfold lvs; simp [List.getD, h]

theorem found_cmp {ss tt : List ByteArray} {n : Nat} (h1 : 1 ≤ n) : Found ss tt n (cmp ss tt n).1 (cmp ss tt n).2 := by
  have l1 := lvs_length ss n
  have l2 := lvs_length tt n
  have hne : lvs ss n ≠ [] := by intro h; rw [h] at l1; simp at l1; omega
  have hne2 : lvs tt n ≠ [] := by intro h; rw [h] at l2; simp at l2; omega
  have hlast := Tr.levels_last (lvs ss n) hne
  obtain ⟨hsh, hsame⟩ := Sy.levels_shape _ (lvs ss n) (lvs tt n) (Nat.le_refl _) (by rw [l1, l2])
  have hpos : 0 < (Tr.levels (lvs ss n)).length := by
    rcases hl : Tr.levels (lvs ss n) with _ | ⟨x, r⟩
    · rw [hl] at hlast; simp at hlast
    · simp
  rw [List.getLast?_eq_getElem?] at hlast
  have hone : ((Tr.levels (lvs ss n)).getD ((Tr.levels (lvs ss n)).length - 1) []).length = 1 := by simp [List.getD, hlast]
  have hd : (Tr.levels (lvs ss n)).length - 1 < (Tr.levels (lvs ss n)).length := by omega
  have hi : 0 < ((Tr.levels (lvs ss n)).getD ((Tr.levels (lvs ss n)).length - 1) []).length := by rw [hone]; exact Nat.zero_lt_one
  have hh := Sy.halved_levels (lvs ss n) hne
  have bx := Sy.built_levels (lvs ss n)
  have by' := Sy.built_levels (lvs tt n)
  have a1 := (Sy.dn_lf (Tr.levels (lvs ss n)) (Tr.levels (lvs tt n)) ((Tr.levels (lvs ss n)).length - 1) 0).2
  have a2 := Sy.lf_cr hh _ 0 hd hi
  rw [levels_zero, l1, Nat.zero_mul] at a2
  have a3 := (Sy.cr_below n (2 ^ ((Tr.levels (lvs ss n)).length - 1))).1
  have a4 := (Sy.lk_in (y := Tr.levels (lvs tt n)) hh _ 0 hd hi).2
  rw [levels_zero, l1] at a4
  have a5 := (Sy.lk_diff bx by' hsh hsame _ 0 hd hi).2
  rw [levels_zero, levels_zero] at a5
  refine ⟨?_, a4.2, fun j hj => (a4.1 j hj).2.2, fun j hj he => a5 j hj ?_, fun ff hf => ?_⟩
  · unfold cmp; omega
  · have hjn := (a4.1 j hj).2.2
    rw [lvs_get ss hjn, lvs_get tt hjn, he]
  · obtain ⟨hsh2, hsame2⟩ := Sy.levels_shape _ (lvs ss n) (lvs ff n) (Nat.le_refl _) (by rw [l1, lvs_length])
    have h := Sy.lk_fix bx by' (Sy.built_levels (lvs ff n)) hh hsh hsame hsh2 hsame2 _ 0 hd hi (fun j _ _ => by
      rw [levels_zero, levels_zero, levels_zero]
      by_cases hj : j < n
      · rw [lvs_get ff hj, lvs_get ss hj, lvs_get tt hj, hf j hj]
        show Tr.leaf (ByteArray.data _).toList = _
        unfold cmp
        split <;> rfl
      · have e : ∀ u : List ByteArray, (lvs u n).getD j 0 = 0 := fun u => by simp [List.getD, lvs_length, Nat.le_of_not_lt hj]
        rw [e, e, e]
        split <;> rfl)
    have t1 := Tr.levels_last (lvs ff n) (by intro h; have := lvs_length ff n; rw [h] at this; simp at this; omega)
    have t2 := Tr.levels_last (lvs tt n) hne2
    rw [List.getLast?_eq_getElem?] at t1 t2
    unfold rootOf
    have e1 : ((Tr.levels (lvs ff n)).getD ((Tr.levels (lvs ss n)).length - 1) []).getD 0 0 = Tr.root (lvs ff n) := by rw [hsh2]; simp [List.getD, t1]
    have e2 : ((Tr.levels (lvs tt n)).getD ((Tr.levels (lvs ss n)).length - 1) []).getD 0 0 = Tr.root (lvs tt n) := by rw [hsh]; simp [List.getD, t2]
    rw [← e1, ← e2]
    exact h

set_option maxRecDepth 100000 in
set_option maxHeartbeats 4000000 in
theorem finds_bad (a b : Option Addr) (n ca m cb : Nat) (K : Int) (w : World) (hK : (K != 0) = true) (hC : ∀ w', Below w.heap.size w w' → Calls Try.prog 20 #[.slice a n ca, .slice b m cb] w' fun e w'' => e = .returned (.tuple #[.slice none 0 0, .int .i64 0, .int .i64 K]) ∧ Below w'.heap.size w' w'') :
    Calls Try.prog 10 #[.slice a n ca, .slice b m cb] w fun e w' => e = .returned (.bool true) ∧ Below w.heap.size w w' := by
  have P1 := finds_test w 9
  have HC := Lib.hid hC
  clear hC
  go_enter Try.func10, Try.ntmps10
  go_wp2_with fail
  with_reducible refine P1.mono ?_
  rintro e w1 ⟨g, c, rfl, hc, hb1⟩
  have E1 := test_eq1 (c := c) hc
  have HB1 : Hid (∀ T q, Below w.heap.size w ((w1.alloc (.cells #[.int .i64 1] T)).drewN q)) := Lib.hid fun T q => below_drewN (hb1.alloc hb1.size _) q
  clear hb1 hc P1
  go_wp2_with fail
  with_reducible refine (E1 _).mono ?_
  rintro e w2 ⟨rfl, q, rfl⟩
  have C2 := HC.out _ (HB1.out 3 q)
  clear E1
  go_wp2_with fail
  with_reducible refine C2.mono ?_
  rintro e w3 ⟨rfl, hb3⟩
  have HB3 := Lib.hid ((HB1.out 3 q).trans (hb3.mono (HB1.out _ q).size))
  clear hb3 C2
  go_wp2_with fail
  go_ret
  exact ⟨rfl, HB3.out⟩

set_option maxRecDepth 100000 in
set_option maxHeartbeats 16000000 in
theorem finds_ok (a b : Option Addr) (n ca cb : Nat) (ss tt : List ByteArray) (l : List Nat) (q : Nat) (w : World) (h1 : 1 ≤ n) (hn : n ≤ 32) (hS : TextsAt w a n ss) (hT : TextsAt w b n tt) (hnil : a = none → n = 0 ∧ ca = 0) (hs : ∀ i, i < n → (ss.getD i ByteArray.empty).size ≤ 64) (ht : ∀ i, i < n → (tt.getD i ByteArray.empty).size ≤ 64)
    (hF : Found ss tt n l q) (hl : l.length ≤ n) (hC : ∀ w', Below w.heap.size w w' → Calls Try.prog 20 #[.slice a n ca, .slice b n cb] w' fun e w'' => ∃ x c, e = .returned (.tuple #[.slice x l.length c, .int .i64 (q : Int), .int .i64 0]) ∧ NumsAt w'' x l ∧ Below w'.heap.size w' w'') :
    Calls Try.prog 10 #[.slice a n ca, .slice b n cb] w fun e w' => e = .returned (.bool true) ∧ Below w.heap.size w w' := by
  have P1 := finds_test w 9
  have HC := Lib.hid hC; have HF := Lib.hid hF; have HTS := Lib.hid hS; have HTT := Lib.hid hT
  have HSZ := Lib.hid (⟨hs, ht⟩ : (∀ i, i < n → (ss.getD i ByteArray.empty).size ≤ 64) ∧ ∀ i, i < n → (tt.getD i ByteArray.empty).size ≤ 64)
  have HNil := Lib.hid hnil
  have hq1 := hF.many.1
  have hq2 := hF.many.2
  have hqd1 : decide ((q : Int) < 1) = false := decide_eq_false (by omega)
  have hqd2 : decide (2 * (n : Int) - 1 < (q : Int)) = false := decide_eq_false (by omega)
  obtain ⟨ln, hln⟩ : ∃ ln, l.length = ln := ⟨_, rfl⟩
  rw [hln] at HC hl
  have HLN := Lib.hid hln
  clear hC hF hS hT hs ht hnil hln
  go_enter Try.func10, Try.ntmps10
  go_wp2_with fail
  with_reducible refine P1.mono ?_
  rintro e w1 ⟨g, c, rfl, hc, hb1⟩
  have E1 := test_eq1 (c := c) hc
  have HB1 : Hid (∀ T q, Below w.heap.size w ((w1.alloc (.cells #[.int .i64 1] T)).drewN q)) := Lib.hid fun T q => below_drewN (hb1.alloc hb1.size _) q
  clear hb1 hc P1
  go_wp2_with fail
  with_reducible refine (E1 _).mono ?_
  rintro e w2 ⟨rfl, k, rfl⟩
  have C2 := HC.out _ (HB1.out 3 k)
  clear E1
  go_wp2_with fail
  with_reducible refine C2.mono ?_
  rintro e w3 ⟨x3, c3, rfl, hx3, hb3⟩
  have HB3 := Lib.hid ((HB1.out 3 k).trans (hb3.mono (HB1.out _ k).size))
  have HX3 := Lib.hid hx3
  have S3 := IsSorted_N x3 c3 ln l w3 HLN.out (by omega) (HF.out.sorted.imp (fun h => Nat.le_of_lt h)) (fun x hx => by have := HF.out.lt x hx; omega) hx3
  clear hb3 C2 hx3
  go_wp2_with fail
  with_reducible refine S3.mono ?_
  rintro e w4 ⟨rfl, k4, rfl⟩
  have K4 := Clone_S a n ca ss (w3.drewN k4) (HTS.out.keep (below_drewN HB3.out k4)) HNil.out (by omega)
  clear S3
  go_wp2_with fail
  with_reducible refine K4.mono ?_
  rintro e w5 ⟨v5, rfl, hown5, hb5⟩
  obtain ⟨g5, cap, rfl, hgl⟩ : ∃ g cap, v5 = .slice (some ⟨g, 0, none⟩) n cap ∧ w3.heap.size ≤ g := by
    rcases hown5.2 with ⟨-, h0⟩ | ⟨g, cap, cur, rfl, hg, -⟩
    · omega
    · exact ⟨g, cap, rfl, hg⟩
  have HO5 : Hid (w5.ownsRow w3.heap.size 9 1 (.slice (some ⟨g5, 0, none⟩) n cap) n (sv (firstN ss n))) := Lib.hid hown5
  have HB5 : Hid (Below w3.heap.size w3 w5) := Lib.hid ((below_drewN (Below.refl _ _) k4).trans hb5)
  clear K4 hown5 hb5
  go_wp2_with fail
  go_loopw [68] (fun i wr => ∃ (k : Nat) (ff : List ByteArray), k ≤ ln ∧ i = .int .i64 k ∧ Hid (wr.ownsRow w3.heap.size 9 1 (.slice (some ⟨g5, 0, none⟩) n cap) n (sv ff)) ∧ Hid (∀ j, j < n → ff.getD j ByteArray.empty = if j ∈ l.take k then tt.getD j ByteArray.empty else ss.getD j ByteArray.empty) ∧ Hid (Below w3.heap.size w3 wr)) (fun i _ => ln - (intOf i).toNat)
  case atStart => exact ⟨0, firstN ss n, Nat.zero_le _, rfl, HO5, Lib.hid fun j hj => by rw [firstN_get ss hj, if_neg (by simp)], HB5⟩
  case round =>
    obtain ⟨k, ff, hk, rfl, hO, hD, hB⟩ := hrel
    have hlen : ff.length = n := by have := hO.out.1; unfold sv at this; simpa using this
    have hBW := HB3.out.trans (hB.out.mono HB3.out.size)
    by_cases hlt : k < ln
    · have hkl : k < l.length := by rw [HLN.out]; exact hlt
      obtain ⟨gx, rfl, hxc⟩ := HX3.out k hkl
      have c1 : wr.cell? ⟨gx, k, none⟩ = some (.int .i64 (l[k] : Int)) := by rw [hB.out.cell (p := ⟨gx, k, none⟩) (World.block_lt_of_cell? w3 _ hxc)]; exact hxc
      have hin := HF.out.lt _ (List.getElem_mem hkl)
      have hne := HF.out.ne _ (List.getElem_mem hkl)
      obtain ⟨A, rfl, ea⟩ := (HTS.out.keep hBW) (by omega)
      obtain ⟨B, rfl, eb⟩ := (HTT.out.keep hBW) (by omega)
      have ga := ea _ hin
      have gb := eb _ hin
      have c2 : wr.cell? ⟨g5, l[k], none⟩ = some (.string (ff.getD l[k] ByteArray.empty)) := by
        rw [hO.out.cellAt _ (by omega)]
        unfold sv
        simp [List.getD, hlen, hin]
      have hfz := hO.out.frozenAt l[k]
      have HS5 : Hid ((wr.setCell ⟨g5, l[k], none⟩ (.string (tt.getD l[k] ByteArray.empty))).ownsRow w3.heap.size 9 1 (.slice (some ⟨g5, 0, none⟩) n cap) n (sv (ff.set l[k] (tt.getD l[k] ByteArray.empty)))) := Lib.hid (by
        have := (hO.out.stored l[k] (.string (tt.getD l[k] ByteArray.empty))).1
        unfold sv at this ⊢
        rw [List.map_set]
        exact this)
      have HBS : Hid (Below w3.heap.size w3 (wr.setCell ⟨g5, l[k], none⟩ (.string (tt.getD l[k] ByteArray.empty)))) := Lib.hid (hB.out.setCell hgl _)
      have HD2 : Hid (∀ j, j < n → (ff.set l[k] (tt.getD l[k] ByteArray.empty)).getD j ByteArray.empty = if j ∈ l.take (k + 1) then tt.getD j ByteArray.empty else ss.getD j ByteArray.empty) := Lib.hid fun j hj => by
        rw [List.take_succ_eq_append_getElem hkl]
        by_cases hjk : j = l[k]
        · subst hjk
          rw [if_pos (List.mem_append_right _ (List.mem_singleton.2 rfl))]
          simp [List.getD, List.getElem?_set_self (show l[k] < ff.length by omega)]
        · have e : (ff.set l[k] (tt.getD l[k] ByteArray.empty)).getD j ByteArray.empty = ff.getD j ByteArray.empty := by simp [List.getD, List.getElem?_set_ne (Ne.symm hjk)]
          rw [e, hD.out j hj]
          by_cases hm : j ∈ l.take k
          · rw [if_pos hm, if_pos (List.mem_append_left _ hm)]
          · rw [if_neg hm, if_neg (by rw [List.mem_append, List.mem_singleton]; exact fun h => h.elim hm hjk)]
      clear ea eb hxc hlen
      generalize l[k] = i at *
      generalize ss.getD i ByteArray.empty = X at *
      generalize tt.getD i ByteArray.empty = Y at *
      generalize ff.getD i ByteArray.empty = Z at *
      have e1 := str_ne hne
      have i0 : decide ((i : Int) < 0) = false := decide_eq_false (by omega)
      have i1 : decide ((n : Int) ≤ (i : Int)) = false := decide_eq_false (by omega)
      have i2 : (0 : Int) ≤ (i : Int) := by omega
      have i3 : (i : Int) < (n : Int) := by omega
      have HHB := Lib.hid hBW
      clear hne hBW
      go_wp2_with fail
      go_quiet (fail)
      rename_i nq
      go_wp2_with fail
      go_roundw
      case rel => exact ⟨k + 1, ff.set i Y, hlt, by go_num, HS5, HD2, Lib.hid (below_drewN HBS.out nq)⟩
      case measure => simp [intOf]; omega
    · obtain rfl : k = ln := by omega
      have hff : ∀ j, j < n → ff.getD j ByteArray.empty = if j ∈ l then tt.getD j ByteArray.empty else ss.getD j ByteArray.empty := fun j hj => by
        have := hD.out j hj
        rwa [List.take_of_length_le (by rw [HLN.out]; exact Nat.le_refl _)] at this
      have hFT : TextsAt wr (some ⟨g5, 0, none⟩) n ff := fun _ => ⟨_, rfl, fun i hi => by
        rw [addr_add, hO.out.cellAt i (by omega)]
        unfold sv
        simp [List.getD, hlen, hi]⟩
      by_cases he : ∀ i, i < n → ff.getD i ByteArray.empty = tt.getD i ByteArray.empty
      · have EQ := EqualS_same (some ⟨g5, 0, none⟩) b n cap cb ff tt wr (by omega) hFT (HTT.out.keep hBW) he
        have HHB := Lib.hid hBW
        clear hff hFT he hlen hBW
        go_wp2_with fail
        with_reducible refine EQ.mono ?_
        rintro e w6 ⟨rfl, k6, rfl⟩
        clear EQ
        go_wp2_with fail
        go_ret
        exact ⟨rfl, below_drewN HHB.out k6⟩
      · obtain ⟨i, hi⟩ := Classical.not_forall.1 he
        obtain ⟨hi, hne⟩ := Classical.not_imp.1 hi
        have EQ := EqualS_other (some ⟨g5, 0, none⟩) b n i cap cb ff tt wr (by omega) hFT (HTT.out.keep hBW) hi hne
        have CL := fun k6 => Clash_ok (some ⟨g5, 0, none⟩) b n i cap cb ff tt (wr.drewN k6) h1 hn (hFT.keep (below_drewN (Below.refl _ _) k6)) ((HTT.out.keep hBW).keep (below_drewN (Below.refl _ _) k6)) (fun j hj => by
          rw [hff j hj]
          split
          · exact HSZ.out.2 j hj
          · exact HSZ.out.1 j hj) HSZ.out.2 (HF.out.fix ff hff) hi hne
        have HHB := Lib.hid hBW
        have HCL := Lib.hid CL
        clear hff hFT he hlen hne hBW CL
        go_wp2_with fail
        with_reducible refine EQ.mono ?_
        rintro e w6 ⟨rfl, k6, rfl⟩
        have CL2 := HCL.out k6
        clear EQ
        go_wp2_with fail
        refine Calls.mono CL2 ?_
        rintro e w7 ⟨s, t, rfl, -, hb7⟩
        have HB7 := Lib.hid ((below_drewN HHB.out k6).trans (hb7.mono (below_drewN HHB.out k6).size))
        clear hb7 CL2
        go_wp2_with fail
        go_ret
        exact ⟨rfl, HB7.out⟩

theorem sorted_len : ∀ (l : List Nat) (lo n : Nat), l.Pairwise (· < ·) → (∀ x, x ∈ l → lo ≤ x ∧ x < n) → l.length ≤ n - lo
  | [], _, _, _, _ => Nat.zero_le _
  | a :: l, lo, n, hp, h => by
    have h1 := List.pairwise_cons.1 hp
    have h2 := h a (List.mem_cons_self ..)
    have h3 := sorted_len l (a + 1) n h1.2 (fun x hx => ⟨h1.1 x hx, (h x (List.mem_cons_of_mem _ hx)).2⟩)
    rw [List.length_cons]
    omega

theorem syncFinds_walk (a0 : Option Addr) (len0 cap0 : Nat) (s0 : List ByteArray) (a1 : Option Addr) (len1 cap1 : Nat) (s1 : List ByteArray) (w : World) (w0 : IsRowS w a0 len0 cap0 s0) (w1 : IsRowS w a1 len1 cap1 s1) :
    Calls Try.prog 10 #[.slice a0 len0 cap0, .slice a1 len1 cap1] w fun e w' => e = .returned (.bool true) ∧ Below w.heap.size w w' := by
  obtain ⟨t0, n0⟩ := rowS_texts w0
  obtain ⟨t1, n1⟩ := rowS_texts w1
  by_cases hc : cmpE s0 len0 s1 len1 = 0
  · obtain ⟨h1, h2, rfl⟩ := cmpE_zero.1 hc
    obtain ⟨p0, p32, sz0⟩ := right_parts h1
    have sz1 := (right_parts h2).2.2
    have hF := found_cmp (ss := s0) (tt := s1) p0
    refine finds_ok a0 a1 len0 cap0 cap1 s0 s1 _ _ w p0 p32 t0 t1 ?_ sz0 sz1 hF ?_ ?_
    · rintro rfl
      rcases w0 with ⟨-, h1, h2, -⟩ | ⟨x, h, -⟩
      · exact ⟨h1, h2⟩
      · cases h
    · have := sorted_len _ 0 len0 hF.sorted (fun x hx => ⟨Nat.zero_le _, hF.lt x hx⟩)
      omega
    · intro w' hb
      refine (Compare_ok a0 a1 len0 cap0 cap1 s0 s1 w' p0 p32 (t0.keep hb) (t1.keep hb) sz0 sz1).mono ?_
      rintro e w'' ⟨v, rfl, hown, hb2⟩
      obtain ⟨x, c, rfl, hx⟩ := own_ints hown
      exact ⟨x, c, rfl, hx, hb2⟩
  · refine finds_bad a0 a1 len0 cap0 len1 cap1 (cmpE s0 len0 s1 len1 : Nat) w (bne_iff_ne.2 (by omega)) (fun w' hb => ?_)
    refine (Compare_bad a0 a1 len0 len1 cap0 cap1 s0 s1 w' n0 n1 (t0.keep hb) (t1.keep hb) hc).mono ?_
    rintro e w'' ⟨rfl, rfl⟩
    exact ⟨rfl, Below.refl _ _⟩

end Go.Proofs.Ytlimdfmnfhlcoaa
