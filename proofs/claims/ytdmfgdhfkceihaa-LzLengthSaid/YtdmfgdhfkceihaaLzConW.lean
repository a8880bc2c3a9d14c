/- slices.Grow at nil and slices.Concat of two, at tokens. -/
import Derived.Test.YtdmfgdhfkceihaaLzW5
import Derived.Lib.AppendZeros
import Derived.Lib.Walk
import Derived.Lib.SliceRun
import Derived.Laws.AppendOwnNone
import Derived.Deep.RegionWith
import Derived.StillTailTactics
namespace Go.Proofs.Ytdmfgdhfkceihaa
open Go.RowKit

theorem kv_one (l : List Lz.Tk) : ∀ u ∈ kv l, u.oneCell' = true := by
  induction l with
  | nil => intro u hu; cases hu
  | cons t l ih =>
    intro u hu
    rw [kv] at hu
    rcases List.mem_cons.1 hu with rfl | hu
    · rfl
    · rcases List.mem_cons.1 hu with rfl | hu
      · rfl
      · rcases List.mem_cons.1 hu with rfl | hu
        · rfl
        · exact ih u hu

theorem kv_split {l : List Lz.Tk} {j : Nat} {u : Value} (h : (kv l)[j]? = some u) : ∃ k t, l[k]? = some t ∧ (j = k * 3 ∧ u = .int .i64 t.d ∨ j = k * 3 + 1 ∧ u = .int .i64 t.n ∨ j = k * 3 + 2 ∧ u = .int .i64 t.b) := by
  induction l generalizing j with
  | nil => simp [kv] at h
  | cons x l ih =>
    match j with
    | 0 => exact ⟨0, x, rfl, Or.inl ⟨rfl, by simpa [kv] using h.symm⟩⟩
    | 1 => exact ⟨0, x, rfl, Or.inr (Or.inl ⟨rfl, by simpa [kv] using h.symm⟩)⟩
    | 2 => exact ⟨0, x, rfl, Or.inr (Or.inr ⟨rfl, by simpa [kv] using h.symm⟩)⟩
    | j + 3 =>
      obtain ⟨k, t, h1, h2⟩ := ih (j := j) (by simpa [kv] using h)
      refine ⟨k + 1, t, by simpa using h1, ?_⟩
      rcases h2 with ⟨rfl, h2⟩ | ⟨rfl, h2⟩ | ⟨rfl, h2⟩
      · exact Or.inl ⟨by omega, h2⟩
      · exact Or.inr (Or.inl ⟨by omega, h2⟩)
      · exact Or.inr (Or.inr ⟨by omega, h2⟩)

theorem KArg.cells {w : World} {x : Addr} {n c : Nat} {ts : List Lz.Tk} (h : KArg w (some x) n c ts) : ∀ j u, (kv ts)[j]? = some u → w.cell? (x.add j) = some u := by
  intro j u hu
  obtain ⟨k, t, hk, hh⟩ := kv_split hu
  have hne : ts ≠ [] := by rintro rfl; simp at hk
  obtain ⟨x', he, hc⟩ := h.at_ hne
  cases he
  obtain ⟨c1, c2, c3⟩ := hc k t hk
  rcases hh with ⟨rfl, rfl⟩ | ⟨rfl, rfl⟩ | ⟨rfl, rfl⟩
  · exact c1
  · exact c2
  · exact c3

theorem own_grown {w w' : World} {base : Nat} {e : TypeId} {size : Nat} {v : Value} {n : Nat} {xs : List Value} (h : w.ownsRow base e size v n xs) {B : Nat} {W : World} (hB : Below B W w) (hb : B ≤ base) (hs : B ≤ w.heap.size) (hg : w.grownBy w' v.ownBlock) : Below B W w' :=
  hB.grown hg hs (fun k hk => Nat.le_trans hb (row_base h k hk))

set_option maxRecDepth 100000 in
set_option maxHeartbeats 2000000 in
theorem Grow_K (n : Nat) (hn : n ≤ 1099511627776) (w : World) :
    Calls Try.prog 24 #[.slice none 0 0, .int .i64 n] w fun e w' => ∃ v, e = .returned v ∧ w'.ownsRow w.heap.size 33 3 v 0 [] ∧ Below w.heap.size w w' := by
  obtain ⟨i0, hi, hz0, hz1, hz2⟩ := info_parts Try.infoTok
  by_cases h0 : n = 0
  · subst h0
    go_enter Try.func24, Try.ntmps24
    go_wp2_with fail
    go_ret
    exact ⟨_, rfl, World.ownsRow_nil _ _ _ _, Below.refl _ _⟩
  · have hz := fun ty => Lib.run_append_nil_zeros w 30 3 ty 33 i0 (.agg #[.int .i64 0, .int .i64 0, .int .i64 0]) .i64 .i64 Try.underlying30 Try.underlying3 hi hz0 n (by omega) (by rw [hz1]; decide) (by omega) (by rw [hz2]; omega)
    have hge := grownCap_ge w n 0 33
    have hle := grownCap_le_maxLen w n 0 33 (by unfold maxLen; omega)
    have hcs : (Builtin.zeroCells (Value.agg #[.int .i64 0, .int .i64 0, .int .i64 0]).cells n ++ Builtin.zeroCells (Value.agg #[.int .i64 0, .int .i64 0, .int .i64 0]).cells (grownCap w n 0 33 - n)).size = grownCap w n 0 33 * 3 := by
      rw [Array.size_append, size_zeroCells, size_zeroCells]
      show n * 3 + _ * 3 = _
      omega
    generalize grownCap w n 0 33 = G at *
    generalize Builtin.zeroCells (Value.agg #[.int .i64 0, .int .i64 0, .int .i64 0]).cells n ++ Builtin.zeroCells (Value.agg #[.int .i64 0, .int .i64 0, .int .i64 0]).cells (G - n) = cs at *
    have HF : Hid ((w.drew.alloc (.cells cs 33)).ownsRow w.heap.size 33 3 (.slice (some ⟨w.heap.size, 0, none⟩) 0 G) 0 [] ∧ Below w.heap.size w (w.drew.alloc (.cells cs 33))) :=
      Lib.hid ⟨World.ownsRow_made w.drew cs G (Nat.le_refl _) hle hcs, ((Below.refl _ w).drew).alloc (Nat.le_refl _) _⟩
    have hn0 : decide ((0 : Int) < (n : Int)) = true := decide_eq_true (by omega)
    clear hcs hle
    go_enter Try.func24, Try.ntmps24
    go_wp2_with (at_builtin; refine Lib.wpList_append_run _ rfl _ _ _ _ rfl _ _ rfl rfl _ _ (hz _) ?_)
    go_ret
    exact ⟨_, rfl, HF.out⟩

set_option maxRecDepth 100000 in
set_option maxHeartbeats 4000000 in
theorem Concat2_K (b c n1 c1 n2 c2 : Nat) (a1 a2 : Option Addr) (t1 t2 : List Lz.Tk) (w : World) (hb : b < w.heap.size) (hc1 : w.cell? ⟨b, 0, none⟩ = some (.slice a1 n1 c1)) (hc2 : w.cell? ⟨b, 1, none⟩ = some (.slice a2 n2 c2))
    (h1 : KArg w a1 n1 c1 t1) (h2 : KArg w a2 n2 c2 t2) (z1 : a1 = none → n1 = 0 ∧ c1 = 0) (z2 : a2 = none → n2 = 0 ∧ c2 = 0) (hn1 : n1 ≤ 1048576) (hn2 : n2 ≤ 1048576) :
    Calls Try.prog 12 #[.slice (some ⟨b, 0, none⟩) 2 c] w fun e w' => ∃ v, e = .returned v ∧ w'.ownsRow w.heap.size 33 3 v (n1 + n2) (kv (t1 ++ t2)) ∧ Below w.heap.size w w' := by
  obtain ⟨i0, hi, hz0, hz1, hz2⟩ := info_parts Try.infoTok
  have H1 := Lib.hid h1; have H2 := Lib.hid h2; have Z1 := Lib.hid z1; have Z2 := Lib.hid z2; clear z1 z2; have HB := Lib.hid hb
  have HC1 := Lib.hid hc1; have HC2 := Lib.hid hc2
  have G1 := fun w => Grow_K (n1 + n2) (by omega) w
  obtain ⟨S, hS⟩ : ∃ S : Int, ((n1 + n2 : Nat) : Int) = S := ⟨_, rfl⟩
  rw [hS] at G1
  have HS : Hid ((n1 : Int) + (n2 : Int) = S) := Lib.hid (by omega)
  clear hS
  have b1 : n1 + n2 ≤ maxLen := by unfold maxLen; omega
  have b2 : 0 + n1 ≤ maxLen ∧ (0 + n1) * 24 ≤ 140737488355328 ∧ (n1 + n2) * 24 ≤ 140737488355328 := by unfold maxLen; omega
  have HBB := Lib.hid b1; have HBC := Lib.hid b2
  clear h1 h2 hb b1 b2
  go_enter Try.func12, Try.ntmps12
  go_wp2_with fail
  go_loop [3, 11] (fun x i => (x = .int .i64 0 ∧ i = .int .i64 0) ∨ (x = .int .i64 n1 ∧ i = .int .i64 1) ∨ (x = .int .i64 S ∧ i = .int .i64 2)) (fun _ i => 2 - (intOf i).toNat)
  case atStart => exact Or.inl ⟨rfl, rfl⟩
  case round =>
    rcases hrel with ⟨rfl, rfl⟩ | ⟨rfl, rfl⟩ | ⟨rfl, rfl⟩
    · go_wp2_with fail
      go_round
      case rel => exact Or.inr (Or.inl ⟨by go_num, by go_num⟩)
      case measure => simp [intOf]
    · go_wp2_with fail
      go_round
      case rel => exact Or.inr (Or.inr ⟨by rw [← HS.out], by go_num⟩)
      case measure => simp [intOf]
    · have hS0 : ¬ S < 0 := by have := HS.out; omega
      clear hc1 hc2
      go_wp2_with fail
      with_reducible refine (G1 _).mono ?_
      rintro e w1 ⟨v1, rfl, hown1, hb1⟩
      have HO1 := Lib.hid hown1; have HB1 := Lib.hid hb1
      clear hown1 hb1 G1
      go_wp2_with fail
      go_loopw [6, 27] (fun v i wr => Hid (Below w.heap.size w wr) ∧ ((i = .int .i64 0 ∧ Hid (wr.ownsRow w.heap.size 33 3 v 0 [])) ∨ (i = .int .i64 1 ∧ Hid (wr.ownsRow w.heap.size 33 3 v n1 (kv t1))) ∨ (i = .int .i64 2 ∧ Hid (wr.ownsRow w.heap.size 33 3 v (n1 + n2) (kv (t1 ++ t2)))))) (fun _ i _ => 2 - (intOf i).toNat)
      case atStart => exact ⟨HB1, Or.inl ⟨rfl, HO1⟩⟩
      case round =>
        obtain ⟨hB, ⟨rfl, hO⟩ | ⟨rfl, hO⟩ | ⟨rfl, hO⟩⟩ := hrel
        · have g1 : wr.cell? ⟨b, 0, none⟩ = some (.slice a1 n1 c1) := by rw [hB.out.cell (p := ⟨b, 0, none⟩) HB.out]; exact HC1.out
          have hsz := hB.out.size
          rcases a1 with _ | x1
          · obtain ⟨rfl, rfl⟩ := Z1.out rfl
            have ht : t1 = [] := List.length_eq_zero_iff.1 H1.out.len
            have HT : Hid (t1 = []) := Lib.hid ht
            clear ht
            go_wp2_with (at_builtin; refine wpList_append_own_none rfl _ _ _ rfl w.heap.size 33 i0 3 Try.underlying30 hi _ 0 [] rfl hO.out rfl ?_)
            go_roundw
            case rel => exact ⟨hB, Or.inr (Or.inl ⟨by go_num, Lib.hid (by rw [HT.out]; exact hO.out)⟩)⟩
            case measure => simp [intOf]
          · have hcl := Lib.hid (H1.out.keep hB.out).cells
            have hll : Hid ((kv t1).length = n1 * 3) := Lib.hid (by rw [kv_length, H1.out.len])
            go_wp2_with (at_builtin; refine wpList_append_own _ rfl _ _ _ rfl w.heap.size 33 i0 (.agg #[.int .i64 0, .int .i64 0, .int .i64 0]) 3 24 Try.underlying30 hi hz0 hz1 hz2 rfl (by decide) _ 0 [] rfl hO.out x1 n1 c1 (kv t1) rfl hll.out hcl.out (kv_one t1) HBC.out.1 HBC.out.2.1 hsz ?_)
            intro v' w' q1 q2 _
            have HO' : Hid (w'.ownsRow w.heap.size 33 3 v' n1 (kv t1)) := Lib.hid (by simpa using q1)
            have HB' : Hid (Below w.heap.size w w') := Lib.hid (own_grown hO.out hB.out (Nat.le_refl _) hsz q2)
            clear q1 q2
            go_wp2_with fail
            go_roundw
            case rel => exact ⟨HB', Or.inr (Or.inl ⟨by go_num, HO'⟩)⟩
            case measure => simp [intOf]
        · have g1 : wr.cell? ⟨b, 1, none⟩ = some (.slice a2 n2 c2) := by rw [hB.out.cell (p := ⟨b, 1, none⟩) HB.out]; exact HC2.out
          have hsz := hB.out.size
          rcases a2 with _ | x2
          · obtain ⟨rfl, rfl⟩ := Z2.out rfl
            have HT : Hid (t2 = []) := Lib.hid (List.length_eq_zero_iff.1 H2.out.len)
            go_wp2_with (at_builtin; refine wpList_append_own_none rfl _ _ _ rfl w.heap.size 33 i0 3 Try.underlying30 hi _ n1 (kv t1) rfl hO.out rfl ?_)
            go_roundw
            case rel => exact ⟨hB, Or.inr (Or.inr ⟨by go_num, Lib.hid (by rw [HT.out, List.append_nil]; exact hO.out)⟩)⟩
            case measure => simp [intOf]
          · have hcl := Lib.hid (H2.out.keep hB.out).cells
            have hll : Hid ((kv t2).length = n2 * 3) := Lib.hid (by rw [kv_length, H2.out.len])
            go_wp2_with (at_builtin; refine wpList_append_own _ rfl _ _ _ rfl w.heap.size 33 i0 (.agg #[.int .i64 0, .int .i64 0, .int .i64 0]) 3 24 Try.underlying30 hi hz0 hz1 hz2 rfl (by decide) _ n1 (kv t1) rfl hO.out x2 n2 c2 (kv t2) rfl hll.out hcl.out (kv_one t2) HBB.out HBC.out.2.2 hsz ?_)
            intro v' w' q1 q2 _
            have HO' : Hid (w'.ownsRow w.heap.size 33 3 v' (n1 + n2) (kv (t1 ++ t2))) := Lib.hid (by rw [kv_app]; exact q1)
            have HB' : Hid (Below w.heap.size w w') := Lib.hid (own_grown hO.out hB.out (Nat.le_refl _) hsz q2)
            clear q1 q2
            go_wp2_with fail
            go_roundw
            case rel => exact ⟨HB', Or.inr (Or.inr ⟨by go_num, HO'⟩)⟩
            case measure => simp [intOf]
        · go_wp2_with fail
          go_ret
          exact ⟨_, rfl, hO.out, hB.out⟩

end Go.Proofs.Ytdmfgdhfkceihaa
