/- Walks of the references on reservations, of kinds, of a turn's reader. -/
import Derived.Test.YtoglkellaliegaaRgPr
import Derived.Test.YtoglkellaliegaaQuW7
namespace Go.Proofs.Ytoglkellaliegaa
open Go.RowKit

set_option maxHeartbeats 1000000 in
theorem Shared_R (k : Int) (v : Bool) (hv : Rg.all k = v) (w : World) : Calls Try.prog 36 #[.int .i64 k] w fun e w' => e = .returned (.bool v) ∧ w' = w := by
  subst hv
  unfold Rg.all
  rcases h : (k == 7) with _ | _
  all_goals
    go_enter Try.func36, Try.ntmps36
    go_wp2_with fail
    go_ret
    exact ⟨by first | rfl | simp, rfl⟩

theorem key_hit {ts : List Qu.T} {x : Int} {j : Nat} (hj : j < ts.length) (h : ts[j].1 = x) (hb : ∀ m (hm : m < ts.length), m < j → ts[m].1 ≠ x) : Rg.key ts x = ts[j].2 := by
  unfold Rg.key
  have : ts.find? (Qu.tg x) = some ts[j] := by
    rw [List.find?_eq_some_iff_getElem]
    exact ⟨by simpa [Qu.tg] using h, j, hj, rfl, fun m hm => by simpa [Qu.tg] using hb m (by omega) hm⟩
  rw [this]

theorem key_miss {ts : List Qu.T} {x : Int} (hb : ∀ m (hm : m < ts.length), ts[m].1 ≠ x) : Rg.key ts x = 0 := by
  unfold Rg.key
  have : ts.find? (Qu.tg x) = none := by
    rw [List.find?_eq_none]
    intro t ht
    obtain ⟨m, hm, rfl⟩ := List.getElem_of_mem ht
    simpa [Qu.tg] using hb m hm
  rw [this]

set_option maxRecDepth 100000 in
set_option maxHeartbeats 4000000 in
theorem Key_R (g k q x : Int) (a : Option Addr) (n c : Nat) (ts : List Qu.T) (w : World) (hT : TSl w a n c ts) (hn : n ≤ 1000000) :
    Calls Try.prog 42 #[.agg #[.int .i64 g, .slice a n c, .int .i64 k, .int .i64 q], .int .i64 x] w fun e w' => e = .returned (.int .i64 (Rg.key ts x)) ∧ Below w.heap.size w w' := by
  have HB : Hid (∀ o, Below w.heap.size w (w.alloc o)) := Lib.hid fun o => (Below.refl _ w).alloc (Nat.le_refl _) _
  have HT := Lib.hid hT
  obtain ⟨K, hK⟩ : ∃ K, Rg.key ts x = K := ⟨_, rfl⟩
  have HK := Lib.hid hK
  rw [hK]
  clear hT hK
  go_enter Try.func42, Try.ntmps42
  go_wp2_with fail
  go_loopw [10] (fun v wr => ∃ j : Nat, j ≤ n ∧ v = .int .i64 j ∧ Hid (∀ m (hm : m < ts.length), m < j → ts[m].1 ≠ x) ∧ Hid (Below w.heap.size w wr)) (fun v _ => n - (intOf v).toNat)
  case atStart => exact ⟨0, Nat.zero_le _, rfl, Lib.hid fun m hm h => absurd h (Nat.not_lt_zero _), HB.out _⟩
  case round =>
    obtain ⟨j, hj, rfl, hA, hB⟩ := hrel
    by_cases hlt : j < n
    · have hk' : j < ts.length := by rw [HT.out.len]; exact hlt
      have hne : ts ≠ [] := by rintro rfl; simp at hk'
      obtain ⟨b, o, rfl, hb, hc⟩ := (HT.out.keep hB.out).at_ hne
      obtain ⟨e1, e2⟩ := hc j ts[j] (List.getElem?_eq_getElem hk')
      have HH : Hid (ts[j].1 = x → ts[j].2 = K) := Lib.hid fun h => by rw [← HK.out, key_hit hk' h hA.out]
      have HN : Hid (ts[j].1 ≠ x → ∀ m (hm : m < ts.length), m < j + 1 → ts[m].1 ≠ x) := Lib.hid fun h m hm hmj => by
        by_cases e : m = j
        · subst e; exact h
        · exact hA.out m hm (by omega)
      have hsz := hB.out.size
      clear hc hne
      generalize ts[j].1 = p at *
      generalize ts[j].2 = z at *
      by_cases hp : p = x
      · subst hp
        obtain rfl := HH.out rfl
        clear HH HN
        go_wp2_with fail
        go_ret
        exact ⟨rfl, hB.out.alloc hsz _⟩
      · have HN' := Lib.hid (HN.out hp)
        have ep : (p == x) = false := beq_eq_false_iff_ne.2 hp
        clear HH HN hp
        go_wp2_with fail
        go_roundw
        case rel => exact ⟨j + 1, hlt, by go_num, HN', Lib.hid (hB.out.alloc hsz _)⟩
        case measure => simp [intOf]; omega
    · obtain rfl : j = n := by omega
      obtain rfl : K = 0 := by rw [← HK.out]; exact key_miss fun m hm => hA.out m hm (by rw [← HT.out.len]; exact hm)
      go_wp2_with fail
      go_ret
      exact ⟨rfl, hB.out⟩

theorem key_pos {ts : List Qu.T} (h1 : ∀ t, t ∈ ts → 1 ≤ t.2) (x : Int) : decide (0 < Rg.key ts x) = Qu.has ts x := by
  rcases idx_cases ts x with ⟨h, -⟩ | ⟨i, hi, -, h2, -, h4⟩
  · rw [Rg.key_none h, h]; rfl
  · rw [h2, h4]
    have := h1 _ (List.getElem_mem hi)
    exact decide_eq_true (by omega)

set_option maxRecDepth 100000 in
set_option maxHeartbeats 4000000 in
theorem RHas_R (g k q x : Int) (a : Option Addr) (n c : Nat) (ts : List Qu.T) (v : Bool) (w : World) (hG : Rg.Good ⟨g, ts, k, q⟩) (hT : TSl w a n c ts) (hv : Rg.hasR ts k q x = v) :
    Calls Try.prog 41 #[.agg #[.int .i64 g, .slice a n c, .int .i64 k, .int .i64 q], .int .i64 x] w fun e w' => e = .returned (.bool v) ∧ Below w.heap.size w w' := by
  have hn8 : n ≤ 8 := by have := hG.len; rw [hT.len] at this; exact this
  have HB : Hid (∀ o, Below w.heap.size w (w.alloc o)) := Lib.hid fun o => (Below.refl _ w).alloc (Nat.le_refl _) _
  have K1 := fun o => Key_R g k q x a n c ts (w.alloc o) (hT.keep (HB.out o)) (by omega)
  have hkind : Rg.kindB k = true ∨ k = 0 := hG.kind
  have hkp := key_pos (fun t ht => (hG.one t ht).2.2.1) x
  unfold Rg.hasR at hv
  cases ha : Rg.all k with
  | true =>
    rw [if_neg (Rg.all_ne ha), if_pos ha, ← hkp] at hv
    subst hv
    have S1 := fun w => Shared_R k true ha w
    clear hkp ha hkind hG hT
    generalize Rg.key ts x = K at *
    go_enter Try.func41, Try.ntmps41
    go_wp2_with fail
    with_reducible refine (S1 _).mono ?_
    rintro e w1 ⟨rfl, rfl⟩
    go_wp2_with fail
    with_reducible refine (K1 _).mono ?_
    rintro e w1 ⟨rfl, hb⟩
    have HF := Lib.hid ((HB.out _).trans (hb.mono (HB.out _).size))
    clear hb K1
    go_wp2_with fail
    go_ret
    exact ⟨rfl, HF.out⟩
  | false =>
    have S1 := fun w => Shared_R k false ha w
    by_cases h0 : k = 0
    · rw [if_pos h0] at hv
      subst hv
      subst h0
      clear hkp ha hkind hG hT K1
      go_enter Try.func41, Try.ntmps41
      go_wp2_with fail
      with_reducible refine (S1 _).mono ?_
      rintro e w1 ⟨rfl, rfl⟩
      go_wp2_with fail
      go_ret
      exact ⟨rfl, HB.out _⟩
    · rw [if_neg h0, if_neg (by rw [ha]; decide)] at hv
      have hk : 0 < k := by
        have h := hkind.resolve_right h0
        unfold Rg.kindB at h
        simp only [Bool.or_eq_true, beq_iff_eq, Bool.and_eq_true, decide_eq_true_eq] at h
        omega
      subst hv
      clear hkp ha hkind hG hT K1 h0
      go_enter Try.func41, Try.ntmps41
      go_wp2_with fail
      with_reducible refine (S1 _).mono ?_
      rintro e w1 ⟨rfl, rfl⟩
      go_wp2_with fail
      go_ret
      exact ⟨by first | rfl | simp, HB.out _⟩

set_option maxRecDepth 100000 in
set_option maxHeartbeats 2000000 in
theorem Equal_R (a b : Option Addr) (n c1 c2 : Nat) (l : List Qu.T) (w : World) (h1 : TSl w a n c1 l) (h2 : TSl w b n c2 l) (hn : n ≤ 1099511627776) :
    Calls Try.prog 56 #[.slice a n c1, .slice b n c2] w fun e w' => e = .returned (.bool true) ∧ ∃ q, w' = w.drewN q := by
  have H1 := Lib.hid h1; have H2 := Lib.hid h2; clear h1 h2
  go_enter Try.func56, Try.ntmps56
  go_wp2_with fail
  go_loopw [13] (fun x wr => ∃ k : Nat, k ≤ n ∧ x = .int .i64 k ∧ ∃ j, wr = w.drewN j) (fun x _ => n - (intOf x).toNat)
  case atStart => exact ⟨0, Nat.zero_le _, rfl, 0, rfl⟩
  case round =>
    obtain ⟨k, hk, rfl, hj⟩ := hrel
    by_cases hlt : k < n
    · have hk' : k < l.length := by rw [H1.out.len]; exact hlt
      have hne : l ≠ [] := by rintro rfl; simp at hk'
      obtain ⟨A, o1, rfl, -, e1⟩ := H1.out.at_ hne
      obtain ⟨B, o2, rfl, -, e2⟩ := H2.out.at_ hne
      obtain ⟨g1, g1'⟩ := e1 k l[k] (List.getElem?_eq_getElem hk')
      obtain ⟨g2, g2'⟩ := e2 k l[k] (List.getElem?_eq_getElem hk')
      clear e1 e2 hne
      generalize l[k].1 = x at *
      generalize l[k].2 = y at *
      obtain ⟨j, rfl⟩ := hj
      go_wp2_with fail
      go_region
      all_goals
        go_wp2_with fail
        go_roundw
        case rel => exact ⟨k + 1, hlt, by go_num, j + 1, rfl⟩
        case measure => simp [intOf]; omega
    · obtain rfl : k = n := by omega
      go_wp2_with fail
      go_ret
      exact ⟨rfl, hj⟩

set_option maxRecDepth 100000 in
set_option maxHeartbeats 4000000 in
theorem Same_R (g k q : Int) (a b : Option Addr) (n c1 c2 : Nat) (ts : List Qu.T) (w : World) (h1 : TSl w a n c1 ts) (h2 : TSl w b n c2 ts) (hn : n ≤ 1000000) :
    Calls Try.prog 39 #[.agg #[.int .i64 g, .slice a n c1, .int .i64 k, .int .i64 q], .agg #[.int .i64 g, .slice b n c2, .int .i64 k, .int .i64 q]] w fun e w' => e = .returned (.bool true) ∧ Below w.heap.size w w' := by
  have HB : Hid (∀ o o', Below w.heap.size w ((w.alloc o).alloc o')) := boxes_b w
  have E1 := fun o o' => Equal_R a b n c1 c2 ts ((w.alloc o).alloc o') (h1.keep (HB.out o o')) (h2.keep (HB.out o o')) (by omega)
  clear h1 h2
  go_enter Try.func39, Try.ntmps39
  go_wp2_with fail
  with_reducible refine (E1 _ _).mono ?_
  rintro e w1 ⟨rfl, kk, rfl⟩
  go_wp2_with fail
  go_ret
  exact ⟨rfl, below_drewN (HB.out _ _) _⟩

theorem lit6 (w : World) (T : TypeId) {j : Nat} (hj : j < 6) : (w.alloc (.cells #[.int .i64 1, .int .i64 3, .int .i64 5, .int .i64 6, .int .i64 7, .int .i64 8] T)).cell? ⟨w.heap.size, j, none⟩ = some (.int .i64 ([1, 3, 5, 6, 7, 8].getD j 1)) := by
  match j, hj with
  | 0, _ => exact cell_new w (k := 0) rfl
  | 1, _ => exact cell_new w (k := 1) rfl
  | 2, _ => exact cell_new w (k := 2) rfl
  | 3, _ => exact cell_new w (k := 3) rfl
  | 4, _ => exact cell_new w (k := 4) rfl
  | 5, _ => exact cell_new w (k := 5) rfl

set_option maxRecDepth 100000 in
set_option maxHeartbeats 4000000 in
theorem kinds_R (k : Int) (w : World) : Calls Try.prog 38 #[.int .i64 k] w fun e w' => e = .returned (.int .i64 (Rg.kinds k)) ∧ Below w.heap.size w w' := by
  have hw := within_is (k := k) (n := 6) (N := 6) rfl (by omega) (by omega) rfl
  have hq := wi_lt k 6 (by omega)
  have HL := fun T => lit6 w T hq
  unfold Rg.kinds
  generalize wi k 6 = x at *
  generalize [1, 3, 5, 6, 7, 8].getD x (1 : Int) = y at *
  have HB : Hid (∀ o, Below w.heap.size w (w.alloc o)) := Lib.hid fun o => (Below.refl _ w).alloc (Nat.le_refl _) _
  go_enter Try.func38, Try.ntmps38
  go_wp2_with fail
  with_reducible refine hw.use ?_
  rintro e w' ⟨rfl, rfl⟩
  go_wp2_with fail
  go_ret
  exact ⟨rfl, HB.out _⟩

end Go.Proofs.Ytoglkellaliegaa
