/- Walks: queue.Check, queue.may, slices.Clone at tasks. -/
import Derived.Test.YtoglkellaliegaaQuW
import Derived.Below
import Derived.Laws.OwnMore
import Derived.Deep.AppendLies
import Derived.ArgAppend
namespace Go.Proofs.Ytoglkellaliegaa
open Go.RowKit

theorem Try.infoTask : (Try.prog.info? 24).map (fun i => (i.zero, i.size, i.bytes)) = some (some (.agg #[.int .i64 0, .int .i64 0]), 2, 16) := by kernel_rfl

/-- Tasks as values. -/
def tv : List Qu.T → List Value
  | [] => []
  | t :: l => .int .i64 t.1 :: .int .i64 t.2 :: tv l

theorem tv_app (l m : List Qu.T) : tv (l ++ m) = tv l ++ tv m := by
  induction l with
  | nil => rfl
  | cons t l ih => rw [List.cons_append, tv, ih]; rfl

theorem tv_length (l : List Qu.T) : (tv l).length = l.length * 2 := by
  induction l with
  | nil => rfl
  | cons t l ih => rw [tv, List.length_cons, List.length_cons, ih, List.length_cons]; omega

theorem tv_one (l : List Qu.T) : ∀ u ∈ tv l, u.oneCell' = true := by
  induction l with
  | nil => intro u hu; cases hu
  | cons t l ih =>
    intro u hu
    rw [tv] at hu
    rcases List.mem_cons.1 hu with rfl | hu
    · rfl
    · rcases List.mem_cons.1 hu with rfl | hu
      · rfl
      · exact ih u hu

theorem tv_get {l : List Qu.T} {j : Nat} {t : Qu.T} (h : l[j]? = some t) : (tv l)[j * 2]? = some (.int .i64 t.1) ∧ (tv l)[j * 2 + 1]? = some (.int .i64 t.2) := by
  induction l generalizing j with
  | nil => simp at h
  | cons x l ih =>
    cases j with
    | zero =>
      obtain rfl : x = t := by simpa using h
      exact ⟨rfl, rfl⟩
    | succ j =>
      have := ih (j := j) (by simpa using h)
      rw [show (j + 1) * 2 = j * 2 + 1 + 1 from by omega]
      exact this

theorem tv_split {l : List Qu.T} {j : Nat} {u : Value} (h : (tv l)[j]? = some u) : ∃ k t, l[k]? = some t ∧ (j = k * 2 ∧ u = .int .i64 t.1 ∨ j = k * 2 + 1 ∧ u = .int .i64 t.2) := by
  induction l generalizing j with
  | nil => simp [tv] at h
  | cons x l ih =>
    match j with
    | 0 => exact ⟨0, x, rfl, Or.inl ⟨rfl, by simpa [tv] using h.symm⟩⟩
    | 1 => exact ⟨0, x, rfl, Or.inr ⟨rfl, by simpa [tv] using h.symm⟩⟩
    | j + 2 =>
      obtain ⟨k, t, h1, h2⟩ := ih (j := j) (by simpa [tv] using h)
      refine ⟨k + 1, t, by simpa using h1, ?_⟩
      rcases h2 with ⟨rfl, h2⟩ | ⟨rfl, h2⟩
      · exact Or.inl ⟨by omega, h2⟩
      · exact Or.inr ⟨by omega, h2⟩

theorem addr_lit (g o j : Nat) : (⟨g, o, none⟩ : Addr).add j = ⟨g, o + j, none⟩ := by
  unfold Addr.add
  split
  · rename_i h; rw [h]; rfl
  · rfl

theorem TasksAt.cells {w : World} {g o : Nat} {ts : List Qu.T} (h : TasksAt w (some ⟨g, o, none⟩) ts) : ∀ j u, (tv ts)[j]? = some u → w.cell? ((⟨g, o, none⟩ : Addr).add j) = some u := by
  intro j u hu
  obtain ⟨k, t, hk, hh⟩ := tv_split hu
  have hne : ts ≠ [] := by rintro rfl; simp at hk
  obtain ⟨g', o', he, -, hc⟩ := h hne
  cases he
  obtain ⟨c1, c2⟩ := hc k t hk
  rw [addr_lit]
  rcases hh with ⟨rfl, rfl⟩ | ⟨rfl, rfl⟩
  · exact c1
  · rw [← Nat.add_assoc]; exact c2

/-- A row of the call's own holds these tasks. -/
theorem tasks_own {w : World} {base n : Nat} {e : TypeId} {v : Value} {ts : List Qu.T} (h : w.ownsRow base e 2 v n (tv ts)) (hn : ts.length = n) : ∃ a c, v = .slice a n c ∧ TasksAt w a ts ∧ n ≤ c ∧ c ≤ maxLen := by
  rcases h.2 with ⟨rfl, h0⟩ | ⟨g, cap, cur, rfl, hb, hh, hnc, hcm, h'⟩
  · have : ts = [] := by
      cases ts with
      | nil => rfl
      | cons t r => simp at hn; omega
    subst this
    exact ⟨none, 0, by rw [← hn]; rfl, fun h => absurd rfl h, by rw [← hn]; exact Nat.le_refl _, Nat.zero_le _⟩
  · have hlt : g < w.heap.size := by
      rcases Nat.lt_or_ge g w.heap.size with h | h
      · exact h
      · rw [Array.getElem?_eq_none h] at hh; cases hh
    refine ⟨_, cap, rfl, fun _ => ⟨g, 0, rfl, hlt, fun j t hj => ?_⟩, hnc, hcm⟩
    obtain ⟨k1, k2⟩ := tv_get hj
    have c1 := h.cells (g := g) rfl _ _ k1
    have c2 := h.cells (g := g) rfl _ _ k2
    rw [addr_lit] at c1 c2
    refine ⟨c1, ?_⟩
    rw [Nat.add_assoc]
    exact c2

theorem own_low {w : World} {b base : Nat} {e : TypeId} {size n : Nat} {v : Value} {xs : List Value} (h : w.ownsRow b e size v n xs) (hb : base ≤ b) : w.ownsRow base e size v n xs := by
  refine ⟨h.1, ?_⟩
  rcases h.2 with h2 | ⟨g, cap, cur, hv, hg, r⟩
  · exact Or.inl h2
  · exact Or.inr ⟨g, cap, cur, hv, Nat.le_trans hb hg, r⟩

theorem below_drewN {B : Nat} {a w : World} (h : Below B a w) (n : Nat) : Below B a (w.drewN n) := ⟨h.os, h.tape, h.output, h.size, h.block⟩

theorem good_check {ts : List Qu.T} (h : Qu.Good ts) {k : Nat} (hk : k < ts.length) : (ts.take k).any (Qu.tg ts[k].1) = false := by
  rw [List.any_eq_false]
  intro t ht hh
  obtain ⟨j, hj, rfl⟩ := List.getElem_of_mem ht
  have hj' : j < k := by rw [List.length_take] at hj; omega
  have := (List.pairwise_iff_getElem.1 h.nd) j k (by rw [List.length_map]; omega) (by rw [List.length_map]; omega) hj'
  simp [Qu.tg] at hh this
  exact this hh

set_option maxRecDepth 100000 in
set_option maxHeartbeats 4000000 in
/-- Of a queue that is right Check says so. -/
theorem Check_T (a : Option Addr) (c n : Nat) (ts : List Qu.T) (w : World) (hl : ts.length = n) (hnc : n ≤ c) (_hcm : c ≤ maxLen) (hG : Qu.Good ts) (hT : TasksAt w a ts) :
    Calls Try.prog 57 #[.slice a n c] w fun e w' => e = .returned (.int .i64 0) ∧ Below w.heap.size w w' := by
  unfold maxLen at _hcm
  have hn20 : n ≤ 20 := by rw [← hl]; exact hG.len
  have HG := Lib.hid hG; have HT := Lib.hid hT; have HL := Lib.hid hl
  clear hG hT hl
  go_enter Try.func57, Try.ntmps57
  go_wp2_with fail
  go_loopw [10] (fun x wr => ∃ k : Nat, k ≤ n ∧ x = .int .i64 k ∧ Hid (Below w.heap.size w wr)) (fun x _ => n - (intOf x).toNat)
  case atStart => exact ⟨0, Nat.zero_le _, rfl, Lib.hid (Below.refl _ _)⟩
  case round =>
    obtain ⟨k, hk, rfl, hB⟩ := hrel
    by_cases hlt : k < n
    · have hk' : k < ts.length := by rw [HL.out]; exact hlt
      have hne : ts ≠ [] := by rintro rfl; simp at hk'
      obtain ⟨g, o, rfl, hg, hc⟩ := (HT.out.keep hB.out) hne
      obtain ⟨c1, c2⟩ := hc k ts[k] (List.getElem?_eq_getElem hk')
      have hone : Qu.one (ts[k].1, ts[k].2) = true := HG.out.one ts[k] (List.getElem_mem hk')
      have hany := good_check HG.out hk'
      have hsz := hB.out.size
      clear hc hne
      generalize ts[k].1 = x at *
      generalize ts[k].2 = y at *
      have O1 := fun w => one_is x y true hone w
      have HANY := Lib.hid hany
      clear hany hone
      go_wp2_with fail
      with_reducible refine (O1 _).mono ?_
      rintro e w2 ⟨rfl, hb2⟩
      have hsz2 := hb2.size
      rw [World.size_alloc] at hsz2
      have cB : w2.cell? ⟨wr.heap.size, 0, none⟩ = some (.int .i64 x) := by
        rw [hb2.cell (p := ⟨wr.heap.size, 0, none⟩) (by rw [World.size_alloc]; exact Nat.lt_succ_self _)]
        exact cell_new wr (k := 0) rfl
      have HB2 : Hid (Below w.heap.size w w2) := Lib.hid ((hB.out.alloc hB.out.size _).trans (hb2.mono (by rw [World.size_alloc]; omega)))
      have C1 := ContainsFunc_T (some ⟨g, o, none⟩) c k (ts.take k) _ _ _ false w2 (by omega) (by rw [List.length_take]; omega) eg_check ((HT.out.keep HB2.out).take k) (pred_check w2 wr.heap.size x (by omega) cB) HANY.out
      clear hb2 hsz2 hsz O1 c1 c2 cB
      go_wp2_with fail
      with_reducible refine C1.mono ?_
      rintro e w3 ⟨rfl, hb3⟩
      have HB3 : Hid (Below w.heap.size w w3) := Lib.hid (HB2.out.trans (hb3.mono HB2.out.size))
      clear hb3 C1
      go_wp2_with fail
      go_roundw
      case rel => exact ⟨k + 1, hlt, by go_num, HB3⟩
      case measure => simp [intOf]; omega
    · obtain rfl : k = n := by omega
      go_wp2_with fail
      go_ret
      exact ⟨rfl, hB.out⟩

set_option maxRecDepth 100000 in
set_option maxHeartbeats 4000000 in
theorem may_T (a : Option Addr) (c n i : Nat) (ts : List Qu.T) (v : Bool) (w : World) (hl : ts.length = n) (hnc : n ≤ c) (_hcm : c ≤ maxLen) (hi : i < n) (hn : n ≤ 20) (hT : TasksAt w a ts) (hv : Qu.may ts i = v) :
    Calls Try.prog 61 #[.slice a n c, .int .i64 i] w fun e w' => e = .returned (.bool v) ∧ Below w.heap.size w w' := by
  unfold maxLen at _hcm
  have hk' : i < ts.length := by omega
  have hne : ts ≠ [] := by rintro rfl; simp at hk'
  obtain ⟨g, o, rfl, hg, hc⟩ := hT hne
  obtain ⟨c1, c2⟩ := hc i ts[i] (List.getElem?_eq_getElem hk')
  have eg : ts.getD i (0, 0) = ts[i] := by simp [List.getD, hk']
  unfold Qu.may at hv
  rw [eg] at hv
  have C1 := fun u (hu : (ts.take i).any Qu.ns = u) => ContainsFunc_T (some ⟨g, o, none⟩) c i (ts.take i) _ _ _ u w (by omega) (by rw [List.length_take]; omega) eg_may (hT.take i) (pred_may w) hu
  clear hc hne hT eg
  generalize ts[i].1 = x at *
  generalize ts[i].2 = y at *
  by_cases h2 : y = 2
  · rw [if_pos h2] at hv
    subst hv; subst h2
    clear C1
    go_enter Try.func61, Try.ntmps61
    go_wp2_with fail
    go_ret
    exact ⟨rfl, Below.refl _ _⟩
  · rw [if_neg h2] at hv
    have e2 : (y == 2) = false := beq_eq_false_iff_ne.2 h2
    by_cases h1 : y = 1
    · rw [if_pos h1] at hv
      subst h1
      have e0 : ((i : Int) == 0) = v := by
        rw [← hv]
        by_cases h0 : i = 0
        · subst h0; rfl
        · rw [decide_eq_false h0]; exact beq_eq_false_iff_ne.2 (by omega)
      clear C1 hv h2 e2
      go_enter Try.func61, Try.ntmps61
      go_wp2_with fail
      go_ret
      exact ⟨by first | rfl | simp [e0], Below.refl _ _⟩
    · rw [if_neg h1] at hv
      have e1 : (y == 1) = false := beq_eq_false_iff_ne.2 h1
      rcases hu : (ts.take i).any Qu.ns with _ | _
      all_goals
        have C2 := C1 _ hu
        rw [hu] at hv
        subst hv
        clear C1 hu h1 h2
        go_enter Try.func61, Try.ntmps61
        go_wp2_with fail
        with_reducible refine C2.mono ?_
        rintro e w' ⟨rfl, hb⟩
        go_wp2_with fail
        go_ret
        exact ⟨rfl, hb⟩

end Go.Proofs.Ytoglkellaliegaa
