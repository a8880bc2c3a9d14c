/- The walk of tree.Proof. -/
import Derived.Test.YtnbdceigenndfaaTreeW2
import Derived.Test.YtnbdceigenndfaaTreeProofP
namespace Go.Proofs.Ytnbdceigenndfaa
open Go.RowKit

theorem Try.infoStep : (Try.prog.info? 52).map (fun i => (i.zero, i.size, i.bytes)) = some (some (.agg #[.bool false, .int .i64 0]), 2, 16) := by kernel_rfl

/-- Steps as cells. -/
def stv : List (Bool × Nat) → List Value
  | [] => []
  | (b, s) :: r => .bool b :: .int .i64 (s : Int) :: stv r

theorem stv_append (l m : List (Bool × Nat)) : stv (l ++ m) = stv l ++ stv m := by
  induction l with
  | nil => rfl
  | cons x l ih => obtain ⟨b, s⟩ := x; rw [List.cons_append, stv, stv, ih]; rfl

theorem stv_length (l : List (Bool × Nat)) : (stv l).length = 2 * l.length := by
  induction l with
  | nil => rfl
  | cons x l ih => obtain ⟨b, s⟩ := x; rw [stv, List.length_cons, List.length_cons, ih, List.length_cons]; omega

theorem sib_xor (i : Nat) (hi : i ≤ 1000) : bits .xor .i64 (i : Int) 1 = (Tr.sib i : Int) := by
  have := i64_xor_nat i 1 (by omega) (by omega)
  rw [show ((1 : Nat) : Int) = 1 from rfl] at this
  rw [this, Tr.sib_eq]

theorem own_weaken {w : World} {b b' : Nat} {e : TypeId} {size n : Nat} {v : Value} {xs : List Value} (h : w.ownsRow b e size v n xs) (hb : b' ≤ b) : w.ownsRow b' e size v n xs := by
  refine ⟨h.1, ?_⟩
  rcases h.2 with h2 | ⟨g, cap, cur, hv, hg, r⟩
  · exact Or.inl h2
  · exact Or.inr ⟨g, cap, cur, hv, Nat.le_trans hb hg, r⟩

theorem cell_two_new (w : World) (T : TypeId) (x y : Value) : ∀ j u, [x, y][j]? = some u → (w.alloc (.cells #[x, y] T)).cell? ((⟨w.heap.size, 0, none⟩ : Addr).add j) = some u := by
  intro j u h
  rw [addr_addT]
  rcases j with _ | _ | j
  · rw [← h]; exact cell_new w (k := 0) rfl
  · rw [← h]; exact cell_new w (k := 1) rfl
  · simp at h

set_option maxRecDepth 100000 in
set_option maxHeartbeats 4000000 in
theorem Proof_ok (a : Option Addr) (n cap i : Nat) (ss : List ByteArray) (w : World) (h1 : 1 ≤ n) (hn : n ≤ 32) (hi : i < n) (hT : TextsAt w a n ss) (hsz : ∀ i, i < n → (ss.getD i ByteArray.empty).size ≤ 64) :
    Calls Try.prog 12 #[.slice a n cap, .int .i64 i] w fun e w' => ∃ v, e = .returned (.tuple #[v, .int .i64 0]) ∧
      w'.ownsRow w.heap.size 52 2 v (Tr.proof (lvs ss n) i).length (stv (Tr.proof (lvs ss n) i)) ∧ Below w.heap.size w w' := by
  obtain ⟨i0, hi0, hz0, hz1, hz2⟩ := info_parts Try.infoStep
  have C1 := TCheck_any a n cap ss w (by unfold maxLen; omega) hT
  have hc : chk ss n = 0 := by unfold chk; rw [if_neg (by omega), if_neg (by rw [big_false.2 hsz]; simp; omega)]
  rw [hc] at C1
  have LV := Levels_any a n cap ss w h1 hn hT hsz
  have hne : lvs ss n ≠ [] := by intro h; have := lvs_length ss n; rw [h] at this; simp at this; omega
  have hlen32 := Tr.levels_len (lvs ss n) hne
  rw [lvs_length] at hlen32
  unfold Tr.proof
  generalize Tr.levels (lvs ss n) = ls at *
  obtain ⟨N, hN⟩ : ∃ N, ls.length = N := ⟨_, rfl⟩
  rw [hN] at LV hlen32
  have HN := Lib.hid hN
  have e1 : decide ((i : Int) < 0) = false := decide_eq_false (by omega)
  have e2 : decide ((n : Int) ≤ (i : Int)) = false := decide_eq_false (by omega)
  clear hc hne hT hsz hN
  go_enter Try.func12, Try.ntmps12
  go_wp2_with fail
  with_reducible refine C1.mono ?_
  rintro e w' ⟨rfl, rfl⟩
  go_wp2_with fail
  with_reducible refine LV.mono ?_
  rintro e w1 ⟨g, c, vs, rfl, hown, hlev, hb⟩
  obtain ⟨hgb, hgw⟩ := own_block hown
  have HLV := Lib.hid hlev; have HO := Lib.hid hown; have HB := Lib.hid hb
  have hbs := hb.size
  clear hlev hown hb LV C1
  go_wp2_with fail
  go_loopw [1, 7, 27] (fun p v j wr => ∃ (k q : Nat) (st : List (Bool × Nat)), k ≤ N ∧ j = .int .i64 k ∧ p = .int .i64 q ∧ q ≤ 1000 ∧ st.length ≤ k ∧ Hid (st ++ Tr.stepsF (ls.drop k) q = Tr.stepsF ls i) ∧ wr.ownsRow w1.heap.size 52 2 v st.length (stv st) ∧ Hid (Below w1.heap.size w1 wr))
    (fun _ _ j _ => N - (intOf j).toNat)
  case atStart => exact ⟨0, i, [], by omega, rfl, rfl, by omega, by decide, Lib.hid rfl, World.ownsRow_nil _ _ _ _, Lib.hid (Below.refl _ _)⟩
  case round =>
    rename_i v7
    obtain ⟨k, q, st, hk, rfl, rfl, hq, hst, hS, hown, hB⟩ := hrel
    by_cases hlt : k < N
    · have hkl : k < ls.length := by rw [HN.out]; exact hlt
      obtain ⟨u, hu, gc, cc, rfl, hrow, -⟩ := HLV.out k ls[k] (List.getElem?_eq_getElem hkl)
      have hcell1 : w1.cell? ⟨g, k, none⟩ = some (.slice (some ⟨gc, 0, none⟩) (ls[k]).length cc) := by rw [HO.out.cellAt k (by omega)]; exact hu
      have hcell : wr.cell? ⟨g, k, none⟩ = some (.slice (some ⟨gc, 0, none⟩) (ls[k]).length cc) := by rw [hB.out.cell (p := ⟨g, k, none⟩) hgw]; exact hcell1
      have hx := sib_xor q hq
      have hsib := Tr.sib_le q
      have hdrop : ls.drop k = ls[k] :: ls.drop (k + 1) := List.drop_eq_getElem_cons hkl
      have hrr : ∀ j, j < (ls[k]).length → wr.cell? ⟨gc, j, none⟩ = some (.int .i64 ((ls[k]).getD j 0 : Int)) := by
        intro j hj
        rw [hB.out.cell (p := ⟨gc, j, none⟩) hrow.1, hrow.2 j hj]
        simp [List.getD, hj]
      have HSS : Hid (st ++ Tr.stepsF (ls[k] :: ls.drop (k + 1)) q = Tr.stepsF ls i) := Lib.hid (by rw [← hdrop]; exact hS.out)
      generalize ls[k] = L at *
      obtain ⟨R, hR⟩ : ∃ R, R = ls.drop (k + 1) := ⟨_, rfl⟩
      rw [← hR] at HSS
      have HRR := Lib.hid hR
      clear hR
      obtain ⟨q', hq'⟩ : ∃ q', q' = q / 2 := ⟨_, rfl⟩
      have hq2 : (q : Int) / 2 = (q' : Int) := by omega
      have hq3 : Int.tdiv (q : Int) 2 = (q' : Int) := by rw [Int.tdiv_eq_ediv_of_nonneg (by omega)]; exact hq2
      have hq4 : q' ≤ 1000 := by omega
      have HQ' := Lib.hid hq'
      clear hq'
      obtain ⟨s, hs⟩ : ∃ s, s = Tr.sib q := ⟨_, rfl⟩
      rw [← hs] at hx hsib
      have HSB := Lib.hid hs
      clear hs hu hcell1 hdrop hrow hS
      by_cases hin : s < L.length
      · have hcs := hrr s hin
        have hst2 := Tr.steps_in (l := L) (r := R) (i := q) (by rw [← HSB.out]; exact hin)
        rw [← HSB.out] at hst2
        generalize L.getD s 0 = z at *
        obtain ⟨d, hd⟩ : ∃ d, decide (s < q) = d := ⟨_, rfl⟩
        have hd' : decide ((s : Int) < (q : Int)) = d := by rw [← hd, decide_eq_decide]; omega
        rw [hd] at hst2
        have HN2 : Hid ((st ++ [(d, z)]) ++ Tr.stepsF R (q / 2) = Tr.stepsF ls i) := Lib.hid (by rw [← HSS.out, hst2, List.append_assoc]; rfl)
        have hbsz := hB.out.size
        have hb1 : st.length + 1 ≤ maxLen := by unfold maxLen; omega
        have hb2 : (st.length + 1) * 16 ≤ 140737488355328 := by omega
        have hb3 : w1.heap.size ≤ (wr.alloc (.cells #[.bool d, .int .i64 (z : Int)] 52)).heap.size := by rw [World.size_alloc]; omega
        have hbase := row_base hown
        have H2 := Lib.hid (hown.alloc (.cells #[.bool d, .int .i64 (z : Int)] 52))
        have H3 := Lib.hid (cell_two_new wr 52 (.bool d) (.int .i64 (z : Int)))
        have H4 : Hid (∀ x ∈ [Value.bool d, Value.int .i64 (z : Int)], x.oneCell' = true) := Lib.hid (by intro x hx; simp at hx; rcases hx with rfl | rfl <;> rfl)
        clear hst2 hrr HSS
        go_wp2_with (at_builtin; refine wpList_append_lies _ rfl _ _ _ rfl w1.heap.size 52 i0 (.agg #[.bool false, .int .i64 0]) 2 16 Try.underlying37 hi0 hz0 hz1 hz2 rfl (by decide) u7 st.length _ rfl H2.out ⟨wr.heap.size, 0, none⟩ 1 1 [.bool d, .int .i64 (z : Int)] rfl rfl H3.out H4.out (by decide) hb1 hb2 hb3 _ rfl ?_)
        intro g' cap' wq q1 q2 q3 q4
        have HB' : Hid (Below w1.heap.size w1 wq) := Lib.hid ((hB.out.alloc hbsz _).grown q2 hb3 hbase)
        have HL : (st ++ [(d, z)]).length = st.length + 1 := by rw [List.length_append, List.length_singleton]
        have HRW : wq.ownsRow w1.heap.size 52 2 (.slice (some ⟨g', 0, none⟩) (st.length + 1) cap') (st ++ [(d, z)]).length (stv (st ++ [(d, z)])) := by rw [HL, stv_append]; exact q1
        clear q1 q2 q3 q4 H2 H3 H4 hb3 hbase hown hB
        go_wp2_with fail
        go_round
        case rel => exact ⟨k + 1, q', st ++ [(d, z)], hlt, by go_num, rfl, hq4, by omega, Lib.hid (by rw [← HRR.out, HQ'.out]; exact HN2.out), HRW, HB'⟩
        case measure => simp [intOf]; omega
      · have hst2 := Tr.steps_out (l := L) (r := R) (i := q) (by rw [← HSB.out]; exact hin)
        have HN2 : Hid (st ++ Tr.stepsF R (q / 2) = Tr.stepsF ls i) := Lib.hid (by rw [← HSS.out, hst2])
        clear hst2 hrr HSS
        go_wp2_with fail
        go_round
        case rel => exact ⟨k + 1, q', st, hlt, by go_num, rfl, hq4, by omega, Lib.hid (by rw [← HRR.out, HQ'.out]; exact HN2.out), hown, hB⟩
        case measure => simp [intOf]; omega
    · obtain rfl : k = N := by omega
      have hfin : Hid (st = Tr.stepsF ls i) := Lib.hid (by have h := hS.out; rw [List.drop_of_length_le (by rw [HN.out]; exact Nat.le_refl _)] at h; rw [← h, Tr.stepsF, List.append_nil])
      have HBB : Hid (Below w.heap.size w wr) := Lib.hid (HB.out.trans (hB.out.mono hbs))
      go_wp2_with fail
      go_ret2
      exact ⟨_, rfl, by rw [← hfin.out]; exact own_weaken hown hbs, HBB.out⟩

end Go.Proofs.Ytnbdceigenndfaa
