/- PrimeUnique: of the product of some primes just these are the factors; for every input; what was there stands below. -/
import Derived.Test.YtabhlmbhfbpceaaFactW
import Derived.Test.YtabhlmbhfbpceaaEqW
import Derived.Test.YtabhlmbhfbpceaaShut
import Derived.Sort.OwnSortedInts
namespace Go.Proofs.Ytabhlmbhfbpceaa
open Go.RowKit Go.Sort

namespace G
/-- Each factor makes the product one bit longer, or more. -/
theorem prod_len {l : List Nat} (h : ∀ p, p ∈ l → Irr p) : prod l ≠ 0 ∧ l.length + 1 ≤ L (prod l) := by
  induction l with
  | nil => exact ⟨by decide, by decide +kernel⟩
  | cons x l ih =>
    have hx := h x (List.mem_cons_self ..)
    obtain ⟨h0, h1⟩ := ih (fun p hp => h p (List.mem_cons_of_mem _ hp))
    have e : prod (x :: l) = mul x (prod l) := by rw [show x :: l = [x] ++ l from rfl, prod_append, prod_one]
    have h2 := L_mul x (prod l) hx.ne_zero h0
    have h3 := hx.L
    rw [e, List.length_cons]
    exact ⟨mul_ne_zero hx.ne_zero h0, by omega⟩

/-- Sorted: the factors of the product. -/
theorem Fin.of_sorted {l : List Nat} (h : ∀ p, p ∈ l → Irr p) : Fin (G.prod l) (l.mergeSort fun x y => decide (x ≤ y)) where
  prod := (prod_perm (List.mergeSort_perm l _))
  irr := fun p hp => h p ((List.mergeSort_perm l _).mem_iff.1 hp)
  sorted := by
    have := List.pairwise_mergeSort (le := fun (x y : Nat) => decide (x ≤ y)) (fun a b c h1 h2 => decide_eq_true (Nat.le_trans (of_decide_eq_true h1) (of_decide_eq_true h2)))
      (fun a b => by rw [Bool.or_eq_true, decide_eq_true_eq, decide_eq_true_eq]; exact Nat.le_total a b) l
    exact this.imp (fun h => of_decide_eq_true h)
end G

theorem fin21 : G.Fin 21 [7, 7] where
  prod := by decide +kernel
  irr := fun p hp => (G.irrB_iff p).1 (by
    rcases List.mem_cons.1 hp with rfl | hp
    · decide +kernel
    · rw [List.mem_singleton.1 hp]; decide +kernel)
  sorted := by decide

theorem sort_cast (l : List Nat) : (l.map (fun (n : Nat) => (n : Int))).mergeSort (fun x y => decide (x ≤ y)) = (l.mergeSort fun x y => decide (x ≤ y)).map (fun (n : Nat) => (n : Int)) := by
  rw [List.map_mergeSort]
  intro a _ b _
  simp

/-- A row of the call's own stands behind whatever turns nothing that was there. -/
theorem own_keep {w w' : World} {base : Nat} {e : TypeId} {size : Nat} {v : Value} {n : Nat} {xs : List Value} (h : w.ownsRow base e size v n xs) (hb : Below w.heap.size w w') : w'.ownsRow base e size v n xs := by
  refine ⟨h.1, ?_⟩
  rcases h.2 with h2 | ⟨g, cap, cur, hv, hg, hh, r⟩
  · exact Or.inl h2
  · refine Or.inr ⟨g, cap, cur, hv, hg, ?_, r⟩
    have hlt : g < w.heap.size := by
      rcases Nat.lt_or_ge g w.heap.size with h | h
      · exact h
      · rw [Array.getElem?_eq_none h] at hh; cases hh
    rw [hb.block g hlt]
    exact hh

/-- Sorted, whatever the row. -/
theorem sort_owned {w wr : World} {base cap0 : Nat} {a : Option Addr} {n : Nat} {l : List Nat} (hn : l.length = n) (hown : wr.ownsRow base 3 1 (.slice a n cap0) n (iv l)) (hB : Below base w wr) (hbs : base ≤ wr.heap.size) (hl : n ≤ 1000) :
    Calls Try.prog 9 #[.slice a n cap0] wr fun e w' => e = .returned (.tuple #[]) ∧ w'.ownsRow base 3 1 (.slice a n cap0) n (iv (l.mergeSort fun x y => decide (x ≤ y))) ∧ Below base w w' := by
  rcases hown.2 with ⟨h0, hz⟩ | ⟨g, cap, cur, hv, hg, hh, h1, h2, h3, h4⟩
  · cases h0
    have : l = [] := List.length_eq_zero_iff.1 (by omega)
    subst this
    refine (Try.slices_Sort_int_none none 0 wr).mono ?_
    rintro e w' ⟨rfl, rfl⟩
    exact ⟨rfl, by rw [List.mergeSort_nil]; exact hown, hB⟩
  · cases hv
    subst hn
    have hg' : g < wr.heap.size := by
      rcases Nat.lt_or_ge g wr.heap.size with h | h
      · exact h
      · rw [Array.getElem?_eq_none h] at hh; cases hh
    have hml : (l.map (fun (n : Nat) => (n : Int))).length = l.length := by simp
    have hiv : iv l = (l.map (fun (n : Nat) => (n : Int))).map (Value.int .i64) := by unfold iv; rw [List.map_map]; rfl
    have hH := holds_of_blockI (ss := l.map (fun (n : Nat) => (n : Int))) hh (by rw [hml, ← hiv]; rw [Nat.mul_one] at h4; exact h4)
    have h := Try.slices_Sort_int g 0 cap0 (l.map (fun (n : Nat) => (n : Int))) wr hH hg' (by rw [hml]; omega)
    rw [hml] at h
    refine h.mono ?_
    rintro e w' ⟨rfl, n, os, rfl⟩
    have hlen : ((l.map (fun (n : Nat) => (n : Int))).mergeSort fun x y => decide (x ≤ y)).length = (l.map (fun (n : Nat) => (n : Int))).length := List.length_mergeSort _
    have ho := ownsRow_sortedI (n := n) (os := os) (base := base) (cap := cap0) hlen hg hh (by rw [hml]; exact h1) h2 h3
    rw [hml, sort_cast, List.map_map] at ho
    refine ⟨rfl, ?_, ?_⟩
    · rw [sort_cast]; unfold iv; exact ho
    · exact hB.grown (grownBy_sortedI _) hbs (fun k hk => by cases hk; exact hg)

/-- Two rows that hold the same numbers are equal. -/
theorem equal_owned {w : World} {b1 b2 c1 c2 : Nat} {a1 a2 : Option Addr} {n m : Nat} {l : List Nat} (hn : l.length = n) (hm : l.length = m) (h1 : w.ownsRow b1 3 1 (.slice a1 n c1) n (iv l)) (h2 : w.ownsRow b2 3 1 (.slice a2 m c2) m (iv l)) (hl : n ≤ 1000) :
    Calls Try.prog 5 #[.slice a1 n c1, .slice a2 m c2] w fun e w' => e = .returned (.bool true) ∧ ∃ q, w' = w.drewN q := by
  subst hn; subst hm
  by_cases h0 : l.length = 0
  · rw [h0]
    refine (Try.slices_Equal_int_empty a1 a2 c1 0 c2 w (by omega)).mono ?_
    rintro e w' ⟨rfl, rfl⟩
    exact ⟨rfl, 0, rfl⟩
  · rcases h1.2 with ⟨-, hz⟩ | ⟨g1, cap1, cur1, hv1, -⟩
    · exact absurd hz h0
    rcases h2.2 with ⟨-, hz⟩ | ⟨g2, cap2, cur2, hv2, -⟩
    · exact absurd hz h0
    cases hv1; cases hv2
    exact Equal_same g1 g2 c1 c2 l w hl (iv_cells h1 rfl) (iv_cells h2 rfl)

theorem own_new (w : World) (T : TypeId) (l : List Nat) (vs : Array Value) (n : Nat) (hn : l.length = n) (hv : vs.toList = iv l) (hm : n ≤ maxLen) : (w.alloc (.cells vs T)).ownsRow w.heap.size T 1 (.slice (some ⟨w.heap.size, 0, none⟩) n n) n (iv l) := by
  have hs : vs.size = n := by rw [← Array.length_toList, hv, iv_length, hn]
  refine ⟨by rw [iv_length, hn, Nat.mul_one], Or.inr ⟨_, n, vs, rfl, Nat.le_refl _, ?_, Nat.le_refl _, hm, by rw [hs, Nat.mul_one], ?_⟩⟩
  · show (w.heap.push _)[w.heap.size]? = _
    rw [Array.getElem?_push, if_pos rfl]
  · rw [hv, List.take_of_length_le (by rw [iv_length]; omega)]

/-- A round's numbers. -/
def UniRound (z : Int) (p : Nat) : Prop :=
  ∃ x f : Nat, x < 64 ∧ Ans1 7 #[.int .i64 z, .int .i64 6] (.int .i64 x) ∧ Ans2 6 #[.int .i64 (2 + (x : Int))] (.int .i64 f) (.int .i64 0) ∧ G.Irr f ∧ f ≤ 2147483647 ∧
    (G.mul p f ≤ 2147483647 ∧ Ans2 8 #[.int .i64 p, .int .i64 f] (.int .i64 (G.mul p f)) (.int .i64 0) ∨ Ans2 8 #[.int .i64 p, .int .i64 f] (.int .i64 0) (.int .i64 2))

theorem uniRound (z : Int) {p : Nat} (hp : p ≤ 2147483647) : UniRound z p := by
  have hx : wi z (2 ^ 6) < 64 := wi_lt z (2 ^ 6) (by decide)
  obtain ⟨f, h1, h2, h3, h4, h5⟩ := next_ex (2 + wi z (2 ^ 6)) (by omega)
  refine ⟨wi z (2 ^ 6), f, hx, less_is (n := 6) (N := 6) rfl (by omega) rfl, by rw [cast2]; exact h5, h1, by omega, ?_⟩
  by_cases hm : G.mul p f ≤ 2147483647
  · exact Or.inl ⟨hm, Mul_is hp (by omega) rfl hm⟩
  · exact Or.inr (fun w => Mul_large p f w hp (by omega) (by omega))

theorem fact_use (m : Nat) (h0 : m ≠ 0) (hm : m ≤ 2147483647) {l : List Nat} (hf : G.Fin m l) (w : World) : Calls Try.prog 4 #[.int .i64 m] w fun e w' => ∃ a c, e = .returned (.tuple #[.slice a l.length c, .int .i64 0]) ∧
      w'.ownsRow w.heap.size 3 1 (.slice a l.length c) l.length (iv l) ∧ Below w.heap.size w w' := by
  refine (Factors_ok m w h0 hm).mono ?_
  rintro e w' ⟨v, l', rfl, hf', -, hown, hb⟩
  obtain rfl := hf'.unique hf
  rcases hown.2 with ⟨rfl, hz⟩ | ⟨g, cap, cur, rfl, -⟩
  · exact ⟨none, 0, by rw [hz], by rw [hz] at hown ⊢; exact hown, hb⟩
  · exact ⟨_, cap, rfl, hown, hb⟩

set_option maxRecDepth 100000 in
set_option maxHeartbeats 4000000 in
theorem primeUnique_core (a : Option Addr) (n cap : Nat) (zs : List Int) (w : World) (hn : n ≤ maxLen) (hx : n ≠ 0 → ∃ x, a = some x ∧ ∀ i, i < n → w.cell? (x.add i) = some (.int .i64 (zs.getD i 0))) :
    Calls Try.prog 3 #[.slice a n cap] w fun e w' => e = .returned (.bool true) ∧ Below w.heap.size w w' := by
  obtain ⟨i0, hi, hz0, hz1, hz2⟩ := info_parts Try.infoInt
  have F1 : ∀ w : World, Calls Try.prog 4 #[.int .i64 21] w fun e w' => ∃ a c, e = .returned (.tuple #[.slice a 2 c, .int .i64 0]) ∧
      w'.ownsRow w.heap.size 3 1 (.slice a 2 c) 2 (iv [7, 7]) ∧ Below w.heap.size w w' := fun w => fact_use 21 (by omega) (by omega) fin21 w
  unfold maxLen at hn
  go_enter Try.func3, Try.ntmps3
  go_wp2_with fail
  with_reducible refine (F1 _).mono ?_
  rintro e w1 ⟨a1, c1, rfl, hown1, hb1⟩
  have HB1 := Lib.hid (hb1.alloc hb1.size (.cells #[.int .i64 7, .int .i64 7] 3))
  have E1 := equal_owned (w := w1.alloc (.cells #[.int .i64 7, .int .i64 7] 3)) (n := 2) (m := 2) rfl rfl (own_keep hown1 ((Below.refl _ w1).alloc (Nat.le_refl _) _)) (own_new w1 3 [7, 7] #[.int .i64 7, .int .i64 7] 2 rfl rfl (by unfold maxLen; omega)) (by omega)
  clear hown1 hb1 F1
  go_wp2_with fail
  with_reducible refine E1.mono ?_
  rintro e w2 ⟨rfl, z, hz⟩
  have HB2 : Hid (Below w.heap.size w w2) := Lib.hid (by have h := HB1.out; rw [hz]; exact ⟨h.os, h.tape, h.output, h.size, h.block⟩)
  clear hz HB1 E1
  go_wp2_with fail
  go_loopw [5, 6, 28] (fun v p i wr => ∃ (k : Nat) (l : List Nat) (a5 : Option Addr) (c5 : Nat), k ≤ n ∧ v = .slice a5 l.length c5 ∧ i = .int .i64 k ∧ p = .int .i64 (G.prod l) ∧ Hid (∀ q, q ∈ l → G.Irr q) ∧ G.prod l ≤ 2147483647 ∧ wr.ownsRow w.heap.size 3 1 (.slice a5 l.length c5) l.length (iv l) ∧ Hid (Below w.heap.size w wr))
    (fun _ _ i _ => n - (intOf i).toNat)
  case atStart => exact ⟨0, [], none, 0, Nat.zero_le _, rfl, rfl, rfl, Lib.hid (by simp), by decide, World.ownsRow_nil _ _ _ _, HB2⟩
  case round =>
    obtain ⟨k, l, a5, c5, hk, rfl, rfl, rfl, hI, hpb, hown, hB⟩ := hrel
    have hlen := (G.prod_len hI.out).2
    have hL31 : G.L (G.prod l) ≤ 31 := G.L_le.2 (by omega)
    have hl30 : l.length ≤ 30 := by omega
    have hp0 := (G.prod_len hI.out).1
    have hFin := G.Fin.of_sorted hI.out
    have hsl : (l.mergeSort fun x y => decide (x ≤ y)).length = l.length := List.length_mergeSort _
    have SO := sort_owned rfl hown hB.out hB.out.size (by omega)
    have FU := Lib.hid (fact_use (G.prod l) hp0 hpb hFin)
    have HSL := Lib.hid hsl; have HBS := Lib.hid hB.out.size
    clear hsl hFin hlen hL31 hp0
    by_cases hlt : k < n
    · obtain ⟨x, rfl, hcell⟩ := hx (by omega)
      have hc : wr.cell? (x.add k) = some (.int .i64 (zs.getD k 0)) := by
        have h := hcell k hlt
        rw [hB.out.cell (World.block_lt_of_cell? w (x.add k) h)]
        exact h
      obtain ⟨y, f, hy, hless, hnext, hirr, hf, hm⟩ := uniRound (zs.getD k 0) hpb
      generalize zs.getD k 0 = z at *
      rcases hm with ⟨hmb, hmul⟩ | hmul
      · have hI' : Hid (∀ q, q ∈ l ++ [f] → G.Irr q) := Lib.hid fun q hq => by
          rcases List.mem_append.1 hq with h | h
          · exact hI.out q h
          · rw [List.mem_singleton.1 h]; exact hirr
        have hP : Hid (G.prod (l ++ [f]) = G.mul (G.prod l) f) := Lib.hid (by rw [G.prod_append, G.prod_one])
        have hown2 : (wr.alloc (.cells #[.int .i64 (f : Int)] 3)).ownsRow w.heap.size 3 1 (.slice a5 l.length c5) l.length (iv l) := hown.alloc _
        have hcell2 : ∀ j x, [Value.int .i64 (f : Int)][j]? = some x → (wr.alloc (.cells #[.int .i64 (f : Int)] 3)).cell? ((⟨wr.heap.size, 0, none⟩ : Addr).add j) = some x := fun j x h => cell_one_new wr (.int .i64 (f : Int)) 3 j x h
        have hone : ∀ x ∈ [Value.int .i64 (f : Int)], x.oneCell' = true := by intro x hx; simp at hx; subst hx; rfl
        have hb1 : l.length + 1 ≤ maxLen := by unfold maxLen; omega
        have hb2 : (l.length + 1) * 8 ≤ 140737488355328 := by omega
        have hb3 : w.heap.size ≤ (wr.alloc (.cells #[.int .i64 (f : Int)] 3)).heap.size := by rw [World.size_alloc]; have := HBS.out; omega
        have hbase := row_base hown
        have H2 := Lib.hid hown2; have H3 := Lib.hid hcell2; have H4 := Lib.hid hone
        clear hown2 hcell2 hone SO FU hirr
        generalize G.mul (G.prod l) f = pf at *
        generalize G.prod l = p at *
        go_wp2_with (first
            | (go_at_call 7; with_reducible refine Ans1.use hless ?_; rintro e w' ⟨rfl, rfl⟩)
            | (go_at_call 6; with_reducible refine Ans2.use hnext ?_; rintro e w' ⟨rfl, rfl⟩)
            | (go_at_call 8; with_reducible refine Ans2.use hmul ?_; rintro e w' ⟨rfl, rfl⟩)
            | (at_builtin; refine wpList_append_lies _ rfl _ _ _ rfl w.heap.size 3 i0 (.int .i64 0) 1 8 Try.underlying22 hi hz0 hz1 hz2 rfl (by decide) (.slice a5 l.length c5) l.length _ rfl H2.out ⟨wr.heap.size, 0, none⟩ 1 1 [.int .i64 (f : Int)] rfl rfl H3.out H4.out (by decide) hb1 hb2 hb3 _ rfl ?_))
        intro g cap' wq q1 q2 q3 q4
        have HB' : Hid (Below w.heap.size w wq) := Lib.hid ((hB.out.alloc HBS.out _).grown q2 hb3 hbase)
        have HR : wq.ownsRow w.heap.size 3 1 (.slice (some ⟨g, 0, none⟩) (l ++ [f]).length cap') (l ++ [f]).length (iv (l ++ [f])) := by
          rw [iv_snoc, List.length_append, List.length_singleton]; exact q1
        have HL : (l ++ [f]).length = l.length + 1 := by rw [List.length_append, List.length_singleton]
        clear q1 q2 q3 q4 H2 H3 H4 hb3 hbase hown hB
        go_wp2_with fail
        go_round
        case rel => exact ⟨k + 1, l ++ [f], some ⟨g, 0, none⟩, cap', hlt, by rw [HL], by go_num, by rw [hP.out], hI', by rw [hP.out]; exact hmb, HR, HB'⟩
        case measure => simp [intOf]; omega
      · generalize hpp : G.prod l = p at *
        go_wp2_with (first
            | (go_at_call 7; with_reducible refine Ans1.use hless ?_; rintro e w' ⟨rfl, rfl⟩)
            | (go_at_call 6; with_reducible refine Ans2.use hnext ?_; rintro e w' ⟨rfl, rfl⟩)
            | (go_at_call 8; with_reducible refine Ans2.use hmul ?_; rintro e w' ⟨rfl, rfl⟩))
        with_reducible refine SO.mono ?_
        rintro e w3 ⟨rfl, hown3, hB3⟩
        have HB3 := Lib.hid hB3
        clear hB3 SO
        go_wp2_with fail
        with_reducible refine (FU.out _).mono ?_
        rintro e w4 ⟨a4, c4, rfl, hown4, hb4⟩
        rw [HSL.out] at hown4
        have hown5 := own_keep hown3 hb4
        have HB4 := Lib.hid (HB3.out.trans (hb4.mono HB3.out.size))
        have E4 := equal_owned (w := w4) (n := l.length) (m := l.length) HSL.out HSL.out hown4 hown5 (by omega)
        rw [HSL.out]
        clear hown4 hown5 hown3 hb4
        go_wp2_with fail
        with_reducible refine E4.mono ?_
        rintro e w5 ⟨rfl, q, hq⟩
        go_wp2_with fail
        go_ret
        exact ⟨rfl, ⟨HB4.out.os, HB4.out.tape, HB4.out.output, HB4.out.size, HB4.out.block⟩⟩
    · obtain rfl : k = n := by omega
      generalize hpp : G.prod l = p at *
      go_wp2_with fail
      with_reducible refine SO.mono ?_
      rintro e w3 ⟨rfl, hown3, hB3⟩
      have HB3 := Lib.hid hB3
      clear hB3 SO
      go_wp2_with fail
      with_reducible refine (FU.out _).mono ?_
      rintro e w4 ⟨a4, c4, rfl, hown4, hb4⟩
      rw [HSL.out] at hown4
      have hown5 := own_keep hown3 hb4
      have HB4 := Lib.hid (HB3.out.trans (hb4.mono HB3.out.size))
      have E4 := equal_owned (w := w4) (n := l.length) (m := l.length) HSL.out HSL.out hown4 hown5 (by omega)
      rw [HSL.out]
      clear hown4 hown5 hown3 hb4
      go_wp2_with fail
      with_reducible refine E4.mono ?_
      rintro e w5 ⟨rfl, q, hq⟩
      go_wp2_with fail
      go_ret
      exact ⟨rfl, ⟨HB4.out.os, HB4.out.tape, HB4.out.output, HB4.out.size, HB4.out.block⟩⟩

theorem primeUnique_walk (a0 : Option Addr) (len0 cap0 : Nat) (z0 : List Int) (w : World)
    (w0 : (a0 = none ∧ len0 = 0 ∧ cap0 = 0 ∧ z0 = []) ∨ ∃ x, a0 = some x ∧ len0 ≤ cap0 ∧ cap0 ≤ maxLen ∧ z0.length = cap0 ∧ (∀ i, i < z0.length → w.cell? (x.add i) = some (.int .i64 (z0.getD i 0))) ∧ ∀ n ∈ z0, (Lit.int .i64 n).wf = true) :
    Calls Try.prog 3 #[.slice a0 len0 cap0] w fun e w' => e = .returned (.bool true) ∧ Below w.heap.size w w' := by
  rcases w0 with ⟨rfl, rfl, rfl, rfl⟩ | ⟨x, rfl, h1, h2, h3, h4, -⟩
  · exact primeUnique_core none 0 0 [] w (Nat.zero_le _) (fun h => absurd rfl h)
  · exact primeUnique_core (some x) len0 cap0 z0 w (Nat.le_trans h1 h2) (fun _ => ⟨x, rfl, fun i hi => h4 i (by omega)⟩)

end Go.Proofs.Ytabhlmbhfbpceaa
