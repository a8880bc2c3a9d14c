/- PrimeFactors: each is the product of primes, rising; for every input; what was there stands below. -/
import Derived.Test.YtabdchehbgchcaaSlicesW
import Derived.Test.YtabdchehbgchcaaShut
namespace Go.Proofs.Ytabdchehbgchcaa
open Go.RowKit

/-- A round of the loop over the factors. -/
def FacRound (W : World) (g : Nat) (l : List Nat) (k : Nat) : Prop :=
  ∃ f p : Nat, f ≤ 2147483647 ∧ p ≤ 2147483647 ∧ W.cell? ⟨g, k, none⟩ = some (.int .i64 (f : Int)) ∧ Ans2 38 #[.int .i64 f] (.bool true) (.int .i64 0) ∧
    G.prod (l.take (k + 1)) = p ∧ Ans2 26 #[.int .i64 (G.prod (l.take k)), .int .i64 f] (.int .i64 p) (.int .i64 0)

theorem facRound {W : World} {g k m : Nat} {l : List Nat} (hm : m ≤ 2147483647) (hm0 : m ≠ 0) (hF : G.Fin m l) (hk : k < l.length) (hc : W.cell? ⟨g, k, none⟩ = some (.int .i64 (l[k] : Int))) : FacRound W g l k := by
  have hirr := hF.irr l[k] (List.getElem_mem hk)
  have hbd : ∀ j, G.prod (l.take j) ≤ 2147483647 := by
    intro j
    have hd : G.D (G.prod (l.take j)) m := ⟨G.prod (l.drop j), by rw [G.mul_comm, ← G.prod_append, List.take_append_drop, hF.prod]⟩
    have h1 := G.D_L hd hm0
    have h2 : G.L m ≤ 31 := G.L_le.2 (by omega)
    have h3 := G.L_le.1 (Nat.le_trans h1 h2)
    omega
  have hfb : l[k] ≤ 2147483647 := by
    have hd : G.D l[k] m := by rw [← hF.prod]; exact G.D_prod (List.getElem_mem hk)
    have h1 := G.D_L hd hm0
    have h2 : G.L m ≤ 31 := G.L_le.2 (by omega)
    have h3 := G.L_le.1 (Nat.le_trans h1 h2)
    omega
  have hs : G.mul (G.prod (l.take k)) l[k] = G.prod (l.take (k + 1)) := by
    rw [List.take_succ_eq_append_getElem hk, G.prod_append, G.prod_one]
  exact ⟨l[k], _, hfb, hbd (k + 1), hc, Is_is hfb ((G.irrB_iff _).2 hirr), rfl, Mul_is (hbd k) hfb hs (hbd (k + 1))⟩

theorem iv_cells {w : World} {base g n cap : Nat} {e : TypeId} {l : List Nat} (h : w.ownsRow base e 1 (.slice (some ⟨g, 0, none⟩) n cap) n (iv l)) (hn : l.length = n) :
    ∀ j (hj : j < l.length), w.cell? ⟨g, j, none⟩ = some (.int .i64 (l[j] : Int)) := fun j hj => by
  rw [h.cellAt j (by omega)]
  simp [iv, hj]

theorem fin27 : G.Fin 27 [3, 3, 7] where
  prod := by decide +kernel
  irr := fun p hp => (G.irrB_iff p).1 (by
    rcases List.mem_cons.1 hp with rfl | hp
    · decide +kernel
    · rcases List.mem_cons.1 hp with rfl | hp
      · decide +kernel
      · rw [List.mem_singleton.1 hp]; decide +kernel)
  sorted := by decide

set_option maxRecDepth 100000 in
set_option maxHeartbeats 4000000 in
theorem primeFactors_core (a0 : Int) (x : Nat) (w : World) (hx : x < 16777216)
    (hl : Ans1 27 #[.int .i64 a0, .int .i64 24] (.int .i64 x)) :
    Calls Try.prog 23 #[.int .i64 a0] w fun e w' => e = .returned (.bool true) ∧ Below w.heap.size w w' := by
  have F1 : ∀ w, Calls Try.prog 42 #[.int .i64 27] w fun e w' => ∃ (v : Value) (l : List Nat), e = .returned (.tuple #[v, .int .i64 0]) ∧ G.Fin 27 l ∧ l.length ≤ 31 ∧
      w'.ownsRow w.heap.size 3 1 v l.length (iv l) ∧ Below w.heap.size w w' := fun w => Factors_ok 27 w (by omega) (by omega)
  have F2 : ∀ w, Calls Try.prog 42 #[.int .i64 (1 + (x : Int))] w fun e w' => ∃ (v : Value) (l : List Nat), e = .returned (.tuple #[v, .int .i64 0]) ∧ G.Fin (1 + x) l ∧ l.length ≤ 31 ∧
      w'.ownsRow w.heap.size 3 1 v l.length (iv l) ∧ Below w.heap.size w w' := fun w => by
    rw [cast1]; exact Factors_ok (1 + x) w (by omega) (by omega)
  go_enter Try.func23, Try.ntmps23
  go_wp2_with fail
  with_reducible refine (F1 _).mono ?_
  rintro e w1 ⟨v1, l1, rfl, hfin1, -, hown1, hb1⟩
  obtain rfl := hfin1.unique fin27
  clear hfin1
  rcases hown1.2 with ⟨-, hz⟩ | ⟨g1, cap1, cur1, rfl, -, hg1, -⟩
  · simp at hz
  have hc1 := iv_cells (l := [3, 3, 7]) hown1 rfl
  have hg1' : g1 < w1.heap.size := by
    rcases Nat.lt_or_ge g1 w1.heap.size with h | h
    · exact h
    · rw [Array.getElem?_eq_none h] at hg1; cases hg1
  have E1 : Calls Try.prog 43 #[.slice (some ⟨g1, 0, none⟩) 3 cap1, .slice (some ⟨w1.heap.size, 0, none⟩) 3 3] (w1.alloc (.cells #[.int .i64 3, .int .i64 3, .int .i64 7] 3)) fun e w' =>
      e = .returned (.bool true) ∧ ∃ q, w' = (w1.alloc (.cells #[.int .i64 3, .int .i64 3, .int .i64 7] 3)).drewN q := by
    refine Equal_same g1 w1.heap.size cap1 3 [3, 3, 7] _ (by decide) (fun j hj => ?_) (fun j hj => ?_)
    · rw [((Below.refl w1.heap.size w1).alloc (Nat.le_refl _) _).cell hg1']; exact hc1 j hj
    · have hj3 : j < 3 := hj
      rcases j with _ | _ | _ | j
      · exact cell_new w1 (k := 0) rfl
      · exact cell_new w1 (k := 1) rfl
      · exact cell_new w1 (k := 2) rfl
      · omega
  have HB1 : Hid (Below w.heap.size w (w1.alloc (.cells #[.int .i64 3, .int .i64 3, .int .i64 7] 3))) := Lib.hid (hb1.alloc hb1.size _)
  clear hc1 hown1 hg1 hg1' hb1 F1
  go_wp2_with fail
  with_reducible refine E1.mono ?_
  rintro e w2 ⟨rfl, q2, hw2⟩
  have HB2 : Hid (Below w.heap.size w w2) := Lib.hid (by have h := HB1.out; subst hw2; exact ⟨h.os, h.tape, h.output, h.size, h.block⟩)
  clear E1 HB1 hw2
  go_wp2_with fail
  with_reducible refine hl.use ?_
  rintro e w' ⟨rfl, rfl⟩
  go_wp2_with fail
  with_reducible refine (F2 _).mono ?_
  rintro e w3 ⟨v2, l, rfl, hfin, hlen, hown, hb3⟩
  have HB3 : Hid (Below w.heap.size w w3) := Lib.hid (HB2.out.trans (hb3.mono HB2.out.size))
  clear HB2 F2
  have hm0 : 1 + x ≠ 0 := by omega
  obtain ⟨b, hb⟩ : ∃ b, G.irrB (1 + x) = b := ⟨_, rfl⟩
  have I2 : Ans2 38 #[.int .i64 (1 + (x : Int))] (.bool b) (.int .i64 0) := by rw [cast1]; exact Is_is (by omega) hb
  have eL : ((l.length : Int) == 1) = b := by
    rw [← hb]
    by_cases h : G.Irr (1 + x)
    · rw [(G.irrB_iff _).2 h, beq_iff_eq]
      have := hfin.irr_iff.1 h
      omega
    · rw [(G.irrB_false _).2 h, beq_eq_false_iff_ne]
      intro h1
      exact h (hfin.irr_iff.2 (by omega))
  have eP : Hid (G.prod l = 1 + x) := Lib.hid hfin.prod
  rcases hown.2 with ⟨rfl, hz⟩ | ⟨g, cap, cur, rfl, -, hg, -⟩
  · have hx0 : x = 0 := by
      have := eP.out
      rw [List.length_eq_zero_iff.1 hz] at this
      have h1 : (1 : Nat) = 1 + x := this
      omega
    rw [hz] at eL
    subst hx0
    have eb : b = false := by rw [← eL]; rfl
    subst eb
    have I3 : Ans2 38 #[.int .i64 1] (.bool false) (.int .i64 0) := I2
    clear eL hz hown hfin eP hb hm0 I2
    go_wp2_with fail
    with_reducible refine (IsSorted_nil _).mono ?_
    rintro e w4 ⟨rfl, q4, hw4⟩
    have HB4 : Hid (Below w.heap.size w w4) := Lib.hid (by have h := HB3.out; subst hw4; exact ⟨h.os, h.tape, h.output, h.size, h.block⟩)
    clear hw4 HB3 hb3
    go_wp2_with fail
    go_loop [7, 44] (fun p i => p = .int .i64 1 ∧ i = .int .i64 0) (fun _ _ => 0)
    case atStart => exact ⟨rfl, rfl⟩
    case round =>
      obtain ⟨rfl, rfl⟩ := hrel
      go_wp2_with fail
      with_reducible refine I3.use ?_
      rintro e w' ⟨rfl, rfl⟩
      go_wp2_with fail
      go_ret
      exact ⟨rfl, HB4.out⟩
  · have hc := iv_cells hown rfl
    have hpair := hfin.sorted
    have hbd : ∀ y, y ∈ l → y ≤ 2147483647 := by
      intro y hy
      have hd : G.D y (1 + x) := by rw [← eP.out]; exact G.D_prod hy
      have h1 := G.D_L hd hm0
      have h2 : G.L (1 + x) ≤ 31 := G.L_le.2 (by omega)
      have h3 := G.L_le.1 (Nat.le_trans h1 h2)
      omega
    have S1 := IsSorted_ok g cap l w3 (by omega) hpair hbd hc
    have HR : Hid (∀ w4 : World, (∀ a : Addr, w4.cell? a = w3.cell? a) → ∀ k, k < l.length → FacRound w4 g l k) :=
      Lib.hid fun w4 h4 k hk => facRound (by omega) hm0 hfin hk (by rw [h4]; exact hc k hk)
    have eT : Hid (G.prod (l.take l.length) = 1 + x) := Lib.hid (by rw [List.take_length]; exact eP.out)
    obtain ⟨n, hn⟩ : ∃ n, l.length = n := ⟨_, rfl⟩
    rw [hn] at S1 hlen eL HR eT ⊢
    have HN := Lib.hid hn
    clear hn hc hpair hbd hown hfin hg hb hm0 eP
    go_wp2_with fail
    with_reducible refine S1.mono ?_
    rintro e w4 ⟨rfl, q4, hw4⟩
    have HB4 : Hid (Below w.heap.size w w4) := Lib.hid (by have h := HB3.out; subst hw4; exact ⟨h.os, h.tape, h.output, h.size, h.block⟩)
    have HR4 : Hid (∀ k, k < n → FacRound w4 g l k) := Lib.hid (HR.out w4 (by intro a; subst hw4; rfl))
    clear hw4 HB3 hb3 S1 HR
    go_wp2_with fail
    go_loop [7, 44] (fun p i => ∃ k : Nat, k ≤ n ∧ i = .int .i64 k ∧ p = .int .i64 (G.prod (l.take k))) (fun _ i => n - (intOf i).toNat)
    case atStart => exact ⟨0, Nat.zero_le _, rfl, rfl⟩
    case round =>
      obtain ⟨k, hk, rfl, rfl⟩ := hrel
      by_cases hlt : k < n
      · obtain ⟨f, p', hf, hp', hcell, hI, hP, hM⟩ := HR4.out k hlt
        have HP := Lib.hid hP; clear hP
        generalize G.prod (l.take k) = p at *
        go_wp2_with fail
        with_reducible refine hI.use ?_
        rintro e w' ⟨rfl, rfl⟩
        go_wp2_with fail
        with_reducible refine hM.use ?_
        rintro e w' ⟨rfl, rfl⟩
        go_wp2_with fail
        go_round
        case rel => exact ⟨k + 1, hlt, by go_num, by rw [HP.out]⟩
        case measure => simp [intOf]; omega
      · obtain rfl : k = n := by omega
        have eT2 : ((G.prod (l.take k) : Nat) : Int) = 1 + (x : Int) := by rw [eT.out]; omega
        rw [eT2]
        clear eT2 eT
        go_wp2_with fail
        with_reducible refine I2.use ?_
        rintro e w' ⟨rfl, rfl⟩
        go_wp2_with fail
        go_ret
        exact ⟨rfl, HB4.out⟩

theorem primeFactors_walk (a0 : Int) (_ : (Lit.int .i64 a0).wf = true) (w : World) :
    Calls Try.prog 23 #[.int .i64 a0] w fun e w' => e = .returned (.bool true) ∧ Below w.heap.size w w' := by
  have h := wi_lt a0 (2 ^ 24) (by decide)
  exact primeFactors_core a0 _ w h (less_is (n := 24) (N := 24) rfl (by omega) rfl)

end Go.Proofs.Ytabdchehbgchcaa
