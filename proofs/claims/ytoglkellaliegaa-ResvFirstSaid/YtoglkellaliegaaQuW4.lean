/- Walks: queue.Add, queued. -/
import Derived.Test.YtoglkellaliegaaQuW3
import Derived.Deep.RegionLaw
import Derived.Deep.AppendLies
import Derived.Deep.RegionWith
namespace Go.Proofs.Ytoglkellaliegaa
open Go.RowKit

theorem cells_two (w : World) (T : TypeId) (x y : Value) : (w.alloc (.cells #[x, y] T)).cell? ⟨w.heap.size, 0, none⟩ = some x ∧ (w.alloc (.cells #[x, y] T)).cell? ⟨w.heap.size, 1, none⟩ = some y :=
  ⟨cell_new w (k := 0) rfl, cell_new w (k := 1) rfl⟩

/-- It lies behind block B. -/
def Fresh (B : Nat) (a : Option Addr) : Prop := ∀ x, a = some x → B ≤ x.block

theorem fresh_own {w : World} {base n c size : Nat} {e : TypeId} {a : Option Addr} {xs : List Value} (h : w.ownsRow base e size (.slice a n c) n xs) : Fresh base a := by
  intro x hx
  subst hx
  rcases h.2 with ⟨h0, -⟩ | ⟨g, cap, cur, h0, hb, -⟩
  · cases h0
  · cases h0; exact hb

/-- What Add leaves: the tasks in a row of its own. -/
def AddTo (w : World) (ts : List Qu.T) (t : Qu.T) (e : Ending) (w' : World) : Prop := ∃ a c, e = .returned (.tuple #[.slice a (Qu.addA ts t).length c, .int .i64 (Qu.addE ts t : Nat)]) ∧ TSl w' a (Qu.addA ts t).length c (Qu.addA ts t) ∧ Below w.heap.size w w' ∧ w'.ownsRow w.heap.size 24 2 (.slice a (Qu.addA ts t).length c) (Qu.addA ts t).length (tv (Qu.addA ts t))

theorem addTo_err {w w' : World} {ts : List Qu.T} {t : Qu.T} {k : Nat} (hk : Qu.addE ts t = k) (h0 : k ≠ 0) (hb : Below w.heap.size w w') : AddTo w ts t (.returned (.tuple #[.slice none 0 0, .int .i64 (k : Int)])) w' := by
  have e : Qu.addA ts t = [] := by unfold Qu.addA; rw [if_neg (by omega)]
  refine ⟨none, 0, by rw [e, hk]; rfl, ?_, hb, by rw [e]; exact World.ownsRow_nil _ _ _ _⟩
  rw [e]
  exact ⟨fun h => absurd rfl h, rfl, Nat.le_refl _, Nat.zero_le _, fun _ => ⟨rfl, rfl⟩⟩

theorem addTo_own {w w' : World} {base : Nat} (hbase : w.heap.size ≤ base) {ts : List Qu.T} {t : Qu.T} {v : Value} {n : Nat} (hk : Qu.addE ts t = 0) (hown : w'.ownsRow base 24 2 v n (tv (Qu.addL ts t))) (hn : (Qu.addL ts t).length = n) (hb : Below w.heap.size w w') : AddTo w ts t (.returned (.tuple #[v, .int .i64 0])) w' := by
  have e : Qu.addA ts t = Qu.addL ts t := by unfold Qu.addA; rw [if_pos hk]
  obtain ⟨a, c, rfl, h⟩ := tsl_own hown hn
  refine ⟨a, c, by rw [e, hk, hn]; rfl, ?_, hb, by rw [e, hn]; exact own_low hown hbase⟩
  rw [e, hn]
  exact h

/-- What stands while a task is added: all that was there, and the box. -/
structure Box (w W : World) (B : Nat) (x y : Int) : Prop where
  below : Below w.heap.size w W
  lt : B < W.heap.size
  c0 : W.cell? ⟨B, 0, none⟩ = some (.int .i64 x)
  c1 : W.cell? ⟨B, 1, none⟩ = some (.int .i64 y)

theorem Box.drew {w W : World} {B : Nat} {x y : Int} (h : Box w W B x y) : Box w W.drew B x y := ⟨h.below.drew, h.lt, h.c0, h.c1⟩
theorem Box.alloc {w W : World} {B : Nat} {x y : Int} (h : Box w W B x y) (o : Obj) : Box w (W.alloc o) B x y :=
  ⟨h.below.alloc h.below.size o, by rw [World.size_alloc]; have := h.lt; omega, by rw [World.cell?_alloc_past _ _ _ h.lt]; exact h.c0, by rw [World.cell?_alloc_past _ _ _ h.lt]; exact h.c1⟩
theorem Box.on {w W W' : World} {B : Nat} {x y : Int} (h : Box w W B x y) (hb : Below W.heap.size W W') : Box w W' B x y :=
  ⟨h.below.trans (hb.mono h.below.size), Nat.lt_of_lt_of_le h.lt hb.size, by rw [hb.cell (p := ⟨B, 0, none⟩) h.lt]; exact h.c0, by rw [hb.cell (p := ⟨B, 1, none⟩) h.lt]; exact h.c1⟩

theorem box_new (w : World) (T : TypeId) (x y : Int) : Box w (w.alloc (.cells #[.int .i64 x, .int .i64 y] T)) w.heap.size x y :=
  ⟨(Below.refl _ w).alloc (Nat.le_refl _) _, by rw [World.size_alloc]; omega, cell_new w (k := 0) rfl, cell_new w (k := 1) rfl⟩

theorem cells_pair (w : World) (T : TypeId) (x y : Value) : ∀ j u, [x, y][j]? = some u → (w.alloc (.cells #[x, y] T)).cell? ((⟨w.heap.size, 0, none⟩ : Addr).add j) = some u := by
  intro j u hu
  rw [addr_lit, Nat.zero_add]
  match j, hu with
  | 0, hu => obtain rfl : x = u := by simpa using hu
             exact cell_new w (k := 0) rfl
  | 1, hu => obtain rfl : y = u := by simpa using hu
             exact cell_new w (k := 1) rfl
  | j + 2, hu => simp at hu

theorem pair_ones (x y : Int) : ∀ u ∈ [Value.int .i64 x, Value.int .i64 y], u.oneCell' = true := by
  intro u hu
  rcases List.mem_cons.1 hu with rfl | hu
  · rfl
  · rw [List.mem_singleton.1 hu]; rfl

set_option maxRecDepth 100000 in
set_option maxHeartbeats 8000000 in
theorem Add_T (a : Option Addr) (n c : Nat) (ts : List Qu.T) (x y : Int) (w : World) (hG : Qu.Good ts) (hT : TSl w a n c ts) :
    Calls Try.prog 17 #[.slice a n c, .agg #[.int .i64 x, .int .i64 y]] w (AddTo w ts (x, y)) := by
  have hn20 : n ≤ 20 := by rw [← hT.len]; exact hG.len
  have HG := Lib.hid hG; have HT := Lib.hid hT
  have HB0 : ∀ T, Below w.heap.size w (w.alloc (.cells #[.int .i64 x, .int .i64 y] T)) := fun T => (Below.refl _ w).alloc (Nat.le_refl _) _
  have C1 := fun T => Check_T a c n ts (w.alloc (.cells #[.int .i64 x, .int .i64 y] T)) hT.len hT.cap hT.max hG (hT.keep (HB0 T)).at_
  have HB00 := Lib.hid HB0
  clear hG hT HB0
  by_cases h1 : Qu.one (x, y) = true
  · have O1 := fun w => one_is x y true h1 w
    rcases h2 : Qu.has ts x with _ | _
    · have hany : ts.any (Qu.tg x) = false := h2
      have HH := Lib.hid hany
      have CF : ∀ W, Box w W w.heap.size x y → Calls Try.prog 59 #[.slice a n c, .func (.func 60) #[] #[.pointer (some ⟨w.heap.size, 0, none⟩)]] W fun e w' => e = .returned (.bool false) ∧ Below W.heap.size W w' := fun W hW =>
        ContainsFunc_T a c n ts _ _ _ false W (by omega) HT.out.len eg_add (HT.out.keep hW.below).at_ (pred_add W w.heap.size x hW.lt hW.c0) HH.out
      have HCF := Lib.hid CF
      clear CF hany
      by_cases h20 : n = 20
      · have HE : Hid (Qu.addE ts (x, y) = 8) := Lib.hid (by unfold Qu.addE; rw [if_neg (by rw [h1]; decide), if_neg (by rw [h2]; decide), if_pos (by rw [HT.out.len]; exact h20)])
        clear h1 h2
        subst h20
        go_enter Try.func17, Try.ntmps17
        go_wp2_with fail
        with_reducible refine (C1 _).mono ?_
        rintro e w1 ⟨rfl, hb1⟩
        have HX1 := Lib.hid ((box_new w 24 x y).on hb1)
        have cB := HX1.out.c0; have cB1 := HX1.out.c1
        clear hb1 C1
        go_wp2_with fail
        with_reducible refine (O1 _).mono ?_
        rintro e w2 ⟨rfl, hb2⟩
        have HX2 := Lib.hid (HX1.out.on hb2)
        have F1 := HCF.out w2 HX2.out
        clear hb2 cB cB1 O1
        go_wp2_with fail
        with_reducible refine F1.mono ?_
        rintro e w3 ⟨rfl, hb3⟩
        have HX3 := Lib.hid (HX2.out.on hb3)
        clear hb3 F1
        go_wp2_with fail
        go_ret2
        exact addTo_err HE.out (by decide) HX3.out.below
      · have HE : Hid (Qu.addE ts (x, y) = 0) := Lib.hid (by unfold Qu.addE; rw [if_neg (by rw [h1]; decide), if_neg (by rw [h2]; decide), if_neg (by rw [HT.out.len]; exact h20)])
        clear h1 h2
        by_cases hy : y = 2
        · have HLL : Hid (Qu.addL ts (x, y) = [(x, y)] ++ ts) := Lib.hid (by unfold Qu.addL; rw [if_pos hy]; rfl)
          subst hy
          go_enter Try.func17, Try.ntmps17
          go_wp2_with fail
          with_reducible refine (C1 _).mono ?_
          rintro e w1 ⟨rfl, hb1⟩
          have HX1 := Lib.hid ((box_new w 24 x 2).on hb1)
          have cB := HX1.out.c0; have cB1 := HX1.out.c1
          clear hb1 C1
          go_wp2_with fail
          with_reducible refine (O1 _).mono ?_
          rintro e w2 ⟨rfl, hb2⟩
          have HX2 := Lib.hid (HX1.out.on hb2)
          have F1 := HCF.out w2 HX2.out
          clear hb2 cB cB1 O1
          go_wp2_with fail
          with_reducible refine F1.mono ?_
          rintro e w3 ⟨rfl, hb3⟩
          have HX3 := Lib.hid (HX2.out.on hb3)
          have cB := HX3.out.c0; have cB1 := HX3.out.c1
          have K := fun (T T' : TypeId) => Concat2_T (w3.heap.size + 1) 2 1 1 n c (some ⟨w3.heap.size, 0, none⟩) a [(x, 2)] ts ((w3.alloc (.cells #[.int .i64 x, .int .i64 2] T)).alloc (.cells #[.slice (some ⟨w3.heap.size, 0, none⟩) 1 1, .slice a n c] T'))
            (by rw [World.size_alloc, World.size_alloc]; omega)
            (by have := (cells_two (w3.alloc (.cells #[.int .i64 x, .int .i64 2] T)) T' (.slice (some ⟨w3.heap.size, 0, none⟩) 1 1) (.slice a n c)).1; rw [World.size_alloc] at this; exact this)
            (by have := (cells_two (w3.alloc (.cells #[.int .i64 x, .int .i64 2] T)) T' (.slice (some ⟨w3.heap.size, 0, none⟩) 1 1) (.slice a n c)).2; rw [World.size_alloc] at this; exact this)
            ⟨fun _ => ⟨w3.heap.size, 0, rfl, by rw [World.size_alloc, World.size_alloc]; omega, fun j t hj => by
              obtain ⟨rfl, rfl⟩ : j = 0 ∧ (x, 2) = t := by
                match j, hj with
                | 0, hj => exact ⟨rfl, by simpa using hj⟩
                | j + 1, hj => simp at hj
              have h2 := cells_two w3 T (.int .i64 x) (.int .i64 2)
              exact ⟨(World.cell?_alloc_past _ _ _ (by rw [World.size_alloc]; exact Nat.lt_succ_self _)).trans h2.1, (World.cell?_alloc_past _ _ _ (by rw [World.size_alloc]; exact Nat.lt_succ_self _)).trans h2.2⟩⟩, rfl, Nat.le_refl _, by decide, fun h => nomatch h⟩
            (HT.out.keep ((HX3.out.below.alloc HX3.out.below.size _).alloc (by rw [World.size_alloc]; have := HX3.out.below.size; omega) _)) (by omega) (by omega)
          have HB4 : Hid (∀ o o', Below w.heap.size w ((w3.alloc o).alloc o')) := Lib.hid fun o o' => (HX3.out.below.alloc HX3.out.below.size _).alloc (by rw [World.size_alloc]; have := HX3.out.below.size; omega) _
          clear hb3 F1
          go_wp2_with fail
          with_reducible refine (K _ _).mono ?_
          rintro e w4 ⟨v4, rfl, hown, hb4⟩
          have HF := Lib.hid (show AddTo w ts (x, 2) (.returned (.tuple #[v4, .int .i64 0])) w4 from addTo_own (HB4.out _ _).size HE.out (by rw [HLL.out]; exact hown) (by rw [HLL.out, List.length_append, HT.out.len]; rfl) ((HB4.out _ _).trans (hb4.mono (HB4.out _ _).size)))
          clear hown hb4 cB cB1 K
          go_wp2_with fail
          go_ret2
          exact HF.out
        · have HLL : Hid (Qu.addL ts (x, y) = ts ++ [(x, y)]) := Lib.hid (by unfold Qu.addL; rw [if_neg hy])
          have ey : (y == 2) = false := beq_eq_false_iff_ne.2 hy
          have en : ((n : Int) == 20) = false := beq_eq_false_iff_ne.2 (by omega)
          obtain ⟨i0, hi, hz0, hz1, hz2⟩ := info_parts Try.infoTask
          have CL : ∀ W, Box w W w.heap.size x y → Calls Try.prog 52 #[.slice a n c] W fun e w' => ∃ v, e = .returned v ∧ w'.ownsRow w.heap.size 24 2 v n (tv ts) ∧ Below W.heap.size W w' := fun W hW =>
            (Clone_T a n c ts W (HT.out.keep hW.below) (by omega)).mono fun e w' ⟨v, he, ho, hb⟩ => ⟨v, he, own_low ho hW.below.size, hb⟩
          have HCL := Lib.hid CL
          have hb1 : n + 1 ≤ maxLen := by unfold maxLen; omega
          have hb2 : (n + 1) * 16 ≤ 140737488355328 := by omega
          have HBB := Lib.hid hb1; have HBC := Lib.hid hb2
          clear CL hb1 hb2 hy h20
          go_enter Try.func17, Try.ntmps17
          go_wp2_with fail
          with_reducible refine (C1 _).mono ?_
          rintro e w1 ⟨rfl, hb1⟩
          have HX1 := Lib.hid ((box_new w 24 x y).on hb1)
          have cB := HX1.out.c0; have cB1 := HX1.out.c1
          clear hb1 C1
          go_wp2_with fail
          with_reducible refine (O1 _).mono ?_
          rintro e w2 ⟨rfl, hb2⟩
          have HX2 := Lib.hid (HX1.out.on hb2)
          have F1 := HCF.out w2 HX2.out
          clear hb2 cB cB1 O1
          go_wp2_with fail
          with_reducible refine F1.mono ?_
          rintro e w3 ⟨rfl, hb3⟩
          have HX3 := Lib.hid (HX2.out.on hb3)
          have cB := HX3.out.c0; have cB1 := HX3.out.c1
          clear hb3 F1 HX1 HX2
          go_wp2_with fail
          go_region_law (first
            | (refine step_append_lies _ (by rfl) (.tmp 30) (.tmp 32) 22 (by rfl) w.heap.size 24 i0 (.agg #[.int .i64 0, .int .i64 0]) 2 16 Try.underlying22 hi hz0 hz1 hz2 (by rfl) (by decide) va n (tv ts) (by rfl) (HOc.out.alloc (.cells #[.int .i64 x, .int .i64 y] 24)) ⟨wc.heap.size, 0, none⟩ 1 1 [.int .i64 x, .int .i64 y] (by rfl) (by rfl) (fun j u h => cells_pair wc 24 (.int .i64 x) (.int .i64 y) j u h) (pair_ones x y) (by decide) HBB.out HBC.out (by have := HXc.out.below.size; show _ ≤ (wc.alloc _).heap.size; rw [World.size_alloc]; omega) _ (by rfl) (fun g' cap' wq q1 q2 q3 q4 => ?_))
            | (refine step_append_lies _ (by rfl) (.tmp 30) (.tmp 32) 22 (by rfl) w.heap.size 24 i0 (.agg #[.int .i64 0, .int .i64 0]) 2 16 Try.underlying22 hi hz0 hz1 hz2 (by rfl) (by decide) va n (tv ts) (by rfl) HOc.out ⟨w3.heap.size, 0, none⟩ 1 1 [.int .i64 x, .int .i64 y] (by rfl) (by rfl) (fun j u h => by rw [hbc.out.cell (by rw [addr_lit]; show w3.heap.size < (World.alloc _ _).heap.size; rw [World.size_alloc]; exact Nat.lt_succ_self _)]; exact cells_pair w3 24 (.int .i64 x) (.int .i64 y) j u h) (pair_ones x y) (by decide) HBB.out HBC.out HXc.out.below.size _ (by rfl) (fun g' cap' wq q1 q2 q3 q4 => ?_))
            | (go_simp
               go_wp2_with (go_at_call 52; refine (HCL.out _ (by first | exact HX3.out.drew | exact (HX3.out.alloc _).drew | exact HX3.out.drew.alloc _)).mono ?_; rintro e wc ⟨va, rfl, hownc, hbc0⟩)
               have hbc := Lib.hid hbc0
               have HOc := Lib.hid hownc
               have HXc : Hid (Box w wc w.heap.size x y) := Lib.hid (by first | exact HX3.out.drew.on hbc0 | exact (HX3.out.alloc _).drew.on hbc0 | exact (HX3.out.drew.alloc _).on hbc0)
               have cC := HXc.out.c0
               have cC1 := HXc.out.c1
               clear hbc0 hownc))
          all_goals
            have HF := Lib.hid (show AddTo w ts (x, y) (.returned (.tuple #[.slice (some ⟨g', 0, none⟩) (n + 1) cap', .int .i64 0])) wq from addTo_own (Nat.le_refl _) HE.out (by rw [HLL.out, tv_app]; exact q1) (by rw [HLL.out, List.length_append, HT.out.len]; rfl) (by first | exact own_grown HOc.out HXc.out.below (Nat.le_refl _) HXc.out.below.size q2 | exact own_grown (HOc.out.alloc _) (HXc.out.below.alloc HXc.out.below.size _) (Nat.le_refl _) (HXc.out.below.alloc HXc.out.below.size _).size q2))
            clear q1 q2 q3 q4
            go_wp2_with fail
            go_ret2
            exact HF.out
    · have HE : Hid (Qu.addE ts (x, y) = 5) := Lib.hid (by unfold Qu.addE; rw [if_neg (by rw [h1]; decide), if_pos h2])
      have HH : Hid (ts.any (Qu.tg x) = true) := Lib.hid h2
      clear h1 h2
      go_enter Try.func17, Try.ntmps17
      go_wp2_with fail
      with_reducible refine (C1 _).mono ?_
      rintro e w1 ⟨rfl, hb1⟩
      have cB : w1.cell? ⟨w.heap.size, 0, none⟩ = some (.int .i64 x) := by rw [hb1.cell (p := ⟨w.heap.size, 0, none⟩) (by rw [World.size_alloc]; exact Nat.lt_succ_self _)]; exact cell_new w (k := 0) rfl
      have cB1 : w1.cell? ⟨w.heap.size, 1, none⟩ = some (.int .i64 y) := by rw [hb1.cell (p := ⟨w.heap.size, 1, none⟩) (by rw [World.size_alloc]; exact Nat.lt_succ_self _)]; exact cell_new w (k := 1) rfl
      have hs1 := hb1.size
      rw [World.size_alloc] at hs1
      have HB1 := Lib.hid ((HB00.out _).trans (hb1.mono (HB00.out 24).size))
      clear hb1 C1
      go_wp2_with fail
      with_reducible refine (O1 _).mono ?_
      rintro e w2 ⟨rfl, hb2⟩
      have cB2 : w2.cell? ⟨w.heap.size, 0, none⟩ = some (.int .i64 x) := by rw [hb2.cell (p := ⟨w.heap.size, 0, none⟩) (show w.heap.size < w1.heap.size by omega)]; exact cB
      have hs2 := hb2.size
      have HB2 := Lib.hid (HB1.out.trans (hb2.mono HB1.out.size))
      have F1 := ContainsFunc_T a c n ts _ _ _ true w2 (by omega) HT.out.len eg_add (HT.out.keep HB2.out).at_ (pred_add w2 w.heap.size x (by omega) cB2) HH.out
      clear hb2 cB cB1 O1 cB2
      go_wp2_with fail
      with_reducible refine F1.mono ?_
      rintro e w3 ⟨rfl, hb3⟩
      have HB3 := Lib.hid (HB2.out.trans (hb3.mono HB2.out.size))
      clear hb3 F1
      go_wp2_with fail
      go_ret2
      exact addTo_err HE.out (by decide) HB3.out
  · have h1' : Qu.one (x, y) = false := by simpa using h1
    have O1 := fun w => one_is x y false h1' w
    have HE : Hid (Qu.addE ts (x, y) = 1) := Lib.hid (by unfold Qu.addE; rw [if_pos h1'])
    clear h1 h1'
    go_enter Try.func17, Try.ntmps17
    go_wp2_with fail
    with_reducible refine (C1 _).mono ?_
    rintro e w1 ⟨rfl, hb1⟩
    have cB : w1.cell? ⟨w.heap.size, 0, none⟩ = some (.int .i64 x) := by rw [hb1.cell (p := ⟨w.heap.size, 0, none⟩) (by rw [World.size_alloc]; exact Nat.lt_succ_self _)]; exact cell_new w (k := 0) rfl
    have cB1 : w1.cell? ⟨w.heap.size, 1, none⟩ = some (.int .i64 y) := by rw [hb1.cell (p := ⟨w.heap.size, 1, none⟩) (by rw [World.size_alloc]; exact Nat.lt_succ_self _)]; exact cell_new w (k := 1) rfl
    have HB1 := Lib.hid ((HB00.out _).trans (hb1.mono (HB00.out 24).size))
    clear hb1 C1
    go_wp2_with fail
    with_reducible refine (O1 _).mono ?_
    rintro e w2 ⟨rfl, hb2⟩
    have HB2 := Lib.hid (HB1.out.trans (hb2.mono HB1.out.size))
    clear hb2 cB cB1 O1
    go_wp2_with fail
    go_ret2
    exact addTo_err HE.out (by decide) HB2.out

end Go.Proofs.Ytoglkellaliegaa
