import Derived.Test.YtenkdpogdfcbgaaQuW
import Derived.Deep.RegionLaw
import Derived.Deep.AppendLies
import Derived.Deep.RegionWith
import Derived.Test.YtenkdpogdfcbgaaArgsT
import Derived.Lib.LazyBuf
import Derived.Lib.SliceRun
import Derived.Deep.OwnRows
import Derived.Laws.IdiomCopy
/- Walks: queue.Add, queued. -/
namespace Go.Proofs.Ytenkdpogdfcbgaa.Rs
open Go.RowKit

theorem cells_two (w : World) (T : TypeId) (x y : Value) : (w.alloc (.cells #[x, y] T)).cell? ⟨w.heap.size, 0, none⟩ = some x ∧ (w.alloc (.cells #[x, y] T)).cell? ⟨w.heap.size, 1, none⟩ = some y :=
  ⟨cell_new w (k := 0) rfl, cell_new w (k := 1) rfl⟩

/-- It lies behind block B. -/
def Fresh (B : Nat) (a : Option Addr) : Prop := ∀ x, a = some x → B ≤ x.block

theorem fresh_own {w : World} {base n c size : Nat} {e : TypeId} {a : Option Addr} {xs : List Value} (h : w.ownsRow base e size (.slice a n c) n xs) : Fresh base a := by
  intro x hx
  subst hx
  rcases h.2 with ⟨h0, -⟩ | ⟨g, cap, cur, h0, hb, -⟩
  · cases h0
  · cases h0; exact hb

/-- What Add leaves: the tasks in a row of its own. -/
def AddTo (w : World) (ts : List Qu.T) (t : Qu.T) (e : Ending) (w' : World) : Prop := ∃ a c, e = .returned (.tuple #[.slice a (Qu.addA ts t).length c, .int .i64 (Qu.addE ts t : Nat)]) ∧ TSl w' a (Qu.addA ts t).length c (Qu.addA ts t) ∧ Below w.heap.size w w' ∧ w'.ownsRow w.heap.size 74 2 (.slice a (Qu.addA ts t).length c) (Qu.addA ts t).length (tv (Qu.addA ts t))

theorem addTo_err {w w' : World} {ts : List Qu.T} {t : Qu.T} {k : Nat} (hk : Qu.addE ts t = k) (h0 : k ≠ 0) (hb : Below w.heap.size w w') : AddTo w ts t (.returned (.tuple #[.slice none 0 0, .int .i64 (k : Int)])) w' := by
  have e : Qu.addA ts t = [] := by unfold Qu.addA; rw [if_neg (by omega)]
  refine ⟨none, 0, by rw [e, hk]; rfl, ?_, hb, by rw [e]; exact World.ownsRow_nil _ _ _ _⟩
  rw [e]
  exact ⟨fun h => absurd rfl h, rfl, Nat.le_refl _, Nat.zero_le _, fun _ => ⟨rfl, rfl⟩⟩

theorem addTo_own {w w' : World} {base : Nat} (hbase : w.heap.size ≤ base) {ts : List Qu.T} {t : Qu.T} {v : Value} {n : Nat} (hk : Qu.addE ts t = 0) (hown : w'.ownsRow base 74 2 v n (tv (Qu.addL ts t))) (hn : (Qu.addL ts t).length = n) (hb : Below w.heap.size w w') : AddTo w ts t (.returned (.tuple #[v, .int .i64 0])) w' := by
  have e : Qu.addA ts t = Qu.addL ts t := by unfold Qu.addA; rw [if_pos hk]
  obtain ⟨a, c, rfl, h⟩ := tsl_own hown hn
  refine ⟨a, c, by rw [e, hk, hn]; rfl, ?_, hb, by rw [e, hn]; exact own_low hown hbase⟩
  rw [e, hn]
  exact h

/-- What stands while a task is added: all that was there, and the box. -/
structure Box (w W : World) (B : Nat) (x y : Int) : Prop where
  below : Below w.heap.size w W
  lt : B < W.heap.size
  c0 : W.cell? ⟨B, 0, none⟩ = some (.int .i64 x)
  c1 : W.cell? ⟨B, 1, none⟩ = some (.int .i64 y)

theorem Box.drew {w W : World} {B : Nat} {x y : Int} (h : Box w W B x y) : Box w W.drew B x y := ⟨h.below.drew, h.lt, h.c0, h.c1⟩
theorem Box.alloc {w W : World} {B : Nat} {x y : Int} (h : Box w W B x y) (o : Obj) : Box w (W.alloc o) B x y :=
  ⟨h.below.alloc h.below.size o, by rw [World.size_alloc]; have := h.lt; omega, by rw [World.cell?_alloc_past _ _ _ h.lt]; exact h.c0, by rw [World.cell?_alloc_past _ _ _ h.lt]; exact h.c1⟩
theorem Box.on {w W W' : World} {B : Nat} {x y : Int} (h : Box w W B x y) (hb : Below W.heap.size W W') : Box w W' B x y :=
  ⟨h.below.trans (hb.mono h.below.size), Nat.lt_of_lt_of_le h.lt hb.size, by rw [hb.cell (p := ⟨B, 0, none⟩) h.lt]; exact h.c0, by rw [hb.cell (p := ⟨B, 1, none⟩) h.lt]; exact h.c1⟩

theorem box_new (w : World) (T : TypeId) (x y : Int) : Box w (w.alloc (.cells #[.int .i64 x, .int .i64 y] T)) w.heap.size x y :=
  ⟨(Below.refl _ w).alloc (Nat.le_refl _) _, by rw [World.size_alloc]; omega, cell_new w (k := 0) rfl, cell_new w (k := 1) rfl⟩

theorem cells_pair (w : World) (T : TypeId) (x y : Value) : ∀ j u, [x, y][j]? = some u → (w.alloc (.cells #[x, y] T)).cell? ((⟨w.heap.size, 0, none⟩ : Addr).add j) = some u := by
  intro j u hu
  rw [addr_lit, Nat.zero_add]
  match j, hu with
  | 0, hu => obtain rfl : x = u := by simpa using hu
             exact cell_new w (k := 0) rfl
  | 1, hu => obtain rfl : y = u := by simpa using hu
             exact cell_new w (k := 1) rfl
  | j + 2, hu => simp at hu

theorem pair_ones (x y : Int) : ∀ u ∈ [Value.int .i64 x, Value.int .i64 y], u.oneCell' = true := by
  intro u hu
  rcases List.mem_cons.1 hu with rfl | hu
  · rfl
  · rw [List.mem_singleton.1 hu]; rfl

set_option maxRecDepth 100000 in
set_option maxHeartbeats 8000000 in
theorem Add_T (a : Option Addr) (n c : Nat) (ts : List Qu.T) (x y : Int) (w : World) (hG : Qu.Good ts) (hT : TSl w a n c ts) :
    Calls Try.prog 58 #[.slice a n c, .agg #[.int .i64 x, .int .i64 y]] w (AddTo w ts (x, y)) := by
  have hn20 : n ≤ 20 := by rw [← hT.len]; exact hG.len
  have HG := Lib.hid hG; have HT := Lib.hid hT
  have HB0 : ∀ T, Below w.heap.size w (w.alloc (.cells #[.int .i64 x, .int .i64 y] T)) := fun T => (Below.refl _ w).alloc (Nat.le_refl _) _
  have C1 := fun T => Check_T a c n ts (w.alloc (.cells #[.int .i64 x, .int .i64 y] T)) hT.len hT.cap hT.max hG (hT.keep (HB0 T)).at_
  have HB00 := Lib.hid HB0
  clear hG hT HB0
  by_cases h1 : Qu.one (x, y) = true
  · have O1 := fun w => one_is x y true h1 w
    rcases h2 : Qu.has ts x with _ | _
    · have hany : ts.any (Qu.tg x) = false := h2
      have HH := Lib.hid hany
      have CF : ∀ W, Box w W w.heap.size x y → Calls Try.prog 147 #[.slice a n c, .func (.func 148) #[] #[.pointer (some ⟨w.heap.size, 0, none⟩)]] W fun e w' => e = .returned (.bool false) ∧ Below W.heap.size W w' := fun W hW =>
        ContainsFunc_T a c n ts _ _ _ false W (by omega) HT.out.len eg_add (HT.out.keep hW.below).at_ (pred_add W w.heap.size x hW.lt hW.c0) HH.out
      have HCF := Lib.hid CF
      clear CF hany
      by_cases h20 : n = 20
      · have HE : Hid (Qu.addE ts (x, y) = 8) := Lib.hid (by unfold Qu.addE; rw [if_neg (by rw [h1]; decide), if_neg (by rw [h2]; decide), if_pos (by rw [HT.out.len]; exact h20)])
        clear h1 h2
        subst h20
        go_enter Try.func58, Try.ntmps58
        go_wp2_with fail
        with_reducible refine (C1 _).mono ?_
        rintro e w1 ⟨rfl, hb1⟩
        have HX1 := Lib.hid ((box_new w 74 x y).on hb1)
        have cB := HX1.out.c0; have cB1 := HX1.out.c1
        clear hb1 C1
        go_wp2_with fail
        with_reducible refine (O1 _).mono ?_
        rintro e w2 ⟨rfl, hb2⟩
        have HX2 := Lib.hid (HX1.out.on hb2)
        have F1 := HCF.out w2 HX2.out
        clear hb2 cB cB1 O1
        go_wp2_with fail
        with_reducible refine F1.mono ?_
        rintro e w3 ⟨rfl, hb3⟩
        have HX3 := Lib.hid (HX2.out.on hb3)
        clear hb3 F1
        go_wp2_with fail
        go_ret2
        exact addTo_err HE.out (by decide) HX3.out.below
      · have HE : Hid (Qu.addE ts (x, y) = 0) := Lib.hid (by unfold Qu.addE; rw [if_neg (by rw [h1]; decide), if_neg (by rw [h2]; decide), if_neg (by rw [HT.out.len]; exact h20)])
        clear h1 h2
        by_cases hy : y = 2
        · have HLL : Hid (Qu.addL ts (x, y) = [(x, y)] ++ ts) := Lib.hid (by unfold Qu.addL; rw [if_pos hy]; rfl)
          subst hy
          go_enter Try.func58, Try.ntmps58
          go_wp2_with fail
          with_reducible refine (C1 _).mono ?_
          rintro e w1 ⟨rfl, hb1⟩
          have HX1 := Lib.hid ((box_new w 74 x 2).on hb1)
          have cB := HX1.out.c0; have cB1 := HX1.out.c1
          clear hb1 C1
          go_wp2_with fail
          with_reducible refine (O1 _).mono ?_
          rintro e w2 ⟨rfl, hb2⟩
          have HX2 := Lib.hid (HX1.out.on hb2)
          have F1 := HCF.out w2 HX2.out
          clear hb2 cB cB1 O1
          go_wp2_with fail
          with_reducible refine F1.mono ?_
          rintro e w3 ⟨rfl, hb3⟩
          have HX3 := Lib.hid (HX2.out.on hb3)
          have cB := HX3.out.c0; have cB1 := HX3.out.c1
          have K := fun (T T' : TypeId) => Concat2_T (w3.heap.size + 1) 2 1 1 n c (some ⟨w3.heap.size, 0, none⟩) a [(x, 2)] ts ((w3.alloc (.cells #[.int .i64 x, .int .i64 2] T)).alloc (.cells #[.slice (some ⟨w3.heap.size, 0, none⟩) 1 1, .slice a n c] T'))
            (by rw [World.size_alloc, World.size_alloc]; omega)
            (by have := (cells_two (w3.alloc (.cells #[.int .i64 x, .int .i64 2] T)) T' (.slice (some ⟨w3.heap.size, 0, none⟩) 1 1) (.slice a n c)).1; rw [World.size_alloc] at this; exact this)
            (by have := (cells_two (w3.alloc (.cells #[.int .i64 x, .int .i64 2] T)) T' (.slice (some ⟨w3.heap.size, 0, none⟩) 1 1) (.slice a n c)).2; rw [World.size_alloc] at this; exact this)
            ⟨fun _ => ⟨w3.heap.size, 0, rfl, by rw [World.size_alloc, World.size_alloc]; omega, fun j t hj => by
              obtain ⟨rfl, rfl⟩ : j = 0 ∧ (x, 2) = t := by
                match j, hj with
                | 0, hj => exact ⟨rfl, by simpa using hj⟩
                | j + 1, hj => simp at hj
              have h2 := cells_two w3 T (.int .i64 x) (.int .i64 2)
              exact ⟨(World.cell?_alloc_past _ _ _ (by rw [World.size_alloc]; exact Nat.lt_succ_self _)).trans h2.1, (World.cell?_alloc_past _ _ _ (by rw [World.size_alloc]; exact Nat.lt_succ_self _)).trans h2.2⟩⟩, rfl, Nat.le_refl _, by decide, fun h => nomatch h⟩
            (HT.out.keep ((HX3.out.below.alloc HX3.out.below.size _).alloc (by rw [World.size_alloc]; have := HX3.out.below.size; omega) _)) (by omega) (by omega)
          have HB4 : Hid (∀ o o', Below w.heap.size w ((w3.alloc o).alloc o')) := Lib.hid fun o o' => (HX3.out.below.alloc HX3.out.below.size _).alloc (by rw [World.size_alloc]; have := HX3.out.below.size; omega) _
          clear hb3 F1
          go_wp2_with fail
          with_reducible refine (K _ _).mono ?_
          rintro e w4 ⟨v4, rfl, hown, hb4⟩
          have HF := Lib.hid (show AddTo w ts (x, 2) (.returned (.tuple #[v4, .int .i64 0])) w4 from addTo_own (HB4.out _ _).size HE.out (by rw [HLL.out]; exact hown) (by rw [HLL.out, List.length_append, HT.out.len]; rfl) ((HB4.out _ _).trans (hb4.mono (HB4.out _ _).size)))
          clear hown hb4 cB cB1 K
          go_wp2_with fail
          go_ret2
          exact HF.out
        · have HLL : Hid (Qu.addL ts (x, y) = ts ++ [(x, y)]) := Lib.hid (by unfold Qu.addL; rw [if_neg hy])
          have ey : (y == 2) = false := beq_eq_false_iff_ne.2 hy
          have en : ((n : Int) == 20) = false := beq_eq_false_iff_ne.2 (by omega)
          obtain ⟨i0, hi, hz0, hz1, hz2⟩ := info_parts Try.infoTask
          have CL : ∀ W, Box w W w.heap.size x y → Calls Try.prog 64 #[.slice a n c] W fun e w' => ∃ v, e = .returned v ∧ w'.ownsRow w.heap.size 74 2 v n (tv ts) ∧ Below W.heap.size W w' := fun W hW =>
            (Clone_T a n c ts W (HT.out.keep hW.below) (by omega)).mono fun e w' ⟨v, he, ho, hb⟩ => ⟨v, he, own_low ho hW.below.size, hb⟩
          have HCL := Lib.hid CL
          have hb1 : n + 1 ≤ maxLen := by unfold maxLen; omega
          have hb2 : (n + 1) * 16 ≤ 140737488355328 := by omega
          have HBB := Lib.hid hb1; have HBC := Lib.hid hb2
          clear CL hb1 hb2 hy h20
          go_enter Try.func58, Try.ntmps58
          go_wp2_with fail
          with_reducible refine (C1 _).mono ?_
          rintro e w1 ⟨rfl, hb1⟩
          have HX1 := Lib.hid ((box_new w 74 x y).on hb1)
          have cB := HX1.out.c0; have cB1 := HX1.out.c1
          clear hb1 C1
          go_wp2_with fail
          with_reducible refine (O1 _).mono ?_
          rintro e w2 ⟨rfl, hb2⟩
          have HX2 := Lib.hid (HX1.out.on hb2)
          have F1 := HCF.out w2 HX2.out
          clear hb2 cB cB1 O1
          go_wp2_with fail
          with_reducible refine F1.mono ?_
          rintro e w3 ⟨rfl, hb3⟩
          have HX3 := Lib.hid (HX2.out.on hb3)
          have cB := HX3.out.c0; have cB1 := HX3.out.c1
          clear hb3 F1 HX1 HX2
          go_wp2_with fail
          go_region_law (first
            | (refine step_append_lies _ (by rfl) (.tmp 30) (.tmp 32) 70 (by rfl) w.heap.size 74 i0 (.agg #[.int .i64 0, .int .i64 0]) 2 16 Try.underlying70 hi hz0 hz1 hz2 (by rfl) (by decide) va n (tv ts) (by rfl) (HOc.out.alloc (.cells #[.int .i64 x, .int .i64 y] 74)) ⟨wc.heap.size, 0, none⟩ 1 1 [.int .i64 x, .int .i64 y] (by rfl) (by rfl) (fun j u h => cells_pair wc 74 (.int .i64 x) (.int .i64 y) j u h) (pair_ones x y) (by decide) HBB.out HBC.out (by have := HXc.out.below.size; show _ ≤ (wc.alloc _).heap.size; rw [World.size_alloc]; omega) _ (by rfl) (fun g' cap' wq q1 q2 q3 q4 => ?_))
            | (refine step_append_lies _ (by rfl) (.tmp 30) (.tmp 32) 70 (by rfl) w.heap.size 74 i0 (.agg #[.int .i64 0, .int .i64 0]) 2 16 Try.underlying70 hi hz0 hz1 hz2 (by rfl) (by decide) va n (tv ts) (by rfl) HOc.out ⟨w3.heap.size, 0, none⟩ 1 1 [.int .i64 x, .int .i64 y] (by rfl) (by rfl) (fun j u h => by rw [hbc.out.cell (by rw [addr_lit]; show w3.heap.size < (World.alloc _ _).heap.size; rw [World.size_alloc]; exact Nat.lt_succ_self _)]; exact cells_pair w3 74 (.int .i64 x) (.int .i64 y) j u h) (pair_ones x y) (by decide) HBB.out HBC.out HXc.out.below.size _ (by rfl) (fun g' cap' wq q1 q2 q3 q4 => ?_))
            | (go_simp
               go_wp2_with (go_at_call 64; refine (HCL.out _ (by first | exact HX3.out.drew | exact (HX3.out.alloc _).drew | exact HX3.out.drew.alloc _)).mono ?_; rintro e wc ⟨va, rfl, hownc, hbc0⟩)
               have hbc := Lib.hid hbc0
               have HOc := Lib.hid hownc
               have HXc : Hid (Box w wc w.heap.size x y) := Lib.hid (by first | exact HX3.out.drew.on hbc0 | exact (HX3.out.alloc _).drew.on hbc0 | exact (HX3.out.drew.alloc _).on hbc0)
               have cC := HXc.out.c0
               have cC1 := HXc.out.c1
               clear hbc0 hownc))
          all_goals
            have HF := Lib.hid (show AddTo w ts (x, y) (.returned (.tuple #[.slice (some ⟨g', 0, none⟩) (n + 1) cap', .int .i64 0])) wq from addTo_own (Nat.le_refl _) HE.out (by rw [HLL.out, tv_app]; exact q1) (by rw [HLL.out, List.length_append, HT.out.len]; rfl) (by first | exact own_grown HOc.out HXc.out.below (Nat.le_refl _) HXc.out.below.size q2 | exact own_grown (HOc.out.alloc _) (HXc.out.below.alloc HXc.out.below.size _) (Nat.le_refl _) (HXc.out.below.alloc HXc.out.below.size _).size q2))
            clear q1 q2 q3 q4
            go_wp2_with fail
            go_ret2
            exact HF.out
    · have HE : Hid (Qu.addE ts (x, y) = 5) := Lib.hid (by unfold Qu.addE; rw [if_neg (by rw [h1]; decide), if_pos h2])
      have HH : Hid (ts.any (Qu.tg x) = true) := Lib.hid h2
      clear h1 h2
      go_enter Try.func58, Try.ntmps58
      go_wp2_with fail
      with_reducible refine (C1 _).mono ?_
      rintro e w1 ⟨rfl, hb1⟩
      have cB : w1.cell? ⟨w.heap.size, 0, none⟩ = some (.int .i64 x) := by rw [hb1.cell (p := ⟨w.heap.size, 0, none⟩) (by rw [World.size_alloc]; exact Nat.lt_succ_self _)]; exact cell_new w (k := 0) rfl
      have cB1 : w1.cell? ⟨w.heap.size, 1, none⟩ = some (.int .i64 y) := by rw [hb1.cell (p := ⟨w.heap.size, 1, none⟩) (by rw [World.size_alloc]; exact Nat.lt_succ_self _)]; exact cell_new w (k := 1) rfl
      have hs1 := hb1.size
      rw [World.size_alloc] at hs1
      have HB1 := Lib.hid ((HB00.out _).trans (hb1.mono (HB00.out 74).size))
      clear hb1 C1
      go_wp2_with fail
      with_reducible refine (O1 _).mono ?_
      rintro e w2 ⟨rfl, hb2⟩
      have cB2 : w2.cell? ⟨w.heap.size, 0, none⟩ = some (.int .i64 x) := by rw [hb2.cell (p := ⟨w.heap.size, 0, none⟩) (show w.heap.size < w1.heap.size by omega)]; exact cB
      have hs2 := hb2.size
      have HB2 := Lib.hid (HB1.out.trans (hb2.mono HB1.out.size))
      have F1 := ContainsFunc_T a c n ts _ _ _ true w2 (by omega) HT.out.len eg_add (HT.out.keep HB2.out).at_ (pred_add w2 w.heap.size x (by omega) cB2) HH.out
      clear hb2 cB cB1 O1 cB2
      go_wp2_with fail
      with_reducible refine F1.mono ?_
      rintro e w3 ⟨rfl, hb3⟩
      have HB3 := Lib.hid (HB2.out.trans (hb3.mono HB2.out.size))
      clear hb3 F1
      go_wp2_with fail
      go_ret2
      exact addTo_err HE.out (by decide) HB3.out
  · have h1' : Qu.one (x, y) = false := by simpa using h1
    have O1 := fun w => one_is x y false h1' w
    have HE : Hid (Qu.addE ts (x, y) = 1) := Lib.hid (by unfold Qu.addE; rw [if_pos h1'])
    clear h1 h1'
    go_enter Try.func58, Try.ntmps58
    go_wp2_with fail
    with_reducible refine (C1 _).mono ?_
    rintro e w1 ⟨rfl, hb1⟩
    have cB : w1.cell? ⟨w.heap.size, 0, none⟩ = some (.int .i64 x) := by rw [hb1.cell (p := ⟨w.heap.size, 0, none⟩) (by rw [World.size_alloc]; exact Nat.lt_succ_self _)]; exact cell_new w (k := 0) rfl
    have cB1 : w1.cell? ⟨w.heap.size, 1, none⟩ = some (.int .i64 y) := by rw [hb1.cell (p := ⟨w.heap.size, 1, none⟩) (by rw [World.size_alloc]; exact Nat.lt_succ_self _)]; exact cell_new w (k := 1) rfl
    have HB1 := Lib.hid ((HB00.out _).trans (hb1.mono (HB00.out 74).size))
    clear hb1 C1
    go_wp2_with fail
    with_reducible refine (O1 _).mono ?_
    rintro e w2 ⟨rfl, hb2⟩
    have HB2 := Lib.hid (HB1.out.trans (hb2.mono HB1.out.size))
    clear hb2 cB cB1 O1
    go_wp2_with fail
    go_ret2
    exact addTo_err HE.out (by decide) HB2.out

end Go.Proofs.Ytenkdpogdfcbgaa.Rs

/- Walks: queued, queue.May. -/
namespace Go.Proofs.Ytenkdpogdfcbgaa.Rs
open Go.RowKit

/-- A list of tasks and a number, as a call leaves them. -/
def AddR (w : World) (l : List Qu.T) (k : Int) (e : Ending) (w' : World) : Prop := ∃ a n c, e = .returned (.tuple #[.slice a n c, .int .i64 k]) ∧ TSl w' a n c l ∧ Below w.heap.size w w' ∧ w'.ownsRow w.heap.size 74 2 (.slice a n c) n (tv l)

theorem add_ok {a : Option Addr} {n c : Nat} {ts : List Qu.T} {x y : Int} {w : World} (hG : Qu.Good ts) (hT : TSl w a n c ts) (h : Qu.addE ts (x, y) = 0) :
    Calls Try.prog 58 #[.slice a n c, .agg #[.int .i64 x, .int .i64 y]] w (AddR w (Qu.addL ts (x, y)) 0) := by
  refine (Add_T a n c ts x y w hG hT).mono ?_
  rintro e w' ⟨a2, c2, rfl, h2, hb⟩
  have e2 : Qu.addA ts (x, y) = Qu.addL ts (x, y) := by unfold Qu.addA; rw [if_pos h]
  rw [e2] at h2 hb ⊢
  rw [h]
  exact ⟨a2, _, c2, rfl, h2, hb⟩

theorem add_bad {a : Option Addr} {n c : Nat} {ts : List Qu.T} {x y : Int} {w : World} (hG : Qu.Good ts) (hT : TSl w a n c ts) (h : Qu.addE ts (x, y) ≠ 0) :
    ∃ K : Int, (K == 0) = false ∧ (K != 0) = true ∧ Calls Try.prog 58 #[.slice a n c, .agg #[.int .i64 x, .int .i64 y]] w (AddR w [] K) := by
  refine ⟨(Qu.addE ts (x, y) : Nat), beq_eq_false_iff_ne.2 (by omega), bne_iff_ne.2 (by omega), (Add_T a n c ts x y w hG hT).mono ?_⟩
  rintro e w' ⟨a2, c2, rfl, h2, hb⟩
  have e2 : Qu.addA ts (x, y) = [] := by unfold Qu.addA; rw [if_neg h]
  rw [e2] at h2 hb ⊢
  exact ⟨a2, _, c2, rfl, h2, hb⟩

/-- A slice of tasks that came in. -/
structure TArg (w : World) (a : Option Addr) (n c : Nat) (ts : List Qu.T) : Prop where
  at_ : ts ≠ [] → ∃ x, a = some x ∧ ∀ (j : Nat) (t : Qu.T), ts[j]? = some t → w.cell? (x.add (j * 2)) = some (.int .i64 t.1) ∧ w.cell? (x.add (j * 2 + 1)) = some (.int .i64 t.2)
  len : ts.length = n
  cap : n ≤ c
  max : c ≤ maxLen

theorem TArg.keep {w w' : World} {a : Option Addr} {n c : Nat} {ts : List Qu.T} (h : TArg w a n c ts) (hb : Below w.heap.size w w') : TArg w' a n c ts := ⟨fun h0 => by
  obtain ⟨x, rfl, hc⟩ := h.at_ h0
  refine ⟨x, rfl, fun j t hj => ?_⟩
  obtain ⟨c1, c2⟩ := hc j t hj
  exact ⟨by rw [hb.cell (World.block_lt_of_cell? w _ c1)]; exact c1, by rw [hb.cell (World.block_lt_of_cell? w _ c2)]; exact c2⟩, h.len, h.cap, h.max⟩

theorem targ_of {w : World} {a : Option Addr} {n c : Nat} {ts : List (Int × Int)} (h : IsRowT w a n c ts) : TArg w a n c ts := by
  rcases h with ⟨rfl, rfl, rfl, rfl⟩ | ⟨x, rfl, h1, h2, h3, h4⟩
  · exact ⟨fun h => absurd rfl h, rfl, Nat.le_refl _, Nat.zero_le _⟩
  · exact ⟨fun _ => ⟨x, rfl, fun j t hj => ⟨(h4 j t hj).1, (h4 j t hj).2.1⟩⟩, h3, h1, h2⟩

set_option maxRecDepth 100000 in
set_option maxHeartbeats 4000000 in
theorem queued_F (a : Option Addr) (n c : Nat) (ts : List Qu.T) (w : World) (hT : TArg w a n c ts) :
    Calls Try.prog 32 #[.slice a n c] w fun e w' => ∃ b m d, e = .returned (.slice b m d) ∧ TSl w' b m d (Qu.queued ts) ∧ Below w.heap.size w w' ∧ w'.ownsRow w.heap.size 74 2 (.slice b m d) m (tv (Qu.queued ts)) := by
  have hn : n ≤ 9223372036854775807 := by have := hT.cap; have := hT.max; unfold maxLen at this; omega
  have HT := Lib.hid hT
  clear hT
  go_enter Try.func32, Try.ntmps32
  go_wp2_with fail
  go_loopw [3, 10] (fun v i wr => ∃ (k : Nat) (b : Option Addr) (m d : Nat), k ≤ n ∧ i = .int .i64 k ∧ v = .slice b m d ∧ Hid (TSl wr b m d (Qu.queued (ts.take k))) ∧ Hid (Below w.heap.size w wr) ∧ Hid (wr.ownsRow w.heap.size 74 2 (.slice b m d) m (tv (Qu.queued (ts.take k))))) (fun _ i _ => n - (intOf i).toNat)
  case atStart => exact ⟨0, none, 0, 0, Nat.zero_le _, rfl, rfl, Lib.hid ⟨fun h => absurd rfl h, rfl, Nat.le_refl _, Nat.zero_le _, fun _ => ⟨rfl, rfl⟩⟩, Lib.hid (Below.refl _ _), Lib.hid (World.ownsRow_nil _ _ _ _)⟩
  case round =>
    obtain ⟨k, b, m, d, hk, rfl, rfl, hQ, hB, hFr⟩ := hrel
    by_cases hlt : k < n
    · have hk' : k < ts.length := by rw [HT.out.len]; exact hlt
      have hne : ts ≠ [] := by rintro rfl; simp at hk'
      obtain ⟨x0, rfl, hc⟩ := (HT.out.keep hB.out).at_ hne
      obtain ⟨c1, c2⟩ := hc k ts[k] (List.getElem?_eq_getElem hk')
      obtain ⟨yb, yo, ys, hy⟩ : ∃ b o s, x0.add (k * 2) = ⟨b, o, s⟩ := ⟨_, _, _, rfl⟩
      rw [← Go.Deep.add_add, hy, show (⟨yb, yo, ys⟩ : Addr).add 1 = ⟨yb, yo + 1, none⟩ from rfl] at c2
      rw [hy] at c1
      have HQ : Hid (Qu.queued (ts.take (k + 1)) = Qu.put (Qu.queued (ts.take k)) (ts[k].1, ts[k].2)) := Lib.hid (by rw [List.take_succ_eq_append_getElem hk', Qu.queued_snoc])
      clear hc hne
      generalize ts[k].1 = x at *
      generalize ts[k].2 = y at *
      have HG := Lib.hid (Qu.good_queued (ts.take k))
      generalize Qu.queued (ts.take k) = q at *
      have HA : ∀ o, Below wr.heap.size wr (wr.alloc o) := fun o => (Below.refl _ _).alloc (Nat.le_refl _) _
      by_cases hE : Qu.addE q (x, y) = 0
      · have A1 := fun o => add_ok HG.out (hQ.out.keep (HA o)) hE
        have HP : Hid (Qu.put q (x, y) = Qu.addL q (x, y)) := Lib.hid (by unfold Qu.put; rw [if_pos hE])
        have HA2 := Lib.hid HA
        clear hE HA
        go_wp2_with fail
        with_reducible refine (A1 _).mono ?_
        rintro e w2 ⟨b2, m2, d2, rfl, hT2, hb2, hfr2⟩
        have HFr2 := Lib.hid (own_low hfr2 (hB.out.alloc hB.out.size (.cells #[.int .i64 x, .int .i64 y] 74)).size)
        clear hfr2
        have HB2 := Lib.hid (hB.out.trans (((HA2.out _).trans (hb2.mono (HA2.out _).size)).mono hB.out.size))
        have HT2 := Lib.hid hT2
        clear hT2 hb2 A1
        go_wp2_with fail
        go_roundw
        case rel => exact ⟨k + 1, b2, m2, d2, hlt, by go_num, rfl, Lib.hid (by rw [HQ.out, HP.out]; exact HT2.out), HB2, Lib.hid (by rw [HQ.out, HP.out]; exact HFr2.out)⟩
        case measure => simp [intOf]; omega
      · have A1 := fun o => add_bad HG.out (hQ.out.keep (HA o)) hE
        have HP : Hid (Qu.put q (x, y) = q) := Lib.hid (by unfold Qu.put; rw [if_neg hE])
        have HA2 := Lib.hid HA
        clear hE HA
        have HA1 := Lib.hid A1
        clear A1
        go_wp2_with fail
        obtain ⟨K, k1, k2, A2⟩ := HA1.out (.cells #[.int .i64 x, .int .i64 y] 74)
        with_reducible refine A2.mono ?_
        rintro e w2 ⟨b2, m2, d2, rfl, hT2, hb2, -⟩
        have HQ2 := Lib.hid (hQ.out.keep ((HA2.out _).trans (hb2.mono (HA2.out _).size)))
        have HFr2 := Lib.hid (own_keep hFr.out ((HA2.out _).trans (hb2.mono (HA2.out _).size)))
        have HB2 := Lib.hid (hB.out.trans (((HA2.out _).trans (hb2.mono (HA2.out _).size)).mono hB.out.size))
        clear hT2 hb2 A2
        go_wp2_with fail
        go_roundw
        case rel => exact ⟨k + 1, b, m, d, hlt, by go_num, rfl, Lib.hid (by rw [HQ.out, HP.out]; exact HQ2.out), HB2, Lib.hid (by rw [HQ.out, HP.out]; exact HFr2.out)⟩
        case measure => simp [intOf]; omega
    · obtain rfl : k = n := by omega
      have HF : Hid (TSl wr b m d (Qu.queued ts)) := Lib.hid (by have := hQ.out; rw [List.take_of_length_le (by rw [HT.out.len]; exact Nat.le_refl _)] at this; exact this)
      have HF3 : Hid (wr.ownsRow w.heap.size 74 2 (.slice b m d) m (tv (Qu.queued ts))) := Lib.hid (by have := hFr.out; rw [List.take_of_length_le (by rw [HT.out.len]; exact Nat.le_refl _)] at this; exact this)
      go_wp2_with fail
      go_ret
      exact ⟨b, m, d, rfl, HF.out, hB.out, HF3.out⟩

theorem queued_T (a : Option Addr) (n c : Nat) (ts : List Qu.T) (w : World) (hT : TArg w a n c ts) :
    Calls Try.prog 32 #[.slice a n c] w fun e w' => ∃ b m d, e = .returned (.slice b m d) ∧ TSl w' b m d (Qu.queued ts) ∧ Below w.heap.size w w' :=
  (queued_F a n c ts w hT).mono fun _ _ ⟨b, m, d, he, h1, h2, _⟩ => ⟨b, m, d, he, h1, h2⟩

/-- Integers as values. -/
def zv (l : List Int) : List Value := l.map fun x => .int .i64 x

theorem zv_snoc (l : List Int) (x : Int) : zv (l ++ [x]) = zv l ++ [.int .i64 x] := by unfold zv; rw [List.map_append]; rfl

/-- A slice of integers, whole. -/
structure ZSl (w : World) (a : Option Addr) (n c : Nat) (l : List Int) : Prop where
  at_ : l ≠ [] → ∃ g o, a = some ⟨g, o, none⟩ ∧ g < w.heap.size ∧ ∀ (j : Nat) (x : Int), l[j]? = some x → w.cell? ⟨g, o + j, none⟩ = some (.int .i64 x)
  len : l.length = n
  cap : n ≤ c
  max : c ≤ maxLen

theorem ZSl.keep {w w' : World} {a : Option Addr} {n c : Nat} {l : List Int} (h : ZSl w a n c l) (hb : Below w.heap.size w w') : ZSl w' a n c l := ⟨fun h0 => by
  obtain ⟨g, o, rfl, hg, hc⟩ := h.at_ h0
  exact ⟨g, o, rfl, Nat.lt_of_lt_of_le hg hb.size, fun j x hj => by rw [hb.cell (p := ⟨g, o + j, none⟩) hg]; exact hc j x hj⟩, h.len, h.cap, h.max⟩

theorem zsl_own {w : World} {base n : Nat} {e : TypeId} {v : Value} {l : List Int} (h : w.ownsRow base e 1 v n (zv l)) : ∃ a c, v = .slice a n c ∧ ZSl w a n c l := by
  have hn : l.length = n := by have := h.1; unfold zv at this; simpa using this
  rcases h.2 with ⟨rfl, h0⟩ | ⟨g, cap, cur, rfl, hb, hh, hnc, hcm, h'⟩
  · have : l = [] := List.length_eq_zero_iff.1 (by omega)
    subst this
    exact ⟨none, 0, by rw [h0], fun h => absurd rfl h, hn, by omega, Nat.zero_le _⟩
  · have hlt : g < w.heap.size := by
      rcases Nat.lt_or_ge g w.heap.size with h | h
      · exact h
      · rw [Array.getElem?_eq_none h] at hh; cases hh
    refine ⟨_, cap, rfl, fun _ => ⟨g, 0, rfl, hlt, fun j x hj => ?_⟩, hn, hnc, hcm⟩
    have c1 := h.cells (g := g) rfl j (.int .i64 x) (by unfold zv; simp [hj])
    rw [addr_lit] at c1
    exact c1

set_option maxRecDepth 100000 in
set_option maxHeartbeats 4000000 in
theorem May_T (a : Option Addr) (n c : Nat) (ts : List Qu.T) (w : World) (hG : Qu.Good ts) (hT : TSl w a n c ts) :
    Calls Try.prog 30 #[.slice a n c] w fun e w' => ∃ b m d, e = .returned (.tuple #[.slice b m d, .int .i64 0]) ∧ ZSl w' b m d (Qu.mayL ts) ∧ Below w.heap.size w w' := by
  obtain ⟨i0, hi, hz0, hz1, hz2⟩ := info_parts Try.infoInt
  have hn20 : n ≤ 20 := by rw [← hT.len]; exact hG.len
  have C1 := Check_T a c n ts w hT.len hT.cap hT.max hG hT.at_
  have HT := Lib.hid hT
  clear hT hG
  go_enter Try.func30, Try.ntmps30
  go_wp2_with fail
  with_reducible refine C1.mono ?_
  rintro e w1 ⟨rfl, hb1⟩
  have HB1 := Lib.hid hb1
  clear hb1 C1
  go_wp2_with fail
  go_loopw [5, 15] (fun v i wr => ∃ k : Nat, k ≤ n ∧ i = .int .i64 k ∧ Hid (wr.ownsRow w.heap.size 3 1 v (Qu.mayN ts k).length (zv (Qu.mayN ts k))) ∧ Hid (Below w.heap.size w wr)) (fun _ i _ => n - (intOf i).toNat)
  case atStart => exact ⟨0, Nat.zero_le _, rfl, Lib.hid (World.ownsRow_nil _ _ _ _), HB1⟩
  case round =>
    obtain ⟨k, hk, rfl, hO, hB⟩ := hrel
    by_cases hlt : k < n
    · have hk' : k < ts.length := by rw [HT.out.len]; exact hlt
      have hne : ts ≠ [] := by rintro rfl; simp at hk'
      obtain ⟨g, o, rfl, hg, hc⟩ := (HT.out.keep hB.out).at_ hne
      obtain ⟨c1, c2⟩ := hc k ts[k] (List.getElem?_eq_getElem hk')
      have eg : ts.getD k (0, 0) = ts[k] := by simp [List.getD, hk']
      have HN : Hid (Qu.mayN ts (k + 1) = Qu.mayN ts k ++ if Qu.may ts k = true then [ts[k].1] else []) := Lib.hid (by rw [Qu.mayN, eg])
      have hml := Qu.mayN_len ts k
      clear hc hne eg
      generalize ts[k].1 = x at *
      generalize ts[k].2 = y at *
      have HM : Hid (∀ v, Qu.may ts k = v → ∀ T, Calls Try.prog 125 #[.slice (some ⟨g, o, none⟩) n c, .int .i64 k] (wr.alloc (.cells #[.int .i64 x, .int .i64 y] T)) fun e w' => e = .returned (.bool v) ∧ Below (wr.alloc (.cells #[.int .i64 x, .int .i64 y] T)).heap.size (wr.alloc (.cells #[.int .i64 x, .int .i64 y] T)) w') :=
        Lib.hid fun v hv T => may_T (some ⟨g, o, none⟩) c n k ts v _ HT.out.len HT.out.cap HT.out.max hlt (by omega) (HT.out.keep (hB.out.alloc hB.out.size _)).at_ hv
      generalize hl' : (Qu.mayN ts k).length = m at *
      generalize Qu.mayN ts k = l at *
      have HL := Lib.hid hl'
      clear hl'
      rcases hm : Qu.may ts k with _ | _
      · have M1 := HM.out _ hm
        have HN2 : Hid (Qu.mayN ts (k + 1) = l) := Lib.hid (by rw [HN.out, hm, if_neg (by decide), List.append_nil])
        clear hm HM
        go_wp2_with fail
        with_reducible refine (M1 _).mono ?_
        rintro e w2 ⟨rfl, hb2⟩
        have HB2 := Lib.hid ((hB.out.alloc hB.out.size (.cells #[.int .i64 x, .int .i64 y] 74)).trans (hb2.mono (hB.out.alloc hB.out.size _).size))
        have HO2 : Hid (w2.ownsRow w.heap.size 3 1 u5 m (zv l)) := Lib.hid (own_keep (hO.out.alloc _) hb2)
        clear hb2 M1
        go_wp2_with fail
        go_roundw
        case rel => exact ⟨k + 1, hlt, by go_num, Lib.hid (by rw [HN2.out, HL.out]; exact HO2.out), HB2⟩
        case measure => simp [intOf]; omega
      · have M1 := HM.out _ hm
        have HN2 : Hid (Qu.mayN ts (k + 1) = l ++ [x]) := Lib.hid (by rw [HN.out, hm, if_pos rfl])
        have hb1 : m + 1 ≤ maxLen := by unfold maxLen; omega
        have hb2 : (m + 1) * 8 ≤ 140737488355328 := by omega
        have HBB := Lib.hid hb1; have HBC := Lib.hid hb2
        clear hm HM hb1 hb2
        go_wp2_with fail
        with_reducible refine (M1 _).mono ?_
        rintro e w2 ⟨rfl, hb2⟩
        have HX := Lib.hid ((box_new wr 74 x y).on hb2)
        have cB := HX.out.c0
        have HB2 := Lib.hid ((hB.out.alloc hB.out.size (.cells #[.int .i64 x, .int .i64 y] 74)).trans (hb2.mono (hB.out.alloc hB.out.size _).size))
        have HO2 : Hid (w2.ownsRow w.heap.size 3 1 u5 m (zv l)) := Lib.hid (own_keep (hO.out.alloc _) hb2)
        have H2 := Lib.hid (HO2.out.alloc (.cells #[.int .i64 x] 3))
        have H3 : Hid (∀ j u, [Value.int .i64 x][j]? = some u → (w2.alloc (.cells #[.int .i64 x] 3)).cell? ((⟨w2.heap.size, 0, none⟩ : Addr).add j) = some u) := Lib.hid (by
          intro j u hu
          match j, hu with
          | 0, hu =>
            obtain rfl : Value.int .i64 x = u := by simpa using hu
            exact cell_new w2 (k := 0) rfl
          | j + 1, hu => simp at hu)
        have H4 : Hid (∀ u ∈ [Value.int .i64 x], u.oneCell' = true) := Lib.hid (by intro u hu; rw [List.mem_singleton.1 hu]; rfl)
        have H5 : Hid (w.heap.size ≤ (w2.alloc (.cells #[.int .i64 x] 3)).heap.size) := Lib.hid (by rw [World.size_alloc]; have := HB2.out.size; omega)
        clear hb2 M1
        go_wp2_with (at_builtin; refine wpList_append_lies _ rfl _ _ _ rfl w.heap.size 3 i0 (.int .i64 0) 1 8 Try.underlying23 hi hz0 hz1 hz2 rfl (by decide) u5 m _ rfl H2.out ⟨w2.heap.size, 0, none⟩ 1 1 [.int .i64 x] rfl rfl H3.out H4.out (by decide) HBB.out HBC.out H5.out _ rfl ?_)
        intro g' cap' wq q1 q2 q3 q4
        have HB3 := Lib.hid (own_grown H2.out (HB2.out.alloc HB2.out.size _) (Nat.le_refl _) H5.out q2)
        have HO3 : Hid (wq.ownsRow w.heap.size 3 1 (.slice (some ⟨g', 0, none⟩) (m + 1) cap') (m + 1) (zv (l ++ [x]))) := Lib.hid (by rw [zv_snoc]; exact q1)
        clear q1 q2 q3 q4 H2 H3 H5
        go_wp2_with fail
        go_roundw
        case rel => exact ⟨k + 1, hlt, by go_num, Lib.hid (by rw [HN2.out, List.length_append, HL.out]; exact HO3.out), HB3⟩
        case measure => simp [intOf]; omega
    · obtain rfl : k = n := by omega
      obtain ⟨b, d, hv, hZ⟩ := zsl_own hO.out
      have HF : Hid (ZSl wr b (Qu.mayN ts k).length d (Qu.mayL ts)) := Lib.hid (by unfold Qu.mayL; rw [HT.out.len]; exact hZ)
      subst hv
      clear hZ
      go_wp2_with fail
      go_ret2
      exact ⟨b, _, d, rfl, HF.out, hB.out⟩

theorem ZSl.take {w : World} {a : Option Addr} {n c : Nat} {l : List Int} (h : ZSl w a n c l) {m : Nat} (hm : m ≤ n) : ZSl w a m c (l.take m) := by
  refine ⟨fun h0 => ?_, by rw [List.length_take, h.len]; omega, Nat.le_trans hm h.cap, h.max⟩
  have hne : l ≠ [] := by rintro rfl; simp at h0
  obtain ⟨g, o, rfl, hg, hc⟩ := h.at_ hne
  refine ⟨g, o, rfl, hg, fun j x hj => hc j x ?_⟩
  rw [List.getElem?_take] at hj
  split at hj
  · exact hj
  · cases hj

set_option maxRecDepth 100000 in
set_option maxHeartbeats 2000000 in
theorem Equal_Z (a b : Option Addr) (n c1 c2 : Nat) (l : List Int) (w : World) (h1 : ZSl w a n c1 l) (h2 : ZSl w b n c2 l) (hn : n ≤ 1099511627776) :
    Calls Try.prog 31 #[.slice a n c1, .slice b n c2] w fun e w' => e = .returned (.bool true) ∧ ∃ q, w' = w.drewN q := by
  have H1 := Lib.hid h1; have H2 := Lib.hid h2; clear h1 h2
  go_enter Try.func31, Try.ntmps31
  go_wp2_with fail
  go_loopw [13] (fun x wr => ∃ k : Nat, k ≤ n ∧ x = .int .i64 k ∧ ∃ j, wr = w.drewN j) (fun x _ => n - (intOf x).toNat)
  case atStart => exact ⟨0, Nat.zero_le _, rfl, 0, rfl⟩
  case round =>
    obtain ⟨k, hk, rfl, hj⟩ := hrel
    by_cases hlt : k < n
    · have hk' : k < l.length := by rw [H1.out.len]; exact hlt
      have hne : l ≠ [] := by rintro rfl; simp at hk'
      obtain ⟨A, o1, rfl, -, e1⟩ := H1.out.at_ hne
      obtain ⟨B, o2, rfl, -, e2⟩ := H2.out.at_ hne
      have g1 := e1 k l[k] (List.getElem?_eq_getElem hk')
      have g2 := e2 k l[k] (List.getElem?_eq_getElem hk')
      clear e1 e2 hne
      generalize l[k] = x at *
      obtain ⟨j, rfl⟩ := hj
      go_wp2_with fail
      go_region
      all_goals
        go_wp2_with fail
        go_roundw
        case rel => exact ⟨k + 1, hlt, by go_num, j + 1, rfl⟩
        case measure => simp [intOf]; omega
    · obtain rfl : k = n := by omega
      go_wp2_with fail
      go_ret
      exact ⟨rfl, hj⟩

set_option maxRecDepth 100000 in
set_option maxHeartbeats 2000000 in
theorem Index_Z (a : Option Addr) (n c : Nat) (l : List Int) (x : Int) (w : World) (h1 : ZSl w a n c l) (hx : x ∈ l) (hn : n ≤ 1099511627776) :
    Calls Try.prog 112 #[.slice a n c, .int .i64 x] w fun e w' => ∃ i : Nat, e = .returned (.int .i64 i) ∧ w = w' := by
  obtain ⟨m, hm, hmx⟩ := List.getElem_of_mem hx
  have H1 := Lib.hid h1
  have HX : Hid (∃ hm : m < l.length, l[m] = x) := Lib.hid ⟨hm, hmx⟩
  clear h1 hmx hx hm
  go_enter Try.func112, Try.ntmps112
  go_wp2_with fail
  go_loop [8] (fun x => ∃ k : Nat, k ≤ m ∧ x = .int .i64 k) (fun x => m + 1 - (intOf x).toNat)
  case atStart => exact ⟨0, Nat.zero_le _, rfl⟩
  case round =>
    obtain ⟨k, hk, rfl⟩ := hrel
    obtain ⟨hm', hmx⟩ := HX.out
    have hm2 := hm'
    rw [H1.out.len] at hm2
    have hlt : k < n := by omega
    have hk' : k < l.length := by rw [H1.out.len]; exact hlt
    have hne : l ≠ [] := by rintro rfl; simp at hk'
    obtain ⟨A, o1, rfl, -, e1⟩ := H1.out.at_ hne
    have g1 := e1 k l[k] (List.getElem?_eq_getElem hk')
    have HK : Hid (k = m → l[k] = x) := Lib.hid fun e => by subst e; exact hmx
    clear e1 hne hmx hm'
    generalize l[k] = y at *
    by_cases hxy : x = y
    · subst hxy
      have e1 : (x == x) = true := beq_self_eq_true x
      go_wp2_with fail
      go_ret
      exact ⟨⟨k, rfl⟩, rfl⟩
    · have e1 : (x == y) = false := beq_eq_false_iff_ne.2 hxy
      have hkm : k < m := by
        rcases Nat.lt_or_ge k m with h | h
        · exact h
        · exact absurd (HK.out (by omega)).symm hxy
      go_wp2_with fail
      go_round
      case rel => exact ⟨k + 1, by omega, by go_num⟩
      case measure => simp [intOf]; omega

end Go.Proofs.Ytenkdpogdfcbgaa.Rs

/- Walks: slices.Delete of one task, queue.Done. -/
namespace Go.Proofs.Ytenkdpogdfcbgaa.Rs
open Go.RowKit

theorem zero_task : ∀ w, (zeroValue 74).run Try.prog w = .ok (.agg #[.int .i64 0, .int .i64 0]) w := fun _ => by kernel_rfl

/-- 'clear' of one task. -/
theorem run_clear_one (w : World) (ty : TypeId) (b o c : Nat) (h0 : (w.cell? ⟨b, o, none⟩).isSome = true) (h1 : (w.cell? ⟨b, o + 1, none⟩).isSome = true) (f0 : w.frozen? ⟨b, o, none⟩ = false) (f1 : w.frozen? ⟨b, o + 1, none⟩ = false) :
    (Builtin.clear_ #[70] ty #[.slice (some ⟨b, o, none⟩) 1 c]).run Try.prog w = .ok (.tuple #[]) (w.setCells b o [.int .i64 0, .int .i64 0]) := by
  have hst := run_storeCells_cells (P := Try.prog) b o [.int .i64 0, .int .i64 0] 0 w (by
    intro j hj
    rcases j with _ | _ | j
    · exact h0
    · exact h1
    · simp at hj; omega) (by
    intro j hj
    rcases j with _ | _ | j
    · exact f0
    · exact f1
    · simp at hj; omega) (pair_ones 0 0)
  simp only [Nat.add_zero] at hst
  have hzc : (Builtin.zeroCells (Value.agg #[.int .i64 0, .int .i64 0]).cells 1).toList = [.int .i64 0, .int .i64 0] := by
    simp [Builtin.zeroCells, Value.cells, List.range_succ, Array.toList_map, Array.toList_range]
  simp [Builtin.clear_, run_underlying Try.underlying70, hzc, hst]

theorem rowIs_own {w : World} {base g n cap : Nat} {e : TypeId} {xs : List Value} (h : w.ownsRow base e 2 (.slice (some ⟨g, 0, none⟩) n cap) n xs) : ∃ f, w.rowIs g e (cap * 2) f ∧ (∀ j, j < n * 2 → xs[j]? = some (f j)) ∧ base ≤ g ∧ n ≤ cap ∧ cap ≤ maxLen := by
  rcases h.2 with ⟨h', _⟩ | ⟨g', cap', cur, h', hb, hg, hnc, hcm, hsz, htake⟩
  · cases h'
  · cases h'
    refine ⟨fun j => cur.getD j default, ⟨cur, hg, hsz, fun j hj => ?_⟩, fun j hj => ?_, hb, hnc, hcm⟩
    · simp [Array.getD, hsz, hj]
    · have hj2 : j < cur.size := by rw [hsz]; omega
      rw [← htake, List.getElem?_take, if_pos hj]
      simp [Array.getD, hj2]

theorem own_rowIs {w : World} {base g n cap : Nat} {e : TypeId} {xs : List Value} {f : Nat → Value} (h : w.rowIs g e (cap * 2) f) (hx : xs.length = n * 2) (hf : ∀ j, j < n * 2 → xs[j]? = some (f j)) (hb : base ≤ g) (hnc : n ≤ cap) (hcm : cap ≤ maxLen) : w.ownsRow base e 2 (.slice (some ⟨g, 0, none⟩) n cap) n xs := by
  obtain ⟨cur, hg, hsz, hc⟩ := h
  refine ⟨hx, Or.inr ⟨g, cap, cur, rfl, hb, hg, hnc, hcm, hsz, ?_⟩⟩
  apply List.ext_getElem?
  intro j
  by_cases hj : j < n * 2
  · rw [List.getElem?_take, if_pos hj, hf j hj, Array.getElem?_toList, hc j (by omega)]
  · rw [List.getElem?_eq_none (by rw [List.length_take]; omega), List.getElem?_eq_none (by omega)]

theorem tv_drop (l : List Qu.T) (k : Nat) : tv (l.drop k) = (tv l).drop (k * 2) := by
  induction k generalizing l with
  | zero => rfl
  | succ k ih =>
    cases l with
    | nil => simp [tv]
    | cons t l => rw [List.drop_succ_cons, ih, tv, show (k + 1) * 2 = k * 2 + 1 + 1 from by omega, List.drop_succ_cons, List.drop_succ_cons]

theorem tv_take (l : List Qu.T) (k : Nat) : tv (l.take k) = (tv l).take (k * 2) := by
  induction k generalizing l with
  | zero => simp [tv]
  | succ k ih =>
    cases l with
    | nil => simp [tv]
    | cons t l => rw [List.take_succ_cons, tv, ih, tv, show (k + 1) * 2 = k * 2 + 1 + 1 from by omega, List.take_succ_cons, List.take_succ_cons]

set_option maxRecDepth 100000 in
set_option maxHeartbeats 4000000 in
theorem Delete_T (g cap n i m base : Nat) (ts : List Qu.T) (w : World) (hown : w.ownsRow base 74 2 (.slice (some ⟨g, 0, none⟩) n cap) n (tv ts)) (hn : n = i + 1 + m) (_hn2 : n ≤ 1000000) (W0 : World) (hB : Below base W0 w) (_hb0 : base ≤ w.heap.size) :
    Calls Try.prog 127 #[.slice (some ⟨g, 0, none⟩) n cap, .int .i64 i, .int .i64 ((i : Int) + 1)] w fun e w' =>
      e = .returned (.slice (some ⟨g, 0, none⟩) (i + m) cap) ∧ w'.ownsRow base 74 2 (.slice (some ⟨g, 0, none⟩) (i + m) cap) (i + m) (tv (ts.take i ++ ts.drop (i + 1))) ∧ Below base W0 w' := by
  obtain ⟨i0, hi0, hz0, hz1, hz2⟩ := info_parts Try.infoTask
  obtain ⟨f, hrow, hf, hbg, hnc, hcm⟩ := rowIs_own hown
  have hlen : ts.length = n := by have := hown.1; rw [tv_length] at this; omega
  unfold maxLen at hcm
  obtain ⟨news, hnews⟩ : ∃ news, news = tv (ts.drop (i + 1)) := ⟨_, rfl⟩
  have hnl : news.length = m * 2 := by rw [hnews, tv_length, List.length_drop]; omega
  have hrowd : w.drew.rowIs g 74 (cap * 2) f := hrow
  have hcell : ∀ j, j < cap * 2 → w.drew.cell? ⟨g, j, none⟩ = some (f j) := fun j hj => by
    obtain ⟨cur, h1, h2, h3⟩ := hrow
    have := cell_of_row w g j cur _ (0, 0) h1
    show w.cell? _ = _
    rw [this, h3 j hj]
  have hfz : ∀ j, w.drew.frozen? ⟨g, j, none⟩ = false := fun j => hown.frozenAt j
  obtain ⟨A, hA, hsrc⟩ : ∃ A : Addr, (if cap = i + 1 then some (⟨g, 0, none⟩ : Addr) else some ⟨g, (i + 1) * 2, none⟩) = some A ∧ Hid (∀ t u, news[t]? = some u → w.drew.cell? (A.add t) = some u) := by
    by_cases h : cap = i + 1
    · refine ⟨⟨g, 0, none⟩, by simp [h], Lib.hid fun t u hu => ?_⟩
      have h0 : news.length = 0 := by rw [hnl]; omega
      rw [List.length_eq_zero_iff.1 h0] at hu
      simp at hu
    · refine ⟨⟨g, (i + 1) * 2, none⟩, by simp [h], Lib.hid fun t u hu => ?_⟩
      have ht : t < m * 2 := by
        have := (List.getElem?_eq_some_iff.1 hu).1
        rwa [hnl] at this
      rw [hnews, tv_drop, List.getElem?_drop, hf _ (by omega)] at hu
      rw [addr_lit, hcell _ (by omega)]
      exact hu
  have s1 : Hid (news.length = m * 2) := Lib.hid hnl
  have s2 : Hid (∀ u ∈ news, u.oneCell' = true) := Lib.hid (by rw [hnews]; exact tv_one _)
  have s3 : Hid (∀ t, t < news.length → (w.drew.cell? ⟨g, 0 + i * 2 + t, none⟩).isSome = true ∧ w.drew.frozen? ⟨g, 0 + i * 2 + t, none⟩ = false) := Lib.hid (by
    intro t ht
    rw [hnl] at ht
    rw [Nat.zero_add]
    exact ⟨by rw [hcell _ (by omega)]; rfl, hfz _⟩)
  obtain ⟨W1, hW1⟩ : ∃ W1, W1 = w.drew.setCells g (0 + i * 2) news := ⟨_, rfl⟩
  have hr1 := rowIs_setCells news (0 + i * 2) w.drew f hrowd
  rw [← hW1] at hr1
  have hcl : ∀ ty, (Builtin.clear_ #[70] ty #[.slice (some ⟨g, (i + m) * 2, none⟩) 1 (cap - (i + m))]).run Try.prog W1 = .ok (.tuple #[]) (W1.setCells g ((i + m) * 2) [.int .i64 0, .int .i64 0]) := fun ty => by
    obtain ⟨cur, h1, h2, h3⟩ := hr1
    refine run_clear_one W1 ty g ((i + m) * 2) _ ?_ ?_ ?_ ?_
    · rw [cell_of_row W1 g _ cur _ (0, 0) h1, h3 _ (by omega)]; rfl
    · rw [cell_of_row W1 g _ cur _ (0, 0) h1, h3 _ (by omega)]; rfl
    · rw [hW1, World.frozen?_setCells]; exact hfz _
    · rw [hW1, World.frozen?_setCells]; exact hfz _
  have hr2 := rowIs_setCells [.int .i64 0, .int .i64 0] ((i + m) * 2) W1 _ hr1
  have HF : Hid ((W1.setCells g ((i + m) * 2) [.int .i64 0, .int .i64 0]).ownsRow base 74 2 (.slice (some ⟨g, 0, none⟩) (i + m) cap) (i + m) (tv (ts.take i ++ ts.drop (i + 1))) ∧ Below base W0 (W1.setCells g ((i + m) * 2) [.int .i64 0, .int .i64 0])) := Lib.hid ⟨own_rowIs hr2 (by rw [tv_length, List.length_append, List.length_take, List.length_drop]; omega) (fun j hj => by
      rw [if_neg (by omega)]
      rw [tv_app, ← hnews]
      have hl1 : (tv (ts.take i)).length = i * 2 := by rw [tv_length, List.length_take]; omega
      by_cases h : j < i * 2
      · rw [if_neg (by omega), List.getElem?_append_left (by omega), tv_take, List.getElem?_take, if_pos h, hf j (by omega)]
      · rw [if_pos (by omega), List.getElem?_append_right (by omega), hl1, Nat.zero_add, List.getElem?_eq_getElem (by omega)]
        simp) hbg (by omega) (by unfold maxLen; omega), by
      rw [hW1]
      exact below_setCells hbg _ _ _ (below_setCells hbg _ _ _ hB.drew)⟩
  have hW : Hid (W1 = w.drew.setCells g (0 + i * 2) news) := Lib.hid hW1
  have hic : i ≤ cap := by omega
  have hjc : i + 1 ≤ cap := by omega
  have hmn : n - (i + 1) = m := by omega
  have h1n : n - (i + m) = 1 := by omega
  have hin : (i : Int) + 1 ≤ (n : Int) := by omega
  have h0i : (0 : Int) ≤ (i : Int) + 1 := by omega
  have hne : ((i : Int) == (i : Int) + 1) = false := beq_eq_false_iff_ne.2 (by omega)
  have him : (i : Int) + (m : Int) ≤ (n : Int) := by omega
  have t1 : ((i : Int) + 1).toNat = i + 1 := by omega
  have hcc : cap - (i + 1) + (i + 1) = cap := by omega
  clear hW1 hr1 hr2 hrow hrowd hcell hfz hnews hnl hf hown hB hlen hn
  go_enter Try.func127, Try.ntmps127
  go_wp2_with fail
  go_region_law (refine step_append_room rfl (.tmp 22) (.tmp 25) 70 rfl 74 i0 2 Try.underlying70 hi0 hz1 g 0 i cap (by simp [Act.eval, Act.put]) A m (cap - (i + 1)) news (by simp [Act.eval, Act.put]) s1.out hsrc.out s2.out (by omega) s3.out ?_; rw [← hW.out])
  go_wp2_with fail
  go_ret
  exact ⟨rfl, HF.out⟩

end Go.Proofs.Ytenkdpogdfcbgaa.Rs

/- Walks: queue.Done, slices.Equal at tasks. -/
namespace Go.Proofs.Ytenkdpogdfcbgaa.Rs
open Go.RowKit

/-- Tasks without one. -/
def cut (ts : List Qu.T) (i : Nat) : List Qu.T := ts.take i ++ ts.drop (i + 1)

set_option maxRecDepth 100000 in
set_option maxHeartbeats 8000000 in
theorem Done_T (a : Option Addr) (n c i : Nat) (ts : List Qu.T) (x : Int) (w : World) (hG : Qu.Good ts) (hT : TSl w a n c ts) (hi : i < ts.length) (hx : (ts.getD i (0, 0)).1 = x) (hm : Qu.may ts i = true) :
    Calls Try.prog 35 #[.slice a n c, .int .i64 x] w fun e w' => ∃ b d, e = .returned (.tuple #[.slice b (n - 1) d, .int .i64 0]) ∧ TSl w' b (n - 1) d (cut ts i) ∧ Below w.heap.size w w' := by
  have hn20 : n ≤ 20 := by rw [← hT.len]; exact hG.len
  have hin : i < n := by rw [← hT.len]; exact hi
  have HB0 : ∀ T, Below w.heap.size w (w.alloc (.cells #[.int .i64 x] T)) := fun T => (Below.refl _ w).alloc (Nat.le_refl _) _
  have C1 := fun T => Check_T a c n ts (w.alloc (.cells #[.int .i64 x] T)) hT.len hT.cap hT.max hG (hT.keep (HB0 T)).at_
  have HT := Lib.hid hT; have HB00 := Lib.hid HB0
  have hidx : idx (Qu.tg x) ts = (i : Int) := by
    unfold idx
    rw [← hx, Qu.tag_at hG.nd hi]
  have HI := Lib.hid hidx
  have HM := Lib.hid hm
  obtain ⟨m, hnm⟩ : ∃ m, n = i + 1 + m := ⟨n - (i + 1), by omega⟩
  have HNM := Lib.hid hnm
  have hlen1 : n - 1 = i + m := by omega
  have HL1 := Lib.hid hlen1
  clear hG hT HB0 hidx hx hm hnm hlen1 hi
  go_enter Try.func35, Try.ntmps35
  go_wp2_with fail
  with_reducible refine (C1 _).mono ?_
  rintro e w1 ⟨rfl, hb1⟩
  have cB : w1.cell? ⟨w.heap.size, 0, none⟩ = some (.int .i64 x) := by rw [hb1.cell (p := ⟨w.heap.size, 0, none⟩) (by rw [World.size_alloc]; exact Nat.lt_succ_self _)]; exact cell_new w (k := 0) rfl
  have hs1 := hb1.size
  rw [World.size_alloc] at hs1
  have HB1 := Lib.hid ((HB00.out _).trans (hb1.mono (HB00.out 3).size))
  have I1 := IndexFunc_T a c ts _ _ _ w1 (by rw [HT.out.len]; omega) eg_done (HT.out.keep HB1.out).at_ (pred_done w1 w.heap.size x (by omega) cB)
  rw [HT.out.len, HI.out] at I1
  clear hb1 C1 cB hs1
  go_wp2_with fail
  with_reducible refine I1.mono ?_
  rintro e w2 ⟨rfl, hb2⟩
  have HB2 := Lib.hid (HB1.out.trans (hb2.mono HB1.out.size))
  have M1 := may_T a c n i ts true w2 HT.out.len HT.out.cap HT.out.max hin hn20 (HT.out.keep HB2.out).at_ HM.out
  clear hb2 I1
  go_wp2_with fail
  with_reducible refine M1.mono ?_
  rintro e w3 ⟨rfl, hb3⟩
  have HB3 := Lib.hid (HB2.out.trans (hb3.mono HB2.out.size))
  have K1 := Clone_T a n c ts w3 (HT.out.keep HB3.out) (by omega)
  clear hb3 M1
  go_wp2_with fail
  with_reducible refine K1.mono ?_
  rintro e w4 ⟨v, rfl, hown, hb4⟩
  obtain ⟨g, cap, rfl⟩ : ∃ g cap, v = .slice (some ⟨g, 0, none⟩) n cap := by
    rcases hown.2 with ⟨-, h0⟩ | ⟨g, cap, cur, rfl, -⟩
    · omega
    · exact ⟨g, cap, rfl⟩
  have D1 := Delete_T g cap n i m w.heap.size ts w4 (own_low hown HB3.out.size) HNM.out (by omega) w (HB3.out.trans (hb4.mono HB3.out.size)) (Nat.le_trans HB3.out.size hb4.size)
  clear hb4 hown K1
  go_wp2_with fail
  with_reducible refine D1.mono ?_
  rintro e w5 ⟨rfl, hown5, hb5⟩
  have HF : Hid (TSl w5 (some ⟨g, 0, none⟩) (n - 1) cap (cut ts i) ∧ Below w.heap.size w w5) := Lib.hid ⟨by
    rw [HL1.out]
    obtain ⟨a', c', he, h⟩ := tsl_own hown5 (by rw [List.length_append, List.length_take, List.length_drop, HT.out.len]; have := HNM.out; omega)
    cases he
    exact h, hb5⟩
  have hl := HL1.out
  rw [← hl]
  clear hown5 hb5 D1 hl
  go_wp2_with fail
  go_ret2
  exact ⟨_, _, rfl, HF.out⟩

set_option maxRecDepth 100000 in
set_option maxHeartbeats 2000000 in
theorem Equal_T (a b : Option Addr) (n c1 c2 : Nat) (l : List Qu.T) (w : World) (h1 : TSl w a n c1 l) (h2 : TSl w b n c2 l) (hn : n ≤ 1099511627776) :
    Calls Try.prog 61 #[.slice a n c1, .slice b n c2] w fun e w' => e = .returned (.bool true) ∧ ∃ q, w' = w.drewN q := by
  have H1 := Lib.hid h1; have H2 := Lib.hid h2; clear h1 h2
  go_enter Try.func61, Try.ntmps61
  go_wp2_with fail
  go_loopw [13] (fun x wr => ∃ k : Nat, k ≤ n ∧ x = .int .i64 k ∧ ∃ j, wr = w.drewN j) (fun x _ => n - (intOf x).toNat)
  case atStart => exact ⟨0, Nat.zero_le _, rfl, 0, rfl⟩
  case round =>
    obtain ⟨k, hk, rfl, hj⟩ := hrel
    by_cases hlt : k < n
    · have hk' : k < l.length := by rw [H1.out.len]; exact hlt
      have hne : l ≠ [] := by rintro rfl; simp at hk'
      obtain ⟨A, o1, rfl, -, e1⟩ := H1.out.at_ hne
      obtain ⟨B, o2, rfl, -, e2⟩ := H2.out.at_ hne
      obtain ⟨g1, g1'⟩ := e1 k l[k] (List.getElem?_eq_getElem hk')
      obtain ⟨g2, g2'⟩ := e2 k l[k] (List.getElem?_eq_getElem hk')
      clear e1 e2 hne
      generalize l[k].1 = x at *
      generalize l[k].2 = y at *
      obtain ⟨j, rfl⟩ := hj
      go_wp2_with fail
      go_region
      all_goals
        go_wp2_with fail
        go_roundw
        case rel => exact ⟨k + 1, hlt, by go_num, j + 1, rfl⟩
        case measure => simp [intOf]; omega
    · obtain rfl : k = n := by omega
      go_wp2_with fail
      go_ret
      exact ⟨rfl, hj⟩

end Go.Proofs.Ytenkdpogdfcbgaa.Rs

/- The walk of slices.DeleteFunc at tasks. -/
namespace Go.Proofs.Ytenkdpogdfcbgaa.Rs
open Go.RowKit

/-- 'clear' of tasks. -/
theorem run_clear_many (w : World) (b o r c : Nat) (hr : 0 < r) (h0 : ∀ j, j < r * 2 → (w.cell? ⟨b, o + j, none⟩).isSome = true) (f0 : ∀ j, j < r * 2 → w.frozen? ⟨b, o + j, none⟩ = false) :
    ∃ Z : List Value, Z.length = r * 2 ∧ ∀ ty, (Builtin.clear_ #[70] ty #[.slice (some ⟨b, o, none⟩) r c]).run Try.prog w = .ok (.tuple #[]) (w.setCells b o Z) := by
  have hZl : (Builtin.zeroCells (Value.agg #[.int .i64 0, .int .i64 0]).cells r).toList.length = r * 2 := by rw [Array.length_toList, size_zeroCells]; rfl
  have hone : ∀ u ∈ (Builtin.zeroCells (Value.agg #[.int .i64 0, .int .i64 0]).cells r).toList, u.oneCell' = true := by
    intro u hu
    unfold Builtin.zeroCells at hu
    simp only [Array.toList_map, List.mem_map] at hu
    obtain ⟨k, -, rfl⟩ := hu
    show (#[Value.int .i64 0, Value.int .i64 0][k % 2]!).oneCell' = true
    rcases Nat.mod_two_eq_zero_or_one k with h | h
    · rw [h]; rfl
    · rw [h]; rfl
  have hst := run_storeCells_cells (P := Try.prog) b o (Builtin.zeroCells (Value.agg #[.int .i64 0, .int .i64 0]).cells r).toList 0 w (by rw [hZl]; simpa using h0) (by rw [hZl]; simpa using f0) hone
  simp only [Nat.add_zero] at hst
  refine ⟨_, hZl, fun ty => ?_⟩
  obtain ⟨m, rfl⟩ : ∃ m, r = m + 1 := ⟨r - 1, by omega⟩
  simp [Builtin.clear_, run_underlying Try.underlying70, hst]

/-- Those that are simple. -/
def simples (ts : List Qu.T) : List Qu.T := ts.filter fun t => !Qu.ns t

theorem tv_set (l : List Qu.T) (k : Nat) (t : Qu.T) : tv (l.set k t) = ((tv l).set (k * 2) (.int .i64 t.1)).set (k * 2 + 1) (.int .i64 t.2) := by
  induction l generalizing k with
  | nil => simp [tv]
  | cons u l ih =>
    cases k with
    | zero => rfl
    | succ k =>
      rw [List.set_cons_succ, tv, ih, tv, show (k + 1) * 2 = k * 2 + 1 + 1 from by omega]
      rfl

end Go.Proofs.Ytenkdpogdfcbgaa.Rs
