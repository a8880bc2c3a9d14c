/- The walks of tree.Levels, tree.Check, tree.Root. -/
import Derived.Test.YtnbdceigenndfaaTreeW
namespace Go.Proofs.Ytnbdceigenndfaa
open Go.RowKit

theorem Try.infoSlI : (Try.prog.info? 22).map (fun i => (i.zero, i.size, i.bytes)) = some (some (.slice none 0 0), 1, 24) := by kernel_rfl

/-- A level lies there, in another block than b. -/
def LevAt (w : World) (b : Nat) (u : Value) (l : List Nat) : Prop := ∃ g c, u = .slice (some ⟨g, 0, none⟩) l.length c ∧ RowIn w g l ∧ g ≠ b

theorem LevAt.keep {w w' : World} {b : Nat} {u : Value} {l : List Nat} (h : LevAt w b u l) (hb : Below w.heap.size w w') : LevAt w' b u l := by
  obtain ⟨g, c, h1, h2, h3⟩ := h
  exact ⟨g, c, h1, h2.keep hb, h3⟩

/-- The row of levels. -/
def LevsAt (w : World) (g : Nat) (vs : List Value) (ls : List (List Nat)) : Prop := ∀ (i : Nat) (l : List Nat), ls[i]? = some l → ∃ u, vs[i]? = some u ∧ LevAt w g u l

theorem LevAt.grow {X wq : World} {g g' : Nat} {u : Value} {l : List Nat} (h : LevAt X g u l) (hg : X.grownBy wq (some g)) (h' : some g = some g' ∨ g' = X.heap.size) : LevAt wq g' u l := by
  obtain ⟨gi, c, h1, ⟨h2, h3⟩, h4⟩ := h
  have hb : wq.heap[gi]? = X.heap[gi]? := hg.block gi h2 (fun e => h4 (Option.some.inj e))
  refine ⟨gi, c, h1, ⟨Nat.lt_of_lt_of_le h2 hg.size, fun j hj => ?_⟩, ?_⟩
  · rw [World.cell?_of_block (w := X) (a := ⟨gi, j, none⟩) hb]; exact h3 j hj
  · rcases h' with h' | h'
    · rw [← Option.some.inj h']; exact h4
    · omega

def sliceLen : Value → Nat
  | .slice _ n _ => n
  | _ => 0

theorem own_newV (w : World) (T : TypeId) (vs : Array Value) (n : Nat) (hn : vs.size = n) (hm : n ≤ maxLen) : (w.alloc (.cells vs T)).ownsRow w.heap.size T 1 (.slice (some ⟨w.heap.size, 0, none⟩) n n) n vs.toList := by
  refine ⟨by simp [hn], Or.inr ⟨_, n, vs, rfl, Nat.le_refl _, ?_, Nat.le_refl _, hm, by rw [hn, Nat.mul_one], ?_⟩⟩
  · show (w.heap.push _)[w.heap.size]? = _
    rw [Array.getElem?_push, if_pos rfl]
  · rw [List.take_of_length_le (by simp [hn])]

theorem own_block {w : World} {base g : Nat} {e : TypeId} {size n c : Nat} {o : Nat} {xs : List Value} (h : w.ownsRow base e size (.slice (some ⟨g, o, none⟩) n c) n xs) : base ≤ g ∧ g < w.heap.size := by
  rcases h.2 with ⟨h0, _⟩ | ⟨g', cap, cur, hv, hb, hh, _⟩
  · cases h0
  · cases hv
    refine ⟨hb, ?_⟩
    rcases Nat.lt_or_ge g w.heap.size with h | h
    · exact h
    · rw [Array.getElem?_eq_none h] at hh; cases hh

theorem own_some {w : World} {base : Nat} {e : TypeId} {size n : Nat} {v : Value} {xs : List Value} (h : w.ownsRow base e size v n xs) (hn : n ≠ 0) : ∃ g c, v = .slice (some ⟨g, 0, none⟩) n c ∧ base ≤ g ∧ g < w.heap.size := by
  rcases h.2 with ⟨_, h0⟩ | ⟨g, cap, cur, hv, hb, hh, _⟩
  · exact absurd h0 hn
  · subst hv
    exact ⟨g, cap, rfl, own_block h⟩

theorem row_of_own {w : World} {base g n c : Nat} {T : TypeId} {l : List Nat} (h : w.ownsRow base T 1 (.slice (some ⟨g, 0, none⟩) n c) n (iv l)) (hn : l.length = n) : RowIn w g l := ⟨(own_block h).2, iv_cells h hn⟩

theorem node_le (a b : Nat) : Tr.node a b ≤ 2147483647 := pr_le _

theorem up_le : ∀ l : List Nat, (∀ x, x ∈ l → x ≤ 2147483647) → ∀ x, x ∈ Tr.up l → x ≤ 2147483647
  | a :: b :: r, h, x, hx => by
    rw [Tr.up] at hx
    rcases List.mem_cons.1 hx with rfl | hx
    · exact node_le a b
    · exact up_le r (fun y hy => h y (List.mem_cons_of_mem _ (List.mem_cons_of_mem _ hy))) x hx
  | [a], h, x, hx => h x hx
  | [], _, x, hx => by simp [Tr.up] at hx

set_option maxRecDepth 100000 in
set_option maxHeartbeats 4000000 in
theorem Levels_any (a : Option Addr) (n cap : Nat) (ss : List ByteArray) (w : World) (h1 : 1 ≤ n) (hn : n ≤ 32) (hT : TextsAt w a n ss) (hsz : ∀ i, i < n → (ss.getD i ByteArray.empty).size ≤ 64) :
    Calls Try.prog 35 #[.slice a n cap] w fun e w' => ∃ g c vs, e = .returned (.slice (some ⟨g, 0, none⟩) (Tr.levels (lvs ss n)).length c) ∧
      w'.ownsRow w.heap.size 22 1 (.slice (some ⟨g, 0, none⟩) (Tr.levels (lvs ss n)).length c) (Tr.levels (lvs ss n)).length vs ∧ LevsAt w' g vs (Tr.levels (lvs ss n)) ∧ Below w.heap.size w w' := by
  obtain ⟨i0, hi, hz0, hz1, hz2⟩ := info_parts Try.infoSlI
  have LV := leaves_any a n cap ss w hn hT hsz
  have hll := lvs_length ss n
  have hlv : ∀ x, x ∈ lvs ss n → x ≤ 2147483647 := by
    intro x hx
    obtain ⟨i, -, rfl⟩ := List.mem_map.1 hx
    exact pr_le _
  generalize lvs ss n = L at *
  have HL := Lib.hid hll; have HV := Lib.hid hlv
  clear hT hsz hll hlv
  go_enter Try.func35, Try.ntmps35
  go_wp2_with fail
  with_reducible refine LV.mono ?_
  rintro e w1 ⟨v1, rfl, hown1, hb1⟩
  obtain ⟨g1, c1, rfl, hg1, hg1'⟩ := own_some hown1 (by omega)
  have HB1 := Lib.hid (hb1.alloc hb1.size (.cells #[.slice (some ⟨g1, 0, none⟩) n c1] 22))
  have N1 := Lib.hid (own_newV w1 22 #[.slice (some ⟨g1, 0, none⟩) n c1] 1 rfl (by unfold maxLen; omega))
  have L1 : Hid (LevAt (w1.alloc (.cells #[.slice (some ⟨g1, 0, none⟩) n c1] 22)) w1.heap.size (.slice (some ⟨g1, 0, none⟩) n c1) L) :=
    Lib.hid ⟨g1, c1, by rw [HL.out], (row_of_own hown1 HL.out).keep ((Below.refl _ w1).alloc (Nat.le_refl _) _), by omega⟩
  have hbs1 := hb1.size
  clear hown1 hb1 LV
  go_wp2_with fail
  go_loopw [3] (fun v wr => ∃ (ls : List (List Nat)) (cur : List Nat) (vs : List Value) (g c q : Nat), Hid (ls.length = q) ∧ v = .slice (some ⟨g, 0, none⟩) (q + 1) c ∧ wr.ownsRow w.heap.size 22 1 (.slice (some ⟨g, 0, none⟩) (q + 1) c) (q + 1) vs ∧
      Hid (LevsAt wr g vs (ls ++ [cur])) ∧ Hid (ls ++ Tr.levels cur = Tr.levels L) ∧ 1 ≤ cur.length ∧ q + cur.length ≤ 32 ∧ Hid (∀ x, x ∈ cur → x ≤ 2147483647) ∧ Hid (Below w.heap.size w wr)) (fun v _ => 40 - sliceLen v)
  case atStart =>
    refine ⟨[], L, [.slice (some ⟨g1, 0, none⟩) n c1], w1.heap.size, 1, 0, Lib.hid rfl, rfl, ?_, Lib.hid ?_, Lib.hid rfl, by rw [HL.out]; exact h1, by rw [HL.out]; omega, HV, HB1⟩
    · have h := N1.out
      obtain ⟨x1, x2⟩ := h
      refine ⟨x1, ?_⟩
      rcases x2 with x2 | ⟨g, cap, cur, y1, y2, y3⟩
      · exact absurd x2.2 (by omega)
      · exact Or.inr ⟨g, cap, cur, y1, by cases y1; omega, y3⟩
    · intro i l hi
      cases i with
      | zero =>
        obtain rfl : L = l := by simpa using hi
        exact ⟨_, rfl, L1.out⟩
      | succ i => simp at hi
  case round =>
    obtain ⟨ls, cur, vs, g, c, q, hq, rfl, hown, hlev, heq, hc1, hc2, hcv, hB⟩ := hrel
    obtain ⟨hgb, hgw⟩ := own_block hown
    obtain ⟨u, hu, gc, cc, rfl, hrow, hne⟩ := hlev.out q cur (by rw [List.getElem?_append_right (by rw [hq.out]; exact Nat.le_refl _), hq.out, Nat.sub_self]; rfl)
    have hcell : wr.cell? ⟨g, q, none⟩ = some (.slice (some ⟨gc, 0, none⟩) cur.length cc) := by rw [hown.cellAt q (by omega)]; exact hu
    have s1 : ((q : Int) + 1) - 1 = (q : Int) := by omega
    have s2 : (((q + 1 : Nat) : Int)) - 1 = (q : Int) := by omega
    by_cases hgo : 1 < cur.length
    · have UP := up_any gc cc cur.length cur wr rfl (by omega) hrow hcv.out
      have hul := Tr.up_length cur
      have HUL := Lib.hid hul
      clear hul hu
      go_wp2_with fail
      with_reducible refine UP.mono ?_
      rintro e w2 ⟨v2, rfl, hown2, hb2⟩
      obtain ⟨g2, c2, rfl, hg2, hg2'⟩ := own_some hown2 (by have := HUL.out; omega)
      have HLV2 : Hid (LevAt (w2.alloc (.cells #[.slice (some ⟨g2, 0, none⟩) (Tr.up cur).length c2] 22)) g (.slice (some ⟨g2, 0, none⟩) (Tr.up cur).length c2) (Tr.up cur)) :=
        Lib.hid ⟨g2, c2, rfl, (row_of_own hown2 rfl).keep ((Below.refl _ w2).alloc (Nat.le_refl _) _), by omega⟩
      have HLO : Hid (LevsAt (w2.alloc (.cells #[.slice (some ⟨g2, 0, none⟩) (Tr.up cur).length c2] 22)) g vs (ls ++ [cur])) := Lib.hid fun i l hil => by
        obtain ⟨u, hu, hl⟩ := hlev.out i l hil
        exact ⟨u, hu, (hl.keep hb2).keep ((Below.refl _ w2).alloc (Nat.le_refl _) _)⟩
      have HB2 := Lib.hid (hB.out.trans (hb2.mono hB.out.size))
      have hvl : vs.length = q + 1 := by have := hown.1; rw [Nat.mul_one] at this; exact this
      have HVL := Lib.hid hvl
      have H2 := Lib.hid ((own_kept hb2 hown).alloc (.cells #[.slice (some ⟨g2, 0, none⟩) (Tr.up cur).length c2] 22))
      have hle2 := up_le cur hcv.out
      have HLE := Lib.hid hle2
      have hupl : 1 ≤ (Tr.up cur).length ∧ q + 1 + (Tr.up cur).length ≤ 32 := by have := HUL.out; omega
      have heq2 : Hid ((ls ++ [cur]) ++ Tr.levels (Tr.up cur) = Tr.levels L) := Lib.hid (by rw [← heq.out, Tr.levels_up hgo]; simp)
      generalize (Tr.up cur).length = m at *
      have H3 : Hid (∀ j x, [Value.slice (some ⟨g2, 0, none⟩) m c2][j]? = some x → (w2.alloc (.cells #[.slice (some ⟨g2, 0, none⟩) m c2] 22)).cell? ((⟨w2.heap.size, 0, none⟩ : Addr).add j) = some x) := Lib.hid fun j x h => cell_one_new w2 (.slice (some ⟨g2, 0, none⟩) m c2) 22 j x h
      have H4 : Hid (∀ x ∈ [Value.slice (some ⟨g2, 0, none⟩) m c2], x.oneCell' = true) := Lib.hid (by intro x hx; simp at hx; subst hx; rfl)
      have hb1 : q + 1 + 1 ≤ maxLen := by unfold maxLen; omega
      have hb2' : (q + 1 + 1) * 24 ≤ 140737488355328 := by omega
      have hb3 : w.heap.size ≤ (w2.alloc (.cells #[.slice (some ⟨g2, 0, none⟩) m c2] 22)).heap.size := by rw [World.size_alloc]; have := HB2.out.size; omega
      clear hown2 hb2 hvl hle2 hrow hlev heq hcv hB hown UP hcell
      go_wp2_with (at_builtin; refine wpList_append_lies _ rfl _ _ _ rfl w.heap.size 22 i0 (.slice none 0 0) 1 24 Try.underlying71 hi hz0 hz1 hz2 rfl (by decide) (.slice (some ⟨g, 0, none⟩) (q + 1) c) (q + 1) _ rfl H2.out ⟨w2.heap.size, 0, none⟩ 1 1 [.slice (some ⟨g2, 0, none⟩) m c2] rfl rfl H3.out H4.out (by decide) hb1 hb2' hb3 _ rfl ?_)
      intro g' cap' wq q1 q2 q3 q4
      have q2' : (w2.alloc (.cells #[.slice (some ⟨g2, 0, none⟩) m c2] 22)).grownBy wq (some g) := q2
      have q3' : some g = some g' ∨ g' = (w2.alloc (.cells #[.slice (some ⟨g2, 0, none⟩) m c2] 22)).heap.size := by rw [World.size_alloc]; exact q3
      have HB' : Hid (Below w.heap.size w wq) := Lib.hid ((HB2.out.alloc HB2.out.size _).grown q2' hb3 (fun k hk => by cases hk; exact hgb))
      have HLV : Hid (LevsAt wq g' (vs ++ [.slice (some ⟨g2, 0, none⟩) m c2]) ((ls ++ [cur]) ++ [Tr.up cur])) := Lib.hid fun i l hil => by
        have hlq : (ls ++ [cur]).length = q + 1 := by rw [List.length_append, hq.out]; rfl
        by_cases hi' : i < q + 1
        · rw [List.getElem?_append_left (by omega)] at hil
          obtain ⟨u, hu, hl⟩ := HLO.out i l hil
          exact ⟨u, by rw [List.getElem?_append_left (by rw [HVL.out]; exact hi')]; exact hu, hl.grow q2' q3'⟩
        · have hi2 : i = q + 1 := by
            obtain ⟨hlt, _⟩ := List.getElem?_eq_some_iff.1 hil
            rw [List.length_append, hlq, List.length_singleton] at hlt
            omega
          subst hi2
          rw [List.getElem?_append_right (by omega), hlq, Nat.sub_self] at hil
          obtain rfl : Tr.up cur = l := by simpa using hil
          exact ⟨_, by rw [List.getElem?_append_right (by rw [HVL.out]; exact Nat.le_refl _), HVL.out, Nat.sub_self]; rfl, HLV2.out.grow q2' q3'⟩
      have HQ : Hid ((ls ++ [cur]).length = q + 1) := Lib.hid (by rw [List.length_append, hq.out]; rfl)
      have HM : Hid ((Tr.up cur).length = m) := Lib.hid (by obtain ⟨_, _, h, _⟩ := HLV2.out; injection h with _ h _; exact h.symm)
      clear q2 q3 q4 q2' q3' H2 H3 H4 hb3
      go_wp2_with fail
      go_round
      case rel => exact ⟨ls ++ [cur], Tr.up cur, _, g', cap', q + 1, HQ, rfl, q1, HLV, heq2, by rw [HM.out]; exact hupl.1, by rw [HM.out]; exact hupl.2, HLE, HB'⟩
      case measure => simp [sliceLen]; omega
    · have hone : cur.length = 1 := by omega
      have hfin : Hid (ls ++ [cur] = Tr.levels L) := Lib.hid (by rw [← heq.out, Tr.levels_one (by omega)])
      have hlen : (Tr.levels L).length = q + 1 := by rw [← hfin.out, List.length_append, hq.out]; rfl
      have d1 : decide ((1 : Int) < (cur.length : Int)) = false := decide_eq_false (by omega)
      have HLEN := Lib.hid hlen
      clear hlen
      go_wp2_with fail
      go_ret
      exact ⟨g, c, vs, by rw [HLEN.out]; rfl, by rw [HLEN.out]; exact hown, by rw [← hfin.out]; exact hlev.out, hB.out⟩

/-- Is one of the first n texts too long? -/
def big (ss : List ByteArray) (n : Nat) : Bool := (List.range n).any fun i => decide (64 < (ss.getD i ByteArray.empty).size)

theorem big_false {ss : List ByteArray} {n : Nat} : big ss n = false ↔ ∀ i, i < n → (ss.getD i ByteArray.empty).size ≤ 64 := by
  unfold big
  rw [List.any_eq_false]
  constructor
  · intro h i hi
    have := h i (List.mem_range.2 hi)
    simp at this
    exact this
  · intro h i hi
    have := h i (List.mem_range.1 hi)
    simp
    exact this

theorem check1_any (s : ByteArray) (w : World) : Calls Try.prog 43 #[.string s] w fun e w' => e = .returned (.bool (decide (64 < s.size))) ∧ w = w' := by
  go_enter Try.func43, Try.ntmps43
  go_wp2_with fail
  go_ret
  exact ⟨by simp; omega, rfl⟩

theorem big_succ (ss : List ByteArray) (k : Nat) : big ss (k + 1) = (big ss k || decide (64 < (ss.getD k ByteArray.empty).size)) := by
  unfold big
  rw [List.range_succ, List.any_append]
  simp

theorem big_mono {ss : List ByteArray} {k n : Nat} (h : big ss k = true) (hk : k ≤ n) : big ss n = true := by
  unfold big at *
  rw [List.any_eq_true] at *
  obtain ⟨i, hi, hb⟩ := h
  exact ⟨i, List.mem_range.2 (Nat.lt_of_lt_of_le (List.mem_range.1 hi) hk), hb⟩

set_option maxRecDepth 100000 in
set_option maxHeartbeats 2000000 in
theorem IndexFunc_any (a : Option Addr) (n cap : Nat) (ss : List ByteArray) (w : World) (hn : n ≤ 32) (hT : TextsAt w a n ss) :
    Calls Try.prog 47 #[.slice a n cap, .func (.func 43) #[] #[]] w fun e w' => ∃ y : Int, e = .returned (.int .i64 y) ∧ decide (0 ≤ y) = big ss n ∧ w = w' := by
  have HT := Lib.hid hT
  clear hT
  go_enter Try.func47, Try.ntmps47
  go_wp2_with fail
  go_loop [8] (fun i => ∃ k : Nat, k ≤ n ∧ i = .int .i64 k ∧ Hid (big ss k = false)) (fun i => n - (intOf i).toNat)
  case atStart => exact ⟨0, by omega, rfl, Lib.hid rfl⟩
  case round =>
    obtain ⟨k, hk, rfl, hB⟩ := hrel
    by_cases hlt : k < n
    · obtain ⟨x, rfl, hc⟩ := HT.out (by omega)
      have hck := hc k hlt
      have hbs := big_succ ss k
      rw [hB.out, Bool.false_or] at hbs
      generalize ss.getD k ByteArray.empty = s at *
      have C1 := fun w => check1_any s w
      by_cases hs : 64 < s.size
      · have hd : decide (64 < s.size) = true := decide_eq_true hs
        rw [hd] at C1 hbs
        have HBS := Lib.hid hbs
        clear hc hbs hd hs
        go_wp2_with (go_at_call 43; refine (C1 _).mono ?_; rintro e w' ⟨rfl, rfl⟩)
        go_ret
        exact ⟨_, rfl, by rw [big_mono HBS.out hlt]; simp, rfl⟩
      · have hd : decide (64 < s.size) = false := decide_eq_false hs
        rw [hd] at C1 hbs
        have HBS := Lib.hid hbs
        clear hc hbs hd hs
        go_wp2_with (go_at_call 43; refine (C1 _).mono ?_; rintro e w' ⟨rfl, rfl⟩)
        go_round
        case rel => exact ⟨k + 1, hlt, by go_num, HBS⟩
        case measure => simp [intOf]; omega
    · obtain rfl : k = n := by omega
      go_wp2_with fail
      go_ret
      exact ⟨-1, rfl, by rw [hB.out]; rfl, rfl⟩

set_option maxHeartbeats 1000000 in
theorem ContainsFunc_any (a : Option Addr) (n cap : Nat) (ss : List ByteArray) (w : World) (hn : n ≤ 32) (hT : TextsAt w a n ss) :
    Calls Try.prog 42 #[.slice a n cap, .func (.func 43) #[] #[]] w fun e w' => e = .returned (.bool (big ss n)) ∧ w = w' := by
  have I1 := IndexFunc_any a n cap ss w hn hT
  go_enter Try.func42, Try.ntmps42
  go_wp2_with fail
  with_reducible refine I1.mono ?_
  rintro e w' ⟨y, rfl, hy, rfl⟩
  go_wp2_with fail
  go_ret
  exact ⟨by first | (rw [← hy]; rfl) | (rw [hy]; rfl) | rfl, rfl⟩

/-- What Check answers. -/
def chk (ss : List ByteArray) (n : Nat) : Nat := if n = 0 then 4 else if 32 < n ∨ big ss n = true then 2 else 0

set_option maxHeartbeats 1000000 in
theorem TCheck_any (a : Option Addr) (n cap : Nat) (ss : List ByteArray) (w : World) (hn : n ≤ maxLen) (hT : TextsAt w a n ss) :
    Calls Try.prog 34 #[.slice a n cap] w fun e w' => e = .returned (.int .i64 (chk ss n)) ∧ w = w' := by
  unfold maxLen at hn
  by_cases h0 : n = 0
  · subst h0
    go_enter Try.func34, Try.ntmps34
    go_wp2_with fail
    go_ret
    exact ⟨rfl, rfl⟩
  · by_cases h32 : 32 < n
    · have e1 : ((n : Int) == 0) = false := beq_eq_false_iff_ne.2 (by omega)
      have hc : chk ss n = 2 := by unfold chk; rw [if_neg h0, if_pos (Or.inl h32)]
      rw [hc]
      clear hc hT
      go_enter Try.func34, Try.ntmps34
      go_wp2_with fail
      go_ret
      exact ⟨rfl, rfl⟩
    · have e1 : ((n : Int) == 0) = false := beq_eq_false_iff_ne.2 (by omega)
      have C1 := ContainsFunc_any a n cap ss w (by omega) hT
      have hc : chk ss n = if big ss n = true then 2 else 0 := by unfold chk; rw [if_neg h0]; simp [h32]
      rw [hc]
      clear hc hT
      rcases hb : big ss n with _ | _
      all_goals
        rw [hb] at C1
        go_enter Try.func34, Try.ntmps34
        go_wp2_with fail
        with_reducible refine C1.mono ?_
        rintro e w' ⟨rfl, rfl⟩
        go_wp2_with fail
        go_ret
        exact ⟨rfl, rfl⟩

/-- The root of a right list. -/
def rootOf (ss : List ByteArray) (n : Nat) : Nat := Tr.root (lvs ss n)

end Go.Proofs.Ytnbdceigenndfaa
