/- Walks: queued, queue.May. -/
import Derived.Test.YtoglkellaliegaaQuW4
import Derived.Test.YtoglkellaliegaaArgsT
namespace Go.Proofs.Ytoglkellaliegaa
open Go.RowKit

/-- A list of tasks and a number, as a call leaves them. -/
def AddR (w : World) (l : List Qu.T) (k : Int) (e : Ending) (w' : World) : Prop := ∃ a n c, e = .returned (.tuple #[.slice a n c, .int .i64 k]) ∧ TSl w' a n c l ∧ Below w.heap.size w w' ∧ w'.ownsRow w.heap.size 24 2 (.slice a n c) n (tv l)

theorem add_ok {a : Option Addr} {n c : Nat} {ts : List Qu.T} {x y : Int} {w : World} (hG : Qu.Good ts) (hT : TSl w a n c ts) (h : Qu.addE ts (x, y) = 0) :
    Calls Try.prog 17 #[.slice a n c, .agg #[.int .i64 x, .int .i64 y]] w (AddR w (Qu.addL ts (x, y)) 0) := by
  refine (Add_T a n c ts x y w hG hT).mono ?_
  rintro e w' ⟨a2, c2, rfl, h2, hb⟩
  have e2 : Qu.addA ts (x, y) = Qu.addL ts (x, y) := by unfold Qu.addA; rw [if_pos h]
  rw [e2] at h2 hb ⊢
  rw [h]
  exact ⟨a2, _, c2, rfl, h2, hb⟩

theorem add_bad {a : Option Addr} {n c : Nat} {ts : List Qu.T} {x y : Int} {w : World} (hG : Qu.Good ts) (hT : TSl w a n c ts) (h : Qu.addE ts (x, y) ≠ 0) :
    ∃ K : Int, (K == 0) = false ∧ (K != 0) = true ∧ Calls Try.prog 17 #[.slice a n c, .agg #[.int .i64 x, .int .i64 y]] w (AddR w [] K) := by
  refine ⟨(Qu.addE ts (x, y) : Nat), beq_eq_false_iff_ne.2 (by omega), bne_iff_ne.2 (by omega), (Add_T a n c ts x y w hG hT).mono ?_⟩
  rintro e w' ⟨a2, c2, rfl, h2, hb⟩
  have e2 : Qu.addA ts (x, y) = [] := by unfold Qu.addA; rw [if_neg h]
  rw [e2] at h2 hb ⊢
  exact ⟨a2, _, c2, rfl, h2, hb⟩

/-- A slice of tasks that came in. -/
structure TArg (w : World) (a : Option Addr) (n c : Nat) (ts : List Qu.T) : Prop where
  at_ : ts ≠ [] → ∃ x, a = some x ∧ ∀ (j : Nat) (t : Qu.T), ts[j]? = some t → w.cell? (x.add (j * 2)) = some (.int .i64 t.1) ∧ w.cell? (x.add (j * 2 + 1)) = some (.int .i64 t.2)
  len : ts.length = n
  cap : n ≤ c
  max : c ≤ maxLen

theorem TArg.keep {w w' : World} {a : Option Addr} {n c : Nat} {ts : List Qu.T} (h : TArg w a n c ts) (hb : Below w.heap.size w w') : TArg w' a n c ts := ⟨fun h0 => by
  obtain ⟨x, rfl, hc⟩ := h.at_ h0
  refine ⟨x, rfl, fun j t hj => ?_⟩
  obtain ⟨c1, c2⟩ := hc j t hj
  exact ⟨by rw [hb.cell (World.block_lt_of_cell? w _ c1)]; exact c1, by rw [hb.cell (World.block_lt_of_cell? w _ c2)]; exact c2⟩, h.len, h.cap, h.max⟩

theorem targ_of {w : World} {a : Option Addr} {n c : Nat} {ts : List (Int × Int)} (h : IsRowT w a n c ts) : TArg w a n c ts := by
  rcases h with ⟨rfl, rfl, rfl, rfl⟩ | ⟨x, rfl, h1, h2, h3, h4⟩
  · exact ⟨fun h => absurd rfl h, rfl, Nat.le_refl _, Nat.zero_le _⟩
  · exact ⟨fun _ => ⟨x, rfl, fun j t hj => ⟨(h4 j t hj).1, (h4 j t hj).2.1⟩⟩, h3, h1, h2⟩

set_option maxRecDepth 100000 in
set_option maxHeartbeats 4000000 in
theorem queued_F (a : Option Addr) (n c : Nat) (ts : List Qu.T) (w : World) (hT : TArg w a n c ts) :
    Calls Try.prog 18 #[.slice a n c] w fun e w' => ∃ b m d, e = .returned (.slice b m d) ∧ TSl w' b m d (Qu.queued ts) ∧ Below w.heap.size w w' ∧ w'.ownsRow w.heap.size 24 2 (.slice b m d) m (tv (Qu.queued ts)) := by
  have hn : n ≤ 9223372036854775807 := by have := hT.cap; have := hT.max; unfold maxLen at this; omega
  have HT := Lib.hid hT
  clear hT
  go_enter Try.func18, Try.ntmps18
  go_wp2_with fail
  go_loopw [3, 10] (fun v i wr => ∃ (k : Nat) (b : Option Addr) (m d : Nat), k ≤ n ∧ i = .int .i64 k ∧ v = .slice b m d ∧ Hid (TSl wr b m d (Qu.queued (ts.take k))) ∧ Hid (Below w.heap.size w wr) ∧ Hid (wr.ownsRow w.heap.size 24 2 (.slice b m d) m (tv (Qu.queued (ts.take k))))) (fun _ i _ => n - (intOf i).toNat)
  case atStart => exact ⟨0, none, 0, 0, Nat.zero_le _, rfl, rfl, Lib.hid ⟨fun h => absurd rfl h, rfl, Nat.le_refl _, Nat.zero_le _, fun _ => ⟨rfl, rfl⟩⟩, Lib.hid (Below.refl _ _), Lib.hid (World.ownsRow_nil _ _ _ _)⟩
  case round =>
    obtain ⟨k, b, m, d, hk, rfl, rfl, hQ, hB, hFr⟩ := hrel
    by_cases hlt : k < n
    · have hk' : k < ts.length := by rw [HT.out.len]; exact hlt
      have hne : ts ≠ [] := by rintro rfl; simp at hk'
      obtain ⟨x0, rfl, hc⟩ := (HT.out.keep hB.out).at_ hne
      obtain ⟨c1, c2⟩ := hc k ts[k] (List.getElem?_eq_getElem hk')
      obtain ⟨yb, yo, ys, hy⟩ : ∃ b o s, x0.add (k * 2) = ⟨b, o, s⟩ := ⟨_, _, _, rfl⟩
      rw [← Go.Deep.add_add, hy, show (⟨yb, yo, ys⟩ : Addr).add 1 = ⟨yb, yo + 1, none⟩ from rfl] at c2
      rw [hy] at c1
      have HQ : Hid (Qu.queued (ts.take (k + 1)) = Qu.put (Qu.queued (ts.take k)) (ts[k].1, ts[k].2)) := Lib.hid (by rw [List.take_succ_eq_append_getElem hk', Qu.queued_snoc])
      clear hc hne
      generalize ts[k].1 = x at *
      generalize ts[k].2 = y at *
      have HG := Lib.hid (Qu.good_queued (ts.take k))
      generalize Qu.queued (ts.take k) = q at *
      have HA : ∀ o, Below wr.heap.size wr (wr.alloc o) := fun o => (Below.refl _ _).alloc (Nat.le_refl _) _
      by_cases hE : Qu.addE q (x, y) = 0
      · have A1 := fun o => add_ok HG.out (hQ.out.keep (HA o)) hE
        have HP : Hid (Qu.put q (x, y) = Qu.addL q (x, y)) := Lib.hid (by unfold Qu.put; rw [if_pos hE])
        have HA2 := Lib.hid HA
        clear hE HA
        go_wp2_with fail
        with_reducible refine (A1 _).mono ?_
        rintro e w2 ⟨b2, m2, d2, rfl, hT2, hb2, hfr2⟩
        have HFr2 := Lib.hid (own_low hfr2 (hB.out.alloc hB.out.size (.cells #[.int .i64 x, .int .i64 y] 24)).size)
        clear hfr2
        have HB2 := Lib.hid (hB.out.trans (((HA2.out _).trans (hb2.mono (HA2.out _).size)).mono hB.out.size))
        have HT2 := Lib.hid hT2
        clear hT2 hb2 A1
        go_wp2_with fail
        go_roundw
        case rel => exact ⟨k + 1, b2, m2, d2, hlt, by go_num, rfl, Lib.hid (by rw [HQ.out, HP.out]; exact HT2.out), HB2, Lib.hid (by rw [HQ.out, HP.out]; exact HFr2.out)⟩
        case measure => simp [intOf]; omega
      · have A1 := fun o => add_bad HG.out (hQ.out.keep (HA o)) hE
        have HP : Hid (Qu.put q (x, y) = q) := Lib.hid (by unfold Qu.put; rw [if_neg hE])
        have HA2 := Lib.hid HA
        clear hE HA
        have HA1 := Lib.hid A1
        clear A1
        go_wp2_with fail
        obtain ⟨K, k1, k2, A2⟩ := HA1.out (.cells #[.int .i64 x, .int .i64 y] 24)
        with_reducible refine A2.mono ?_
        rintro e w2 ⟨b2, m2, d2, rfl, hT2, hb2, -⟩
        have HQ2 := Lib.hid (hQ.out.keep ((HA2.out _).trans (hb2.mono (HA2.out _).size)))
        have HFr2 := Lib.hid (own_keep hFr.out ((HA2.out _).trans (hb2.mono (HA2.out _).size)))
        have HB2 := Lib.hid (hB.out.trans (((HA2.out _).trans (hb2.mono (HA2.out _).size)).mono hB.out.size))
        clear hT2 hb2 A2
        go_wp2_with fail
        go_roundw
        case rel => exact ⟨k + 1, b, m, d, hlt, by go_num, rfl, Lib.hid (by rw [HQ.out, HP.out]; exact HQ2.out), HB2, Lib.hid (by rw [HQ.out, HP.out]; exact HFr2.out)⟩
        case measure => simp [intOf]; omega
    · obtain rfl : k = n := by omega
      have HF : Hid (TSl wr b m d (Qu.queued ts)) := Lib.hid (by have := hQ.out; rw [List.take_of_length_le (by rw [HT.out.len]; exact Nat.le_refl _)] at this; exact this)
      have HF3 : Hid (wr.ownsRow w.heap.size 24 2 (.slice b m d) m (tv (Qu.queued ts))) := Lib.hid (by have := hFr.out; rw [List.take_of_length_le (by rw [HT.out.len]; exact Nat.le_refl _)] at this; exact this)
      go_wp2_with fail
      go_ret
      exact ⟨b, m, d, rfl, HF.out, hB.out, HF3.out⟩

theorem queued_T (a : Option Addr) (n c : Nat) (ts : List Qu.T) (w : World) (hT : TArg w a n c ts) :
    Calls Try.prog 18 #[.slice a n c] w fun e w' => ∃ b m d, e = .returned (.slice b m d) ∧ TSl w' b m d (Qu.queued ts) ∧ Below w.heap.size w w' :=
  (queued_F a n c ts w hT).mono fun _ _ ⟨b, m, d, he, h1, h2, _⟩ => ⟨b, m, d, he, h1, h2⟩

/-- Integers as values. -/
def zv (l : List Int) : List Value := l.map fun x => .int .i64 x

theorem zv_snoc (l : List Int) (x : Int) : zv (l ++ [x]) = zv l ++ [.int .i64 x] := by unfold zv; rw [List.map_append]; rfl

/-- A slice of integers, whole. -/
structure ZSl (w : World) (a : Option Addr) (n c : Nat) (l : List Int) : Prop where
  at_ : l ≠ [] → ∃ g o, a = some ⟨g, o, none⟩ ∧ g < w.heap.size ∧ ∀ (j : Nat) (x : Int), l[j]? = some x → w.cell? ⟨g, o + j, none⟩ = some (.int .i64 x)
  len : l.length = n
  cap : n ≤ c
  max : c ≤ maxLen

theorem ZSl.keep {w w' : World} {a : Option Addr} {n c : Nat} {l : List Int} (h : ZSl w a n c l) (hb : Below w.heap.size w w') : ZSl w' a n c l := ⟨fun h0 => by
  obtain ⟨g, o, rfl, hg, hc⟩ := h.at_ h0
  exact ⟨g, o, rfl, Nat.lt_of_lt_of_le hg hb.size, fun j x hj => by rw [hb.cell (p := ⟨g, o + j, none⟩) hg]; exact hc j x hj⟩, h.len, h.cap, h.max⟩

theorem zsl_own {w : World} {base n : Nat} {e : TypeId} {v : Value} {l : List Int} (h : w.ownsRow base e 1 v n (zv l)) : ∃ a c, v = .slice a n c ∧ ZSl w a n c l := by
  have hn : l.length = n := by have := h.1; unfold zv at this; simpa using this
  rcases h.2 with ⟨rfl, h0⟩ | ⟨g, cap, cur, rfl, hb, hh, hnc, hcm, h'⟩
  · have : l = [] := List.length_eq_zero_iff.1 (by omega)
    subst this
    exact ⟨none, 0, by rw [h0], fun h => absurd rfl h, hn, by omega, Nat.zero_le _⟩
  · have hlt : g < w.heap.size := by
      rcases Nat.lt_or_ge g w.heap.size with h | h
      · exact h
      · rw [Array.getElem?_eq_none h] at hh; cases hh
    refine ⟨_, cap, rfl, fun _ => ⟨g, 0, rfl, hlt, fun j x hj => ?_⟩, hn, hnc, hcm⟩
    have c1 := h.cells (g := g) rfl j (.int .i64 x) (by unfold zv; simp [hj])
    rw [addr_lit] at c1
    exact c1

set_option maxRecDepth 100000 in
set_option maxHeartbeats 4000000 in
theorem May_T (a : Option Addr) (n c : Nat) (ts : List Qu.T) (w : World) (hG : Qu.Good ts) (hT : TSl w a n c ts) :
    Calls Try.prog 19 #[.slice a n c] w fun e w' => ∃ b m d, e = .returned (.tuple #[.slice b m d, .int .i64 0]) ∧ ZSl w' b m d (Qu.mayL ts) ∧ Below w.heap.size w w' := by
  obtain ⟨i0, hi, hz0, hz1, hz2⟩ := info_parts Try.infoInt
  have hn20 : n ≤ 20 := by rw [← hT.len]; exact hG.len
  have C1 := Check_T a c n ts w hT.len hT.cap hT.max hG hT.at_
  have HT := Lib.hid hT
  clear hT hG
  go_enter Try.func19, Try.ntmps19
  go_wp2_with fail
  with_reducible refine C1.mono ?_
  rintro e w1 ⟨rfl, hb1⟩
  have HB1 := Lib.hid hb1
  clear hb1 C1
  go_wp2_with fail
  go_loopw [5, 15] (fun v i wr => ∃ k : Nat, k ≤ n ∧ i = .int .i64 k ∧ Hid (wr.ownsRow w.heap.size 3 1 v (Qu.mayN ts k).length (zv (Qu.mayN ts k))) ∧ Hid (Below w.heap.size w wr)) (fun _ i _ => n - (intOf i).toNat)
  case atStart => exact ⟨0, Nat.zero_le _, rfl, Lib.hid (World.ownsRow_nil _ _ _ _), HB1⟩
  case round =>
    obtain ⟨k, hk, rfl, hO, hB⟩ := hrel
    by_cases hlt : k < n
    · have hk' : k < ts.length := by rw [HT.out.len]; exact hlt
      have hne : ts ≠ [] := by rintro rfl; simp at hk'
      obtain ⟨g, o, rfl, hg, hc⟩ := (HT.out.keep hB.out).at_ hne
      obtain ⟨c1, c2⟩ := hc k ts[k] (List.getElem?_eq_getElem hk')
      have eg : ts.getD k (0, 0) = ts[k] := by simp [List.getD, hk']
      have HN : Hid (Qu.mayN ts (k + 1) = Qu.mayN ts k ++ if Qu.may ts k = true then [ts[k].1] else []) := Lib.hid (by rw [Qu.mayN, eg])
      have hml := Qu.mayN_len ts k
      clear hc hne eg
      generalize ts[k].1 = x at *
      generalize ts[k].2 = y at *
      have HM : Hid (∀ v, Qu.may ts k = v → ∀ T, Calls Try.prog 61 #[.slice (some ⟨g, o, none⟩) n c, .int .i64 k] (wr.alloc (.cells #[.int .i64 x, .int .i64 y] T)) fun e w' => e = .returned (.bool v) ∧ Below (wr.alloc (.cells #[.int .i64 x, .int .i64 y] T)).heap.size (wr.alloc (.cells #[.int .i64 x, .int .i64 y] T)) w') :=
        Lib.hid fun v hv T => may_T (some ⟨g, o, none⟩) c n k ts v _ HT.out.len HT.out.cap HT.out.max hlt (by omega) (HT.out.keep (hB.out.alloc hB.out.size _)).at_ hv
      generalize hl' : (Qu.mayN ts k).length = m at *
      generalize Qu.mayN ts k = l at *
      have HL := Lib.hid hl'
      clear hl'
      rcases hm : Qu.may ts k with _ | _
      · have M1 := HM.out _ hm
        have HN2 : Hid (Qu.mayN ts (k + 1) = l) := Lib.hid (by rw [HN.out, hm, if_neg (by decide), List.append_nil])
        clear hm HM
        go_wp2_with fail
        with_reducible refine (M1 _).mono ?_
        rintro e w2 ⟨rfl, hb2⟩
        have HB2 := Lib.hid ((hB.out.alloc hB.out.size (.cells #[.int .i64 x, .int .i64 y] 24)).trans (hb2.mono (hB.out.alloc hB.out.size _).size))
        have HO2 : Hid (w2.ownsRow w.heap.size 3 1 u5 m (zv l)) := Lib.hid (own_keep (hO.out.alloc _) hb2)
        clear hb2 M1
        go_wp2_with fail
        go_roundw
        case rel => exact ⟨k + 1, hlt, by go_num, Lib.hid (by rw [HN2.out, HL.out]; exact HO2.out), HB2⟩
        case measure => simp [intOf]; omega
      · have M1 := HM.out _ hm
        have HN2 : Hid (Qu.mayN ts (k + 1) = l ++ [x]) := Lib.hid (by rw [HN.out, hm, if_pos rfl])
        have hb1 : m + 1 ≤ maxLen := by unfold maxLen; omega
        have hb2 : (m + 1) * 8 ≤ 140737488355328 := by omega
        have HBB := Lib.hid hb1; have HBC := Lib.hid hb2
        clear hm HM hb1 hb2
        go_wp2_with fail
        with_reducible refine (M1 _).mono ?_
        rintro e w2 ⟨rfl, hb2⟩
        have HX := Lib.hid ((box_new wr 24 x y).on hb2)
        have cB := HX.out.c0
        have HB2 := Lib.hid ((hB.out.alloc hB.out.size (.cells #[.int .i64 x, .int .i64 y] 24)).trans (hb2.mono (hB.out.alloc hB.out.size _).size))
        have HO2 : Hid (w2.ownsRow w.heap.size 3 1 u5 m (zv l)) := Lib.hid (own_keep (hO.out.alloc _) hb2)
        have H2 := Lib.hid (HO2.out.alloc (.cells #[.int .i64 x] 3))
        have H3 : Hid (∀ j u, [Value.int .i64 x][j]? = some u → (w2.alloc (.cells #[.int .i64 x] 3)).cell? ((⟨w2.heap.size, 0, none⟩ : Addr).add j) = some u) := Lib.hid (by
          intro j u hu
          match j, hu with
          | 0, hu =>
            obtain rfl : Value.int .i64 x = u := by simpa using hu
            exact cell_new w2 (k := 0) rfl
          | j + 1, hu => simp at hu)
        have H4 : Hid (∀ u ∈ [Value.int .i64 x], u.oneCell' = true) := Lib.hid (by intro u hu; rw [List.mem_singleton.1 hu]; rfl)
        have H5 : Hid (w.heap.size ≤ (w2.alloc (.cells #[.int .i64 x] 3)).heap.size) := Lib.hid (by rw [World.size_alloc]; have := HB2.out.size; omega)
        clear hb2 M1
        go_wp2_with (at_builtin; refine wpList_append_lies _ rfl _ _ _ rfl w.heap.size 3 i0 (.int .i64 0) 1 8 Try.underlying29 hi hz0 hz1 hz2 rfl (by decide) u5 m _ rfl H2.out ⟨w2.heap.size, 0, none⟩ 1 1 [.int .i64 x] rfl rfl H3.out H4.out (by decide) HBB.out HBC.out H5.out _ rfl ?_)
        intro g' cap' wq q1 q2 q3 q4
        have HB3 := Lib.hid (own_grown H2.out (HB2.out.alloc HB2.out.size _) (Nat.le_refl _) H5.out q2)
        have HO3 : Hid (wq.ownsRow w.heap.size 3 1 (.slice (some ⟨g', 0, none⟩) (m + 1) cap') (m + 1) (zv (l ++ [x]))) := Lib.hid (by rw [zv_snoc]; exact q1)
        clear q1 q2 q3 q4 H2 H3 H5
        go_wp2_with fail
        go_roundw
        case rel => exact ⟨k + 1, hlt, by go_num, Lib.hid (by rw [HN2.out, List.length_append, HL.out]; exact HO3.out), HB3⟩
        case measure => simp [intOf]; omega
    · obtain rfl : k = n := by omega
      obtain ⟨b, d, hv, hZ⟩ := zsl_own hO.out
      have HF : Hid (ZSl wr b (Qu.mayN ts k).length d (Qu.mayL ts)) := Lib.hid (by unfold Qu.mayL; rw [HT.out.len]; exact hZ)
      subst hv
      clear hZ
      go_wp2_with fail
      go_ret2
      exact ⟨b, _, d, rfl, HF.out, hB.out⟩

theorem ZSl.take {w : World} {a : Option Addr} {n c : Nat} {l : List Int} (h : ZSl w a n c l) {m : Nat} (hm : m ≤ n) : ZSl w a m c (l.take m) := by
  refine ⟨fun h0 => ?_, by rw [List.length_take, h.len]; omega, Nat.le_trans hm h.cap, h.max⟩
  have hne : l ≠ [] := by rintro rfl; simp at h0
  obtain ⟨g, o, rfl, hg, hc⟩ := h.at_ hne
  refine ⟨g, o, rfl, hg, fun j x hj => hc j x ?_⟩
  rw [List.getElem?_take] at hj
  split at hj
  · exact hj
  · cases hj

set_option maxRecDepth 100000 in
set_option maxHeartbeats 2000000 in
theorem Equal_Z (a b : Option Addr) (n c1 c2 : Nat) (l : List Int) (w : World) (h1 : ZSl w a n c1 l) (h2 : ZSl w b n c2 l) (hn : n ≤ 1099511627776) :
    Calls Try.prog 21 #[.slice a n c1, .slice b n c2] w fun e w' => e = .returned (.bool true) ∧ ∃ q, w' = w.drewN q := by
  have H1 := Lib.hid h1; have H2 := Lib.hid h2; clear h1 h2
  go_enter Try.func21, Try.ntmps21
  go_wp2_with fail
  go_loopw [13] (fun x wr => ∃ k : Nat, k ≤ n ∧ x = .int .i64 k ∧ ∃ j, wr = w.drewN j) (fun x _ => n - (intOf x).toNat)
  case atStart => exact ⟨0, Nat.zero_le _, rfl, 0, rfl⟩
  case round =>
    obtain ⟨k, hk, rfl, hj⟩ := hrel
    by_cases hlt : k < n
    · have hk' : k < l.length := by rw [H1.out.len]; exact hlt
      have hne : l ≠ [] := by rintro rfl; simp at hk'
      obtain ⟨A, o1, rfl, -, e1⟩ := H1.out.at_ hne
      obtain ⟨B, o2, rfl, -, e2⟩ := H2.out.at_ hne
      have g1 := e1 k l[k] (List.getElem?_eq_getElem hk')
      have g2 := e2 k l[k] (List.getElem?_eq_getElem hk')
      clear e1 e2 hne
      generalize l[k] = x at *
      obtain ⟨j, rfl⟩ := hj
      go_wp2_with fail
      go_region
      all_goals
        go_wp2_with fail
        go_roundw
        case rel => exact ⟨k + 1, hlt, by go_num, j + 1, rfl⟩
        case measure => simp [intOf]; omega
    · obtain rfl : k = n := by omega
      go_wp2_with fail
      go_ret
      exact ⟨rfl, hj⟩

set_option maxRecDepth 100000 in
set_option maxHeartbeats 2000000 in
theorem Index_Z (a : Option Addr) (n c : Nat) (l : List Int) (x : Int) (w : World) (h1 : ZSl w a n c l) (hx : x ∈ l) (hn : n ≤ 1099511627776) :
    Calls Try.prog 62 #[.slice a n c, .int .i64 x] w fun e w' => ∃ i : Nat, e = .returned (.int .i64 i) ∧ w = w' := by
  obtain ⟨m, hm, hmx⟩ := List.getElem_of_mem hx
  have H1 := Lib.hid h1
  have HX : Hid (∃ hm : m < l.length, l[m] = x) := Lib.hid ⟨hm, hmx⟩
  clear h1 hmx hx hm
  go_enter Try.func62, Try.ntmps62
  go_wp2_with fail
  go_loop [8] (fun x => ∃ k : Nat, k ≤ m ∧ x = .int .i64 k) (fun x => m + 1 - (intOf x).toNat)
  case atStart => exact ⟨0, Nat.zero_le _, rfl⟩
  case round =>
    obtain ⟨k, hk, rfl⟩ := hrel
    obtain ⟨hm', hmx⟩ := HX.out
    have hm2 := hm'
    rw [H1.out.len] at hm2
    have hlt : k < n := by omega
    have hk' : k < l.length := by rw [H1.out.len]; exact hlt
    have hne : l ≠ [] := by rintro rfl; simp at hk'
    obtain ⟨A, o1, rfl, -, e1⟩ := H1.out.at_ hne
    have g1 := e1 k l[k] (List.getElem?_eq_getElem hk')
    have HK : Hid (k = m → l[k] = x) := Lib.hid fun e => by subst e; exact hmx
    clear e1 hne hmx hm'
    generalize l[k] = y at *
    by_cases hxy : x = y
    · subst hxy
      have e1 : (x == x) = true := beq_self_eq_true x
      go_wp2_with fail
      go_ret
      exact ⟨⟨k, rfl⟩, rfl⟩
    · have e1 : (x == y) = false := beq_eq_false_iff_ne.2 hxy
      have hkm : k < m := by
        rcases Nat.lt_or_ge k m with h | h
        · exact h
        · exact absurd (HK.out (by omega)).symm hxy
      go_wp2_with fail
      go_round
      case rel => exact ⟨k + 1, by omega, by go_num⟩
      case measure => simp [intOf]; omega

theorem Contains_Z (a : Option Addr) (n c : Nat) (l : List Int) (x : Int) (w : World) (h1 : ZSl w a n c l) (hx : x ∈ l) (hn : n ≤ 1099511627776) :
    Calls Try.prog 20 #[.slice a n c, .int .i64 x] w fun e w' => e = .returned (.bool true) ∧ w = w' := by
  have I1 := Index_Z a n c l x w h1 hx hn
  clear h1 hx
  go_enter Try.func20, Try.ntmps20
  go_wp2_with fail
  with_reducible refine I1.mono ?_
  rintro e w' ⟨i, rfl, rfl⟩
  go_wp2_with fail
  go_ret
  exact ⟨rfl, rfl⟩

end Go.Proofs.Ytoglkellaliegaa
