/- QueueSimple: where all are simple all may be done, in any order; for every input; what was there stands below. -/
import Derived.Test.YtoglkellaliegaaQuW8
import Derived.Test.YtoglkellaliegaaQueueGoes
import Derived.Deep.RegionHeld3
namespace Go.Proofs.Ytoglkellaliegaa
open Go.RowKit

theorem DeleteFunc_nil (w : World) : Calls Try.prog 29 #[.slice none 0 0, .func (.func 30) #[] #[]] w fun e w' => e = .returned (.slice none 0 0) ∧ Below w.heap.size w w' := by
  have I1 := IndexFunc_T none 0 [] _ _ _ w (by decide) eg_simple (fun h => absurd rfl h) (pred_simple w)
  have e1 : idx Qu.ns [] = -1 := rfl
  rw [e1, show ([] : List Qu.T).length = 0 from rfl] at I1
  clear e1
  go_enter Try.func29, Try.ntmps29
  go_wp2_with fail
  with_reducible refine I1.mono ?_
  rintro e w' ⟨rfl, hb⟩
  have HB := Lib.hid hb
  clear hb I1
  go_wp2_with fail
  go_ret
  exact ⟨rfl, HB.out⟩

/-- Two tasks in a row. -/
theorem lit_two (w : World) (T : TypeId) (x0 y0 x1 y1 : Int) : TSl (w.alloc (.cells #[.int .i64 x0, .int .i64 y0, .int .i64 x1, .int .i64 y1] T)) (some ⟨w.heap.size, 0, none⟩) 2 2 [(x0, y0), (x1, y1)] :=
  ⟨fun _ => ⟨w.heap.size, 0, rfl, by rw [World.size_alloc]; omega, fun j t hj => by
    rcases j with _ | _ | j
    · obtain rfl : (x0, y0) = t := by simpa using hj
      exact ⟨cell_new w (k := 0) rfl, cell_new w (k := 1) rfl⟩
    · obtain rfl : (x1, y1) = t := by simpa using hj
      exact ⟨cell_new w (k := 2) rfl, cell_new w (k := 3) rfl⟩
    · simp at hj⟩, rfl, Nat.le_refl _, by decide, fun h => nomatch h⟩

theorem zlit_two (w : World) (T : TypeId) (x y : Int) : ZSl (w.alloc (.cells #[.int .i64 x, .int .i64 y] T)) (some ⟨w.heap.size, 0, none⟩) 2 2 [x, y] :=
  ⟨fun _ => ⟨w.heap.size, 0, rfl, by rw [World.size_alloc]; omega, fun j u hj => by
    rcases j with _ | _ | j
    · obtain rfl : x = u := by simpa using hj
      exact cell_new w (k := 0) rfl
    · obtain rfl : y = u := by simpa using hj
      exact cell_new w (k := 1) rfl
    · simp at hj⟩, rfl, Nat.le_refl _, by decide⟩

theorem simple_test (w : World) (T : TypeId) : Calls Try.prog 19 #[.slice (some ⟨w.heap.size, 0, none⟩) 2 2] (w.alloc (.cells #[.int .i64 1, .int .i64 0, .int .i64 2, .int .i64 0] T)) fun e w' =>
    ∃ b d, e = .returned (.tuple #[.slice b 2 d, .int .i64 0]) ∧ ZSl w' b 2 d [1, 2] ∧ Below w.heap.size w w' := by
  refine (May_T _ 2 2 _ _ (good_of (by decide)) (lit_two w T 1 0 2 0)).mono ?_
  rintro e w' ⟨b, m, d, rfl, hz, hb⟩
  have e1 : Qu.mayL [(1, 0), (2, 0)] = [1, 2] := by decide
  rw [e1] at hz
  obtain rfl : m = 2 := by rw [← hz.len]; rfl
  exact ⟨b, d, rfl, hz, ((Below.refl _ w).alloc (Nat.le_refl _) _).trans (hb.mono (by rw [World.size_alloc]; omega))⟩

theorem simples_good {q : List Qu.T} (h : Qu.Good q) : Qu.Good (simples q) := h.sub List.filter_sublist

theorem simples_zero (q : List Qu.T) : ∀ t, t ∈ simples q → t.2 = 0 := by
  intro t ht
  have := (List.mem_filter.1 ht).2
  simpa [Qu.ns] using this

/-- What DeleteFunc leaves of what queued left. -/
def SimTo (w : World) (q : List Qu.T) (e : Ending) (w' : World) : Prop := ∃ b m d, e = .returned (.slice b m d) ∧ TSl w' b m d (simples q) ∧ (m ≠ 0 → ∃ g, b = some ⟨g, 0, none⟩) ∧ Below w.heap.size w w'

theorem simTo {w : World} {b : Option Addr} {m d base : Nat} {q : List Qu.T} (hG : Qu.Good q) (hown : w.ownsRow base 24 2 (.slice b m d) m (tv q)) (hb : w.heap.size = w.heap.size) (W0 : World) (hB : Below W0.heap.size W0 w) (hbase : W0.heap.size ≤ base) :
    Calls Try.prog 29 #[.slice b m d, .func (.func 30) #[] #[]] w fun e w' => SimTo W0 q e w' := by
  have hm : q.length = m := by have := hown.1; rw [tv_length] at this; omega
  have hm20 : m ≤ 20 := by rw [← hm]; exact hG.len
  rcases hown.2 with ⟨h, h0⟩ | ⟨g, cap, cur, h, -⟩
  · cases h
    have hq : q = [] := List.length_eq_zero_iff.1 hm
    subst hq
    refine (DeleteFunc_nil w).mono ?_
    rintro e w' ⟨rfl, hb2⟩
    exact ⟨none, 0, 0, rfl, ⟨fun h => absurd rfl h, rfl, Nat.le_refl _, Nat.zero_le _, fun _ => ⟨rfl, rfl⟩⟩, fun h => absurd rfl h, hB.trans (hb2.mono hB.size)⟩
  · cases h
    refine (DeleteFunc_T g d m W0.heap.size q w W0 (own_low hown hbase) (by omega) hB hB.size).mono ?_
    rintro e w' ⟨k, rfl, hk, hown2, hb2⟩
    obtain ⟨a', c', he, hT⟩ := tsl_own hown2 hk
    cases he
    exact ⟨_, k, d, rfl, hT, fun _ => ⟨g, rfl⟩, hb2⟩

set_option maxRecDepth 100000 in
set_option maxHeartbeats 16000000 in
theorem simple_core (a : Option Addr) (n c : Nat) (ts : List Qu.T) (z : Int) (w : World) (hT : TArg w a n c ts) :
    Calls Try.prog 7 #[.slice a n c, .int .i64 z] w fun e w' => e = .returned (.bool true) ∧ Below w.heap.size w w' := by
  have HG := Lib.hid (Qu.good_queued ts)
  have HQ : Hid (∀ w', Below w.heap.size w w' → Calls Try.prog 18 #[.slice a n c] w' fun e w'' => ∃ b m d, e = .returned (.slice b m d) ∧ TSl w'' b m d (Qu.queued ts) ∧ Below w'.heap.size w' w'' ∧ w''.ownsRow w'.heap.size 24 2 (.slice b m d) m (tv (Qu.queued ts))) := Lib.hid fun w' hb => queued_F a n c ts w' (hT.keep hb)
  have P1 := simple_test w 24
  clear hT
  generalize Qu.queued ts = q at *
  go_enter Try.func7, Try.ntmps7
  go_wp2_with fail
  with_reducible refine P1.mono ?_
  rintro e w1 ⟨b1, d1, rfl, hz1, hb1⟩
  have HB1 : Hid (∀ o k, Below w.heap.size w ((w1.alloc o).drewN k)) := Lib.hid fun o k => below_drewN (hb1.alloc hb1.size o) k
  have E1 := fun T => Equal_Z b1 (some ⟨w1.heap.size, 0, none⟩) 2 d1 2 [1, 2] (w1.alloc (.cells #[.int .i64 1, .int .i64 2] T)) (hz1.keep ((Below.refl _ _).alloc (Nat.le_refl _) _)) (zlit_two w1 T 1 2) (by decide)
  clear hb1 hz1 P1
  go_wp2_with fail
  with_reducible refine (E1 _).mono ?_
  rintro e w2 ⟨rfl, k2, rfl⟩
  have Q1 := HQ.out _ (HB1.out (.cells #[.int .i64 1, .int .i64 2] 3) k2)
  clear E1
  go_wp2_with fail
  with_reducible refine Q1.mono ?_
  rintro e w3 ⟨b3, m3, d3, rfl, -, hb3, hown3⟩
  have HB3 := Lib.hid ((HB1.out (.cells #[.int .i64 1, .int .i64 2] 3) k2).trans (hb3.mono (HB1.out _ k2).size))
  have D3 := simTo HG.out hown3 rfl w HB3.out (HB1.out (.cells #[.int .i64 1, .int .i64 2] 3) k2).size
  clear hb3 Q1 hown3
  go_wp2_with fail
  refine Calls.mono D3 ?_
  rintro e w4 ⟨b4, m4, d4, rfl, hT4, hg4, hb4⟩
  have HGS := Lib.hid (simples_good HG.out)
  have HZS := Lib.hid (simples_zero q)
  clear D3
  generalize simples q = s at *
  have HB4 := Lib.hid hb4
  have HT4 := Lib.hid hT4
  have hm20 : m4 ≤ 20 := by rw [← hT4.len]; exact HGS.out.len
  have M4 := May_T b4 m4 d4 s w4 HGS.out hT4
  have hml : (Qu.mayL s).length = m4 := by rw [← hT4.len]; exact Qu.mayN_simple HZS.out s.length
  clear hb4 hT4
  go_wp2_with fail
  with_reducible refine M4.mono ?_
  rintro e w5 ⟨b5, m5, d5, rfl, hz5, hb5⟩
  obtain rfl : m5 = m4 := by rw [← hz5.len]; exact hml
  have HB5 := Lib.hid (HB4.out.trans (hb5.mono HB4.out.size))
  have HT5 := Lib.hid (HT4.out.keep hb5)
  clear hb5 hz5 M4 hml
  by_cases h0 : m5 = 0
  · subst h0
    clear hg4
    go_wp2_with fail
    go_ret
    exact ⟨rfl, HB5.out⟩
  · obtain ⟨g, rfl⟩ := hg4 h0
    have hw := within_is (k := z) (n := m5) (N := (m5 : Int)) rfl (by omega) (by omega) rfl
    have hk := wi_lt z m5 (by omega)
    generalize wi z m5 = k at *
    have hks : k < s.length := by rw [HT5.out.len]; exact hk
    have hne : s ≠ [] := by rintro rfl; simp at hks
    obtain ⟨g', o', he, -, hc⟩ := HT5.out.at_ hne
    cases he
    have ct := (hc k s[k] (List.getElem?_eq_getElem hks)).1
    have D5 := Done_T (some ⟨g, 0, none⟩) m5 d4 k s s[k].1 w5 HGS.out HT5.out hks (by simp [List.getD, hks]) (Qu.may_simple HZS.out k)
    have e0 : ((m5 : Int) == 0) = false := beq_eq_false_iff_ne.2 (by omega)
    have hcap := HT5.out.cap
    have hmax := HT5.out.max
    unfold maxLen at hmax
    rw [Nat.zero_add] at ct
    clear hc hne
    generalize s[k].1 = x at *
    go_wp2_with fail
    with_reducible refine hw.use ?_
    rintro e w' ⟨rfl, rfl⟩
    go_wp2_with fail
    with_reducible refine D5.mono ?_
    rintro e w6 ⟨b6, d6, rfl, hT6, hb6⟩
    have HB6 := Lib.hid (HB5.out.trans (hb6.mono HB5.out.size))
    have HT6 := Lib.hid hT6
    have HS6 := Lib.hid (HT5.out.keep hb6)
    obtain ⟨A, hA, hTd⟩ : ∃ A : Addr, (if d4 = k + 1 then some (⟨g, 0, none⟩ : Addr) else some ⟨g, (k + 1) * 2, none⟩) = some A ∧ Hid (∀ W, Below w6.heap.size w6 W → TSl W (some A) (m5 - (k + 1)) (d4 - (k + 1)) (s.drop (k + 1))) := by
      have key : ∀ (A : Addr), (s.drop (k + 1) ≠ [] → A = ⟨g, (k + 1) * 2, none⟩) → ∀ W, Below w6.heap.size w6 W → TSl W (some A) (m5 - (k + 1)) (d4 - (k + 1)) (s.drop (k + 1)) := fun A hA W hW => ⟨fun h => by
        have hne : s ≠ [] := by rintro rfl; simp at h
        obtain ⟨g2, o2, he, hg, hc⟩ := (HS6.out.keep hW).at_ hne
        cases he
        refine ⟨g, (k + 1) * 2, by rw [hA h], hg, fun j t hj => ?_⟩
        rw [List.getElem?_drop] at hj
        obtain ⟨c1, c2⟩ := hc _ t hj
        rw [Nat.zero_add, Nat.add_mul] at c1 c2
        exact ⟨c1, c2⟩, by rw [List.length_drop, HS6.out.len], by omega, by unfold maxLen; omega, fun h => nomatch h⟩
      by_cases h : d4 = k + 1
      · exact ⟨⟨g, 0, none⟩, by rw [if_pos h], Lib.hid (key _ (fun hn => absurd (List.drop_eq_nil_of_le (by rw [HS6.out.len]; omega)) hn))⟩
      · exact ⟨⟨g, (k + 1) * 2, none⟩, by rw [if_neg h], Lib.hid (key _ (fun _ => rfl))⟩
    have hTk : Hid (∀ W, Below w6.heap.size w6 W → TSl W (some ⟨g, 0, none⟩) k d4 (s.take k)) := Lib.hid fun W hW => ⟨(HS6.out.keep hW).at_.take k, by rw [List.length_take, HS6.out.len]; omega, by omega, by unfold maxLen; omega, fun h => nomatch h⟩
    have CC : Hid (∀ W T, Below w6.heap.size w6 W → Calls Try.prog 31 #[.slice (some ⟨W.heap.size, 0, none⟩) 2 2] (W.alloc (.cells #[.slice (some ⟨g, 0, none⟩) k d4, .slice (some A) (m5 - (k + 1)) (d4 - (k + 1))] T)) fun e w' => ∃ b c, e = .returned (.slice b (m5 - 1) c) ∧ TSl w' b (m5 - 1) c (cut s k) ∧ Below w6.heap.size w6 w') := Lib.hid fun W T hW => by
      have hA2 := hW.alloc hW.size (.cells #[.slice (some ⟨g, 0, none⟩) k d4, .slice (some A) (m5 - (k + 1)) (d4 - (k + 1))] T)
      obtain ⟨q1, q2⟩ := cells_two W T (.slice (some ⟨g, 0, none⟩) k d4) (.slice (some A) (m5 - (k + 1)) (d4 - (k + 1)))
      refine (Concat2_T W.heap.size 2 k d4 (m5 - (k + 1)) (d4 - (k + 1)) _ _ (s.take k) (s.drop (k + 1)) _ (by rw [World.size_alloc]; omega) q1 q2 (hTk.out _ hA2) (hTd.out _ hA2) (by omega) (by omega)).mono ?_
      rintro e w' ⟨v, rfl, ho, hb⟩
      rw [show k + (m5 - (k + 1)) = m5 - 1 from by omega] at ho
      obtain ⟨b, c, rfl, h⟩ := tsl_own ho (by rw [List.length_append, List.length_take, List.length_drop, HS6.out.len]; omega)
      exact ⟨b, c, rfl, h, hA2.trans (hb.mono hA2.size)⟩
    clear hT6 hb6 D5 ct hks
    have kc : k ≤ d4 := by omega
    have kc1 : k + 1 ≤ d4 := by omega
    have k0 : (0 : Int) ≤ (k : Int) + 1 := by omega
    have k1 : (k : Int) + 1 ≤ (m5 : Int) := by omega
    have kt : ((k : Int) + 1).toNat = k + 1 := by omega
    have kI : (k : Int) ≤ (d4 : Int) := by omega
    have kI0 : (0 : Int) ≤ (k : Int) := by omega
    have kI2 : (k : Int) + 1 ≤ (d4 : Int) := by omega
    have mI : (m5 : Int) ≤ (d4 : Int) := by omega
    have kk : (k : Int).toNat = k := by omega
    have kw : IntKind.i64.wrap ((k : Int) + 1) = (k : Int) + 1 := IntWalk.i64_in _ (by omega)
    go_wp2_with fail
    have CD := fun T => (CC.out w6 T (Below.refl _ _))
    have CE : ∀ T, Calls Try.prog 31 #[.slice (some ⟨w6.heap.size, 0, none⟩) 2 2] ((w6.alloc (.cells #[.slice (some ⟨g, 0, none⟩) k d4, .slice (some A) (m5 - (k + 1)) (d4 - (k + 1))] T)).drew) fun e w' => ∃ b c, e = .returned (.slice b (m5 - 1) c) ∧ TSl w' b (m5 - 1) c (cut s k) ∧ Below w6.heap.size w6 w' := fun T => CC.out w6.drew T (Below.refl _ _).drew
    clear CD
    have HR6 : Below w6.heap.size w6 w6 := Below.refl _ _
    clear hw HQ h0 e0
    go_region_held3 (fun w' => Below w6.heap.size w6 w')
      (first
        | assumption
        | exact Below.drew (by assumption)
        | exact Below.alloc (by assumption) (Below.size (by assumption)) _
        | exact Below.alloc (Below.drew (by assumption)) (Below.size (by assumption)) _
        | exact HB7.out
        | exact below_drewN HB7.out _
        | exact below_drewN (by assumption) _)
      (first
        | (go_at_call 31; ((with_reducible refine (CE _).mono ?_)); rintro e w7 ⟨b7, c7, rfl, hT7, hb7⟩; have HT7 := Lib.hid hT7; have HB7 := Lib.hid hb7; clear hT7 hb7)
        | (go_at_call 24; ((with_reducible refine (Equal_T b6 b7 (m5 - 1) d6 c7 (cut s k) _ (HT6.out.keep HB7.out) HT7.out (by omega)).mono ?_)); rintro e w8 ⟨rfl, k8, rfl⟩))
    go_wp2_with fail
    go_ret
    exact ⟨rfl, HB6.out.trans (Below.mono (by assumption) HB6.out.size)⟩

theorem queueSimple_walk (a0 : Option Addr) (len0 cap0 : Nat) (t0 : List (Int × Int)) (a1 : Int) (w : World) (w0 : IsRowT w a0 len0 cap0 t0) (_ : (Lit.int .i64 a1).wf = true) :
    Calls Try.prog 7 #[.slice a0 len0 cap0, .int .i64 a1] w fun e w' => e = .returned (.bool true) ∧ Below w.heap.size w w' :=
  simple_core a0 len0 cap0 t0 a1 w (targ_of w0)

end Go.Proofs.Ytoglkellaliegaa
