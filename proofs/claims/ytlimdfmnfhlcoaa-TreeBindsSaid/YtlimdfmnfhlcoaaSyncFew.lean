/- SyncFew: where few places differ few pairs are looked at; for every input within the reach, below: what was there stands below. -/
import Derived.Test.YtlimdfmnfhlcoaaSyncSame
import Derived.Test.YtlimdfmnfhlcoaaSyncFewP
import Derived.Laws.AppendOwn
import Derived.Lib.SliceRun
namespace Go.Proofs.Ytlimdfmnfhlcoaa
open Go.RowKit

/-- Texts as values. -/
def sv (l : List ByteArray) : List Value := l.map fun s => .string s

/-- The first n of a row. -/
def firstN (ss : List ByteArray) (n : Nat) : List ByteArray := (List.range n).map fun i => ss.getD i ByteArray.empty

theorem firstN_length (ss : List ByteArray) (n : Nat) : (firstN ss n).length = n := by unfold firstN; simp

theorem firstN_get (ss : List ByteArray) {n i : Nat} (h : i < n) : (firstN ss n).getD i ByteArray.empty = ss.getD i ByteArray.empty := by
  unfold firstN
  simp [List.getD, h]

theorem Try.infoStr : (Try.prog.info? 9).map (fun i => (i.zero, i.size, i.bytes)) = some (some (.string ByteArray.empty), 1, 16) := by kernel_rfl

theorem below_own {w w' : World} {base : Nat} {e : TypeId} {size : Nat} {v : Value} {n : Nat} {xs : List Value} (h : w.ownsRow base e size v n xs) {B : Nat} {W : World} (hB : Below B W w) (hb : B ≤ base) (hs : B ≤ w.heap.size) (hg : w.grownBy w' v.ownBlock) : Below B W w' :=
  hB.grown hg hs (fun k hk => Nat.le_trans hb (row_base h k hk))

set_option maxRecDepth 100000 in
set_option maxHeartbeats 4000000 in
theorem Clone_S (a : Option Addr) (n c : Nat) (ss : List ByteArray) (w : World) (hT : TextsAt w a n ss) (hnil : a = none → n = 0 ∧ c = 0) (hn : n * 16 ≤ 140737488351232) :
    Calls Try.prog 21 #[.slice a n c] w fun e w' => ∃ v, e = .returned v ∧ w'.ownsRow w.heap.size 9 1 v n (sv (firstN ss n)) ∧ Below w.heap.size w w' := by
  obtain ⟨i0, hi, hz0, hz1, hz2⟩ := info_parts Try.infoStr
  rcases a with _ | x
  · obtain ⟨rfl, rfl⟩ := hnil rfl
    clear hT hnil
    have en : ∀ w, (binOp .eql 22 (.slice none 0 0) (.slice none 0 0)).run Try.prog w = .ok (.bool true) w := fun w => Lib.run_eql_slice_nil w 22 9 none 0 0 0 0 Try.underlying22
    go_enter Try.func21, Try.ntmps21
    go_wp2_with fail
    go_ret
    exact ⟨_, rfl, World.ownsRow_nil _ _ _ _, Below.refl _ _⟩
  · have HB1 : ∀ T, Below w.heap.size w (w.alloc (.cells #[] T)) := fun T => (Below.refl _ w).alloc (Nat.le_refl _) _
    have hcells : ∀ (T : TypeId) j u, (sv (firstN ss n))[j]? = some u → (w.alloc (.cells #[] T)).cell? (x.add j) = some u := fun T j u hu => by
      have hj : j < n := by
        have := (List.getElem?_eq_some_iff.1 hu).1
        unfold sv at this
        rw [List.length_map, firstN_length] at this
        exact this
      obtain ⟨y, hy, hc⟩ := (hT.keep (HB1 T)) (by omega)
      cases hy
      rw [hc j hj]
      unfold sv firstN at hu
      simp [hj] at hu
      rw [← hu]
      rfl
    have H3 := Lib.hid (hcells 9)
    have HL : Hid ((sv (firstN ss n)).length = n * 1) := Lib.hid (by unfold sv; rw [List.length_map, firstN_length]; omega)
    have HOne : Hid (∀ u ∈ sv (firstN ss n), u.oneCell' = true) := Lib.hid (by intro u hu; unfold sv at hu; obtain ⟨s, -, rfl⟩ := List.mem_map.1 hu; rfl)
    have H5 : Hid (0 + n ≤ maxLen ∧ (0 + n) * 16 ≤ 140737488355328) := Lib.hid ⟨by unfold maxLen; omega, by omega⟩
    have HO : Hid ((w.alloc (.cells #[] 9)).ownsRow w.heap.size 9 1 (.slice (some ⟨w.heap.size, 0, none⟩) 0 0) 0 []) := Lib.hid (World.ownsRow_made w #[] 0 (Nat.le_refl _) (Nat.zero_le _) rfl)
    have HS : Hid (w.heap.size ≤ (w.alloc (.cells #[] 9)).heap.size) := Lib.hid (by rw [World.size_alloc]; omega)
    have HB := Lib.hid (HB1 9)
    clear hcells hT HB1 hnil
    have en : ∀ w, (binOp .eql 22 (.slice (some x) n c) (.slice none 0 0)).run Try.prog w = .ok (.bool false) w := fun w => Lib.run_eql_slice_nil w 22 9 (some x) n c 0 0 Try.underlying22
    go_enter Try.func21, Try.ntmps21
    go_wp2_with (at_builtin; refine wpList_append_own _ rfl _ _ _ rfl w.heap.size 9 i0 (.string ByteArray.empty) 1 16 Try.underlying22 hi hz0 hz1 hz2 rfl (by decide) (.slice (some ⟨w.heap.size, 0, none⟩) 0 0) 0 [] rfl HO.out x n c (sv (firstN ss n)) rfl HL.out H3.out HOne.out H5.out.1 H5.out.2 HS.out ?_)
    intro v' w' q1 q2 _
    have HF : Hid (w'.ownsRow w.heap.size 9 1 v' n (sv (firstN ss n)) ∧ Below w.heap.size w w') := Lib.hid ⟨by simpa using q1, below_own HO.out HB.out (Nat.le_refl _) HS.out q2⟩
    clear q1 q2 H3 HL H5
    go_wp2_with fail
    go_ret
    exact ⟨_, rfl, HF.out⟩

/-- At which places two rows differ. -/
def dif (ss tt : List ByteArray) (n : Nat) (j : Nat) : Bool := decide (j < n) && !decide (ss.getD j ByteArray.empty = tt.getD j ByteArray.empty)

theorem dif_self {ss tt : List ByteArray} {n : Nat} (h : ∀ j, j < n → tt.getD j ByteArray.empty = ss.getD j ByteArray.empty) (K : Nat) : Sy.cr (dif ss tt n) 0 K = 0 := by
  induction K with
  | zero => rfl
  | succ K ih =>
    have e : Sy.cr (dif ss tt n) 0 (K + 1) = Sy.cr (dif ss tt n) 0 K + if dif ss tt n (0 + K) = true then 1 else 0 := rfl
    rw [e, ih, if_neg]
    unfold dif
    by_cases hk : 0 + K < n
    · rw [h _ hk]; simp
    · rw [decide_eq_false hk]; simp

theorem dif_set {ss tt : List ByteArray} {n q m : Nat} {s : ByteArray} (h : ∀ K, Sy.cr (dif ss tt n) 0 K ≤ m) (K : Nat) : Sy.cr (dif ss (tt.set q s) n) 0 K ≤ m + 1 := by
  have h1 := Sy.cr_one (p := dif ss (tt.set q s) n) (q := dif ss tt n) q (fun j hj hp => by
    unfold dif at hp ⊢
    have e : (tt.set q s).getD j ByteArray.empty = tt.getD j ByteArray.empty := by simp [List.getD, List.getElem?_set_ne (Ne.symm hj)]
    rw [e] at hp
    exact hp) K
  have h2 := h K
  split at h1 <;> omega

theorem few_law {ss tt : List ByteArray} {n j m : Nat} (h1 : 1 ≤ n) (hj : n ≤ 2 ^ j) (hd : ∀ K, Sy.cr (dif ss tt n) 0 K ≤ m) : (cmp ss tt n).2 ≤ 1 + 2 * j * m := by
  have l1 := lvs_length ss n
  have l2 := lvs_length tt n
  have hne : lvs ss n ≠ [] := by intro h; rw [h] at l1; simp at l1; omega
  have hlast := Tr.levels_last (lvs ss n) hne
  obtain ⟨hsh, hsame⟩ := Sy.levels_shape _ (lvs ss n) (lvs tt n) (Nat.le_refl _) (by rw [l1, l2])
  have hp := Sy.levels_pow j (lvs ss n) (by rw [l1]; exact hj)
  have hx0 : (Tr.levels (lvs ss n)).getD 0 [] = lvs ss n := by
    by_cases h : 1 < (lvs ss n).length
    · rw [Tr.levels_up h]; rfl
    · rw [Tr.levels_one (by omega)]; rfl
  have hy0 : (Tr.levels (lvs tt n)).getD 0 [] = lvs tt n := by
    by_cases h : 1 < (lvs tt n).length
    · rw [Tr.levels_up h]; rfl
    · rw [Tr.levels_one (by omega)]; rfl
  rw [List.getLast?_eq_getElem?] at hlast
  have hpos : 0 < (Tr.levels (lvs ss n)).length := by
    rcases hl : Tr.levels (lvs ss n) with _ | ⟨x, r⟩
    · rw [hl] at hlast; simp at hlast
    · simp
  have hone : ((Tr.levels (lvs ss n)).getD ((Tr.levels (lvs ss n)).length - 1) []).length = 1 := by simp [List.getD, hlast]
  have key := (Sy.dn_few (Sy.built_levels (lvs ss n)) (Sy.built_levels (lvs tt n)) hsh hsame ((Tr.levels (lvs ss n)).length - 1) 0 (by omega) (by rw [hone]; exact Nat.zero_lt_one)).2
  have hct := Sy.ct_cr (Tr.levels (lvs ss n)) (Tr.levels (lvs tt n)) ((Tr.levels (lvs ss n)).length - 1) 0
  rw [hx0, hy0, Nat.zero_mul] at hct
  have hmono := Sy.cr_mono (p := fun i => !decide ((lvs ss n).getD i 0 = (lvs tt n).getD i 0)) (q := dif ss tt n) (fun i hi => by
    unfold dif
    by_cases hin : i < n
    · have e : (lvs ss n).getD i 0 = Tr.leaf (ss.getD i ByteArray.empty).data.toList := by unfold lvs; simp [List.getD, hin]
      have f : (lvs tt n).getD i 0 = Tr.leaf (tt.getD i ByteArray.empty).data.toList := by unfold lvs; simp [List.getD, hin]
      rw [e, f] at hi
      by_cases hh : ss.getD i ByteArray.empty = tt.getD i ByteArray.empty
      · rw [hh] at hi; simp at hi
      · rw [decide_eq_true hin, decide_eq_false hh]; rfl
    · have e : (lvs ss n).getD i 0 = 0 := by simp [List.getD, l1, Nat.le_of_not_lt hin]
      have f : (lvs tt n).getD i 0 = 0 := by simp [List.getD, l2, Nat.le_of_not_lt hin]
      rw [e, f] at hi
      simp at hi) 0 (2 ^ ((Tr.levels (lvs ss n)).length - 1))
  have hm := hd (2 ^ ((Tr.levels (lvs ss n)).length - 1))
  have hcm : Sy.ct (Tr.levels (lvs ss n)) (Tr.levels (lvs tt n)) ((Tr.levels (lvs ss n)).length - 1) 0 ≤ m := by omega
  unfold cmp
  refine Nat.le_trans key (Nat.add_le_add_left (Nat.mul_le_mul (by omega) hcm) 1)

theorem abc_right : chk [⟨#[97]⟩, ⟨#[98]⟩, ⟨#[99]⟩] 3 = 0 := by decide

/-- The test's own: two rows of the same three texts. -/
theorem few_test (w : World) (T : TypeId) : Calls Try.prog 20 #[.slice (some ⟨w.heap.size, 0, none⟩) 3 3, .slice (some ⟨w.heap.size + 1, 0, none⟩) 3 3] ((w.alloc (.cells #[.string ⟨#[97]⟩, .string ⟨#[98]⟩, .string ⟨#[99]⟩] T)).alloc (.cells #[.string ⟨#[97]⟩, .string ⟨#[98]⟩, .string ⟨#[99]⟩] T)) fun e w' =>
    ∃ v, e = .returned (.tuple #[v, .int .i64 1, .int .i64 0]) ∧ Below w.heap.size w w' := by
  have hz := World.size_alloc w (.cells #[.string ⟨#[97]⟩, .string ⟨#[98]⟩, .string ⟨#[99]⟩] T)
  have tx : ∀ (W : World) (o : Nat) (_ : o = W.heap.size), TextsAt (W.alloc (.cells #[.string ⟨#[97]⟩, .string ⟨#[98]⟩, .string ⟨#[99]⟩] T)) (some ⟨o, 0, none⟩) 3 [⟨#[97]⟩, ⟨#[98]⟩, ⟨#[99]⟩] := fun W o ho _ => ⟨_, rfl, fun i hi => by
    subst ho
    rw [addr_add]
    rcases i with _ | _ | _ | i
    · exact cell_new W (k := 0) rfl
    · exact cell_new W (k := 1) rfl
    · exact cell_new W (k := 2) rfl
    · omega⟩
  have sz : ∀ i, i < 3 → (([⟨#[97]⟩, ⟨#[98]⟩, ⟨#[99]⟩] : List ByteArray).getD i ByteArray.empty).size ≤ 64 := by
    intro i hi
    rcases i with _ | _ | _ | i
    · exact (by decide : (1 : Nat) ≤ 64)
    · exact (by decide : (1 : Nat) ≤ 64)
    · exact (by decide : (1 : Nat) ≤ 64)
    · omega
  have h := Compare_ok (some ⟨w.heap.size, 0, none⟩) (some ⟨w.heap.size + 1, 0, none⟩) 3 3 3 [⟨#[97]⟩, ⟨#[98]⟩, ⟨#[99]⟩] [⟨#[97]⟩, ⟨#[98]⟩, ⟨#[99]⟩] ((w.alloc (.cells #[.string ⟨#[97]⟩, .string ⟨#[98]⟩, .string ⟨#[99]⟩] T)).alloc (.cells #[.string ⟨#[97]⟩, .string ⟨#[98]⟩, .string ⟨#[99]⟩] T)) (by omega) (by omega)
    ((tx w w.heap.size rfl).keep ((Below.refl _ _).alloc (Nat.le_refl _) _)) (tx (w.alloc _) _ hz.symm) sz sz
  rw [cmp_self] at h
  refine h.mono ?_
  rintro e w' ⟨v, rfl, hown, hb⟩
  exact ⟨v, rfl, (((Below.refl w.heap.size w).alloc (Nat.le_refl _) _).alloc (by omega) _).trans (hb.mono (by rw [World.size_alloc]; omega))⟩

/-- What Compare answers last. -/
def CmpEnd (w : World) (a : Option Addr) (n ca : Nat) (b : Option Addr) (cb : Nat) (q k : Int) : Prop := Calls Try.prog 20 #[.slice a n ca, .slice b n cb] w fun e w' => ∃ v, e = .returned (.tuple #[v, .int .i64 q, .int .i64 k]) ∧ Below w.heap.size w w'

theorem CmpEnd.use {w : World} {a : Option Addr} {n ca : Nat} {b : Option Addr} {cb : Nat} {q k : Int} {R : Ending → World → Prop} (h : CmpEnd w a n ca b cb q k) (hR : ∀ e w', (∃ v, e = .returned (.tuple #[v, .int .i64 q, .int .i64 k]) ∧ Below w.heap.size w w') → R e w') : Calls Try.prog 20 #[.slice a n ca, .slice b n cb] w R := Calls.mono h hR

theorem cmpEnd {w : World} {a b : Option Addr} {n ca cb : Nat} {ss tt : List ByteArray} (hn : n ≤ maxLen) (hS : TextsAt w a n ss) (hT : TextsAt w b n tt) : (1 ≤ n ∧ n ≤ 32 ∧ CmpEnd w a n ca b cb ((cmp ss tt n).2 : Int) 0) ∨ ∃ k : Int, (k != 0) = true ∧ CmpEnd w a n ca b cb 0 k := by
  by_cases h : cmpE ss n tt n = 0
  · obtain ⟨hs, ht, -⟩ := cmpE_zero.1 h
    obtain ⟨h1, h2, h3⟩ := right_parts hs
    refine Or.inl ⟨h1, h2, (Compare_ok a b n ca cb ss tt w h1 h2 hS hT h3 (right_parts ht).2.2).mono ?_⟩
    rintro e w'' ⟨v, rfl, hown, hb2⟩
    exact ⟨v, rfl, hb2⟩
  · refine Or.inr ⟨(cmpE ss n tt n : Nat), bne_iff_ne.2 (by omega), (Compare_bad a b n n ca cb ss tt w hn hn hS hT h).mono ?_⟩
    rintro e w'' ⟨rfl, rfl⟩
    exact ⟨_, rfl, Below.refl _ _⟩

set_option maxRecDepth 100000 in
set_option maxHeartbeats 8000000 in
theorem syncFew_core (a b : Option Addr) (n ca na cb : Nat) (ss : List ByteArray) (zs : List Int) (s : ByteArray) (w : World) (hT : TextsAt w a n ss) (hnil : a = none → n = 0 ∧ ca = 0) (hr : n * 16 ≤ 140737488351232)
    (hz : na ≠ 0 → ∃ x, b = some x ∧ ∀ i, i < na → w.cell? (x.add i) = some (.int .i64 (zs.getD i 0))) (hr2 : na * 8 ≤ 140737488351232) :
    Calls Try.prog 8 #[.slice a n ca, .slice b na cb, .string s] w fun e w' => e = .returned (.bool true) ∧ Below w.heap.size w w' := by
  have P1 := few_test w 9
  have HT := Lib.hid hT; have HZ := Lib.hid hz
  have hnm : n ≤ maxLen := by unfold maxLen; omega
  have HNM := Lib.hid hnm
  have CL : Hid (∀ w', Below w.heap.size w w' → Calls Try.prog 21 #[.slice a n ca] w' fun e w'' => ∃ v, e = .returned v ∧ w''.ownsRow w.heap.size 9 1 v n (sv (firstN ss n)) ∧ Below w.heap.size w w'') := Lib.hid fun w' hb =>
    (Clone_S a n ca ss w' (hT.keep hb) hnil hr).mono fun e w'' ⟨v, he, ho, hb2⟩ => ⟨v, he, own_weaken ho hb.size, hb.trans (hb2.mono hb.size)⟩
  clear hT hz hnil hnm
  go_enter Try.func8, Try.ntmps8
  go_wp2_with fail
  with_reducible refine P1.mono ?_
  rintro e w1 ⟨v1, rfl, hb1⟩
  have C1 := CL.out w1 hb1
  clear hb1 P1 CL
  go_wp2_with fail
  with_reducible refine C1.mono ?_
  rintro e w2 ⟨v2, rfl, hown2, hb2⟩
  have HO2 := Lib.hid hown2; have HB2 := Lib.hid hb2
  clear hown2 hb2 C1
  by_cases hn0 : n = 0
  · subst hn0
    obtain ⟨g2, hv2⟩ : ∃ c2, v2 = .slice (match v2 with | .slice x _ _ => x | _ => none) 0 c2 := by
      rcases HO2.out.2 with ⟨rfl, -⟩ | ⟨g, cap, cur, rfl, -⟩
      · exact ⟨0, rfl⟩
      · exact ⟨cap, rfl⟩
    generalize (match v2 with | .slice x _ _ => x | _ => none) = b2 at hv2
    subst hv2
    go_wp2_with fail
    go_loop [11, 35] (fun m i => ∃ k : Nat, k ≤ na ∧ i = .int .i64 k ∧ m = .int .i64 0) (fun _ i => na - (intOf i).toNat)
    case atStart => exact ⟨0, Nat.zero_le _, rfl, rfl⟩
    case round =>
      obtain ⟨k, hk, rfl, rfl⟩ := hrel
      by_cases hlt : k < na
      · obtain ⟨x, rfl, hc⟩ := HZ.out (by omega)
        have c1 : w2.cell? (x.add k) = some (.int .i64 (zs.getD k 0)) := by rw [HB2.out.cell (World.block_lt_of_cell? w _ (hc k hlt))]; exact hc k hlt
        clear hc
        generalize zs.getD k 0 = z at *
        go_wp2_with fail
        go_round
        case rel => exact ⟨k + 1, hlt, by go_num, rfl⟩
        case measure => simp [intOf]; omega
      · obtain rfl : k = na := by omega
        rcases cmpEnd (ca := ca) (cb := g2) (a := a) (b := b2) (n := 0) (ss := ss) (tt := []) (Nat.zero_le _) (HT.out.keep HB2.out) (fun h => absurd rfl h) with ⟨h1, -⟩ | ⟨q, hq, hC⟩
        · omega
        · have HC := Lib.hid hC
          clear hC
          go_wp2_with fail
          with_reducible refine HC.out.use ?_
          rintro e w3 ⟨v3, rfl, hb3⟩
          have HB3 := Lib.hid (HB2.out.trans (hb3.mono HB2.out.size))
          clear hb3
          go_wp2_with fail
          go_ret
          exact ⟨rfl, HB3.out⟩
  · obtain ⟨g, cap, rfl, hgl⟩ : ∃ g cap, v2 = .slice (some ⟨g, 0, none⟩) n cap ∧ w.heap.size ≤ g := by
      rcases HO2.out.2 with ⟨-, h0⟩ | ⟨g, cap, cur, rfl, hg, -⟩
      · exact absurd h0 hn0
      · exact ⟨g, cap, rfl, hg⟩
    have HN0 := Lib.hid hn0
    have hn1 : 1 ≤ n := by omega
    clear hn0
    go_wp2_with fail
    go_loopw [11, 35] (fun m i wr => ∃ (k u : Nat) (tt : List ByteArray), k ≤ na ∧ i = .int .i64 k ∧ m = .int .i64 u ∧ u ≤ k ∧ Hid (wr.ownsRow w.heap.size 9 1 (.slice (some ⟨g, 0, none⟩) n cap) n (sv tt)) ∧ Hid (∀ K, Sy.cr (dif ss tt n) 0 K ≤ u) ∧ Hid (Below w.heap.size w wr)) (fun _ i _ => na - (intOf i).toNat)
    case atStart => exact ⟨0, 0, firstN ss n, Nat.zero_le _, rfl, rfl, Nat.le_refl _, HO2, Lib.hid fun K => by rw [dif_self (fun j hj => firstN_get ss hj)]; exact Nat.le_refl _, HB2⟩
    case round =>
      obtain ⟨k, u, tt, hk, rfl, rfl, hu, hO, hD, hB⟩ := hrel
      have hlen : tt.length = n := by have := hO.out.1; unfold sv at this; simpa using this
      by_cases hlt : k < na
      · obtain ⟨x, rfl, hc⟩ := HZ.out (by omega)
        have c1 : wr.cell? (x.add k) = some (.int .i64 (zs.getD k 0)) := by rw [hB.out.cell (World.block_lt_of_cell? w _ (hc k hlt))]; exact hc k hlt
        have hw := within_is (k := zs.getD k 0) (n := n) (N := (n : Int)) rfl (by omega) (by omega) rfl
        have hq := wi_lt (zs.getD k 0) n (by omega)
        clear hc
        generalize zs.getD k 0 = z at *
        generalize wi z n = q at *
        have c2 : wr.cell? ⟨g, q, none⟩ = some (.string (tt.getD q ByteArray.empty)) := by
          rw [hO.out.cellAt q (by omega)]
          unfold sv
          simp [List.getD, hlen, hq]
        have hfz := hO.out.frozenAt q
        have HS : Hid ((wr.setCell ⟨g, q, none⟩ (.string s)).ownsRow w.heap.size 9 1 (.slice (some ⟨g, 0, none⟩) n cap) n (sv (tt.set q s))) := Lib.hid (by
          have := (hO.out.stored q (.string s)).1
          unfold sv at this ⊢
          rw [List.map_set]
          exact this)
        have HBS : Hid (Below w.heap.size w (wr.setCell ⟨g, q, none⟩ (.string s))) := Lib.hid (hB.out.setCell hgl _)
        have HD2 : Hid (∀ K, Sy.cr (dif ss (tt.set q s) n) 0 K ≤ u + 1) := Lib.hid (dif_set hD.out)
        have HLN := Lib.hid hlen
        clear hlen
        generalize tt.getD q ByteArray.empty = X at *
        by_cases hX : X = s
        · subst hX
          go_wp2_with fail
          with_reducible refine hw.use ?_
          rintro e w' ⟨rfl, rfl⟩
          go_wp2_with fail
          go_roundw
          case rel => exact ⟨k + 1, u, tt, hlt, by go_num, rfl, by omega, hO, hD, hB⟩
          case measure => simp [intOf]; omega
        · have e1 : (X.toList == s.toList) = false := by
            rw [beq_eq_false_iff_ne, ByteArray.toList_eq, ByteArray.toList_eq]
            intro h
            exact hX (ByteArray.ext (Array.toList_inj.mp h))
          go_wp2_with fail
          with_reducible refine hw.use ?_
          rintro e w' ⟨rfl, rfl⟩
          go_wp2_with fail
          go_roundw
          case rel => exact ⟨k + 1, u + 1, tt.set q s, hlt, by go_num, by go_num, by omega, HS, HD2, HBS⟩
          case measure => simp [intOf]; omega
      · obtain rfl : k = na := by omega
        have hTT : TextsAt wr (some ⟨g, 0, none⟩) n tt := fun _ => ⟨_, rfl, fun i hi => by
          rw [addr_add, hO.out.cellAt i (by omega)]
          unfold sv
          simp [List.getD, hlen, hi]⟩
        rcases cmpEnd (ca := ca) (cb := cap) HNM.out (HT.out.keep hB.out) hTT with ⟨h1, h32, hC⟩ | ⟨q, hq, hC⟩
        · have HF : Hid (∀ j, n ≤ 2 ^ j → (cmp ss tt n).2 ≤ 1 + 2 * j * u) := Lib.hid fun j hj => few_law h1 hj hD.out
          generalize (cmp ss tt n).2 = y at *
          have HC := Lib.hid hC
          clear hC hTT hlen
          go_wp2_with fail
          with_reducible refine HC.out.use ?_
          rintro e w3 ⟨v3, rfl, hb3⟩
          have HB3 := Lib.hid (hB.out.trans (hb3.mono hB.out.size))
          clear hb3 hB hO HC
          go_wp2_with fail
          go_loop [17] (fun k => ∃ j : Nat, j ≤ 5 ∧ k = .int .i64 j) (fun k => 5 - (intOf k).toNat)
          case atStart => exact ⟨0, by omega, rfl⟩
          case round =>
            obtain ⟨j, hj, rfl⟩ := hrel
            obtain ⟨t, ht⟩ : ∃ t, t = 2 ^ j := ⟨_, rfl⟩
            have e1 : (2 : Int) ^ j = (t : Int) := by rw [ht, Int.natCast_pow]; rfl
            have hu32 : t ≤ 32 := by rw [ht]; exact Nat.pow_le_pow_right (n := 2) (j := 5) (by decide) hj
            have HU := Lib.hid ht
            clear ht
            by_cases hgo : t < n
            · have hj5 : j < 5 := by
                rcases Nat.lt_or_ge j 5 with h | h
                · exact h
                · have : j = 5 := by omega
                  have := HU.out
                  subst j
                  omega
              have hgi : decide ((t : Int) < (n : Int)) = true := decide_eq_true (by omega)
              go_wp2_with fail
              go_round
              case rel => exact ⟨j + 1, by omega, by go_num⟩
              case measure => simp [intOf]; omega
            · have hle := HF.out j (by rw [← HU.out]; omega)
              have hgi : decide ((t : Int) < (n : Int)) = false := decide_eq_false (by omega)
              obtain ⟨p, hp⟩ : ∃ p : Nat, 2 * j * u = p := ⟨_, rfl⟩
              have hpb : p ≤ 10 * u := by rw [← hp]; exact Nat.mul_le_mul_right _ (by omega)
              rw [hp] at hle
              have e2 : (2 * (j : Int)) * (u : Int) = (p : Int) := by rw [← hp]; simp [Int.natCast_mul]
              have hf1 : decide ((y : Int) ≤ 1 + (p : Int)) = true := decide_eq_true (by omega)
              have HP := Lib.hid hp
              clear hp hle
              go_wp2_with fail
              go_ret
              exact ⟨rfl, HB3.out⟩
        · have HC := Lib.hid hC
          clear hC hTT hlen
          go_wp2_with fail
          with_reducible refine HC.out.use ?_
          rintro e w3 ⟨v3, rfl, hb3⟩
          have HB3 := Lib.hid (hB.out.trans (hb3.mono hB.out.size))
          clear hb3
          go_wp2_with fail
          go_ret
          exact ⟨rfl, HB3.out⟩

theorem syncFew_walk (a0 : Option Addr) (len0 cap0 : Nat) (s0 : List ByteArray) (a1 : Option Addr) (len1 cap1 : Nat) (z1 : List Int) (a2 : ByteArray) (w : World) (w0 : IsRowS w a0 len0 cap0 s0) (r0 : len0 * 16 ≤ 140737488351232) (w1 : IsRowI w a1 len1 cap1 z1) (r1 : len1 * 8 ≤ 140737488351232) (_ : a2.size ≤ 140737488351232) :
    Calls Try.prog 8 #[.slice a0 len0 cap0, .slice a1 len1 cap1, .string a2] w fun e w' => e = .returned (.bool true) ∧ Below w.heap.size w w' := by
  refine syncFew_core a0 a1 len0 cap0 len1 cap1 s0 z1 a2 w (rowS_texts w0).1 ?_ r0 ?_ r1
  · rintro rfl
    rcases w0 with ⟨-, h1, h2, -⟩ | ⟨x, h, -⟩
    · exact ⟨h1, h2⟩
    · cases h
  · intro h0
    rcases w1 with ⟨rfl, rfl, rfl, rfl⟩ | ⟨x, rfl, h1, h2, h3, h4, -⟩
    · exact absurd rfl h0
    · exact ⟨x, rfl, fun i hi => h4 i (by omega)⟩

end Go.Proofs.Ytlimdfmnfhlcoaa
