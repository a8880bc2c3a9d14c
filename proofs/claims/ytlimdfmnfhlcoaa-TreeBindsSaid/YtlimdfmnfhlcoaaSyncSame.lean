/- SyncSame: two that are the same are told so by one look; what is told of two is told of them the other way round. -/
import Derived.Test.YtlimdfmnfhlcoaaSyncW
import Derived.Test.YtlimdfmnfhlcoaaArgs
namespace Go.Proofs.Ytlimdfmnfhlcoaa
open Go.RowKit

/-- What Compare answers, wherever it is asked behind the beginning. -/
def CmpAns (w : World) (a : Option Addr) (n ca : Nat) (b : Option Addr) (m cb k : Nat) (l : List Nat) (q : Int) : Prop := ∀ w', Below w.heap.size w w' → Calls Try.prog 20 #[.slice a n ca, .slice b m cb] w' fun e w'' =>
  ∃ x c, e = .returned (.tuple #[.slice x l.length c, .int .i64 q, .int .i64 k]) ∧ w''.ownsRow w.heap.size 3 1 (.slice x l.length c) l.length (iv l) ∧ Below w'.heap.size w' w''

theorem CmpAns.use {w w' : World} {a b : Option Addr} {n ca m cb k : Nat} {l : List Nat} {q : Int} {R : Ending → World → Prop} (h : CmpAns w a n ca b m cb k l q) (hb : Below w.heap.size w w')
    (hR : ∀ e w'', (∃ x c, e = .returned (.tuple #[.slice x l.length c, .int .i64 q, .int .i64 k]) ∧ w''.ownsRow w.heap.size 3 1 (.slice x l.length c) l.length (iv l) ∧ Below w'.heap.size w' w'') → R e w'') : Calls Try.prog 20 #[.slice a n ca, .slice b m cb] w' R := (h w' hb).mono hR

theorem below_drewN {B : Nat} {a w : World} (h : Below B a w) (n : Nat) : Below B a (w.drewN n) := ⟨h.os, h.tape, h.output, h.size, h.block⟩

theorem right_parts {ss : List ByteArray} {n : Nat} (hc : chk ss n = 0) : 1 ≤ n ∧ n ≤ 32 ∧ ∀ i, i < n → (ss.getD i ByteArray.empty).size ≤ 64 := by
  have h0 : n ≠ 0 := by intro h; rw [h] at hc; have h4 : chk ss 0 = 4 := rfl; omega
  unfold chk at hc
  rw [if_neg h0] at hc
  by_cases h : 32 < n ∨ big ss n = true
  · rw [if_pos h] at hc; exact absurd hc (by decide)
  · refine ⟨by omega, by omega, big_false.1 ?_⟩
    rcases hb : big ss n with _ | _
    · rfl
    · exact absurd (Or.inr hb) h

/-- What Compare finds. -/
def cmpP (ss : List ByteArray) (n : Nat) (tt : List ByteArray) (m : Nat) : List Nat × Nat := if cmpE ss n tt m = 0 then cmp ss tt n else ([], 0)

/-- All that Compare may answer. -/
theorem cmpAns {w : World} {a b : Option Addr} {n ca m cb : Nat} {ss tt : List ByteArray} (hn : n ≤ maxLen) (hm : m ≤ maxLen) (hS : TextsAt w a n ss) (hT : TextsAt w b m tt) : CmpAns w a n ca b m cb (cmpE ss n tt m) (cmpP ss n tt m).1 ((cmpP ss n tt m).2 : Int) := fun w' hb => by
  unfold cmpP
  by_cases h : cmpE ss n tt m = 0
  · rw [if_pos h, h]
    obtain ⟨hs, ht, rfl⟩ := cmpE_zero.1 h
    obtain ⟨h1, h2, h3⟩ := right_parts hs
    refine (Compare_ok a b n ca cb ss tt w' h1 h2 (hS.keep hb) (hT.keep hb) h3 (right_parts ht).2.2).mono ?_
    rintro e w'' ⟨v, rfl, hown, hb2⟩
    obtain ⟨x, c, rfl, -⟩ := own_ints hown
    exact ⟨x, c, rfl, own_weaken hown hb.size, hb2⟩
  · rw [if_neg h]
    refine (Compare_bad a b n m ca cb ss tt w' hn hm (hS.keep hb) (hT.keep hb) h).mono ?_
    rintro e w'' ⟨rfl, rfl⟩
    exact ⟨none, 0, rfl, World.ownsRow_nil _ _ _ _, Below.refl _ _⟩

theorem ab_leaf : decide (Tr.leaf [97] = Tr.leaf [98]) = false := by decide +kernel

theorem cmp_ab : cmp [⟨#[97]⟩] [⟨#[98]⟩] 1 = ([0], 1) := by
  have h := of_decide_eq_false ab_leaf
  show Sy.lk (Tr.levels [Tr.leaf [97]]) (Tr.levels [Tr.leaf [98]]) _ 0 = _
  rw [Tr.levels_one (by simp), Tr.levels_one (by simp), Sy.lk_other (by exact h)]
  rfl

/-- The test's own: two rows of one text. -/
theorem compare_test (w : World) (T : TypeId) : Calls Try.prog 20 #[.slice (some ⟨w.heap.size, 0, none⟩) 1 1, .slice (some ⟨w.heap.size + 1, 0, none⟩) 1 1] ((w.alloc (.cells #[.string ⟨#[97]⟩] T)).alloc (.cells #[.string ⟨#[98]⟩] T)) fun e w' =>
    ∃ g c, e = .returned (.tuple #[.slice (some ⟨g, 0, none⟩) 1 c, .int .i64 1, .int .i64 0]) ∧ w'.cell? ⟨g, 0, none⟩ = some (.int .i64 0) ∧ Below w.heap.size w w' := by
  have hz := World.size_alloc w (.cells #[.string ⟨#[97]⟩] T)
  have h := Compare_ok (some ⟨w.heap.size, 0, none⟩) (some ⟨w.heap.size + 1, 0, none⟩) 1 1 1 [⟨#[97]⟩] [⟨#[98]⟩] ((w.alloc (.cells #[.string ⟨#[97]⟩] T)).alloc (.cells #[.string ⟨#[98]⟩] T)) (by omega) (by omega) (fun _ => ⟨_, rfl, fun i hi => by
      obtain rfl : i = 0 := by omega
      rw [addr_add, World.cell?_alloc_past _ _ _ (by omega)]
      exact cell_new w (k := 0) rfl⟩) (fun _ => ⟨_, rfl, fun i hi => by
      obtain rfl : i = 0 := by omega
      rw [addr_add]
      have := cell_new (w.alloc (.cells #[.string ⟨#[97]⟩] T)) (T := T) (xs := #[.string ⟨#[98]⟩]) (k := 0) rfl
      rw [hz] at this
      exact this⟩) (fun i hi => by
      obtain rfl : i = 0 := by omega
      exact (by decide : (1 : Nat) ≤ 64)) (fun i hi => by
      obtain rfl : i = 0 := by omega
      exact (by decide : (1 : Nat) ≤ 64))
  rw [cmp_ab] at h
  refine h.mono ?_
  rintro e w' ⟨v, rfl, hown, hb⟩
  obtain ⟨g, c, rfl, -⟩ := own_some hown (by decide)
  refine ⟨g, c, rfl, iv_cells hown rfl 0 (by decide), ?_⟩
  exact (((Below.refl w.heap.size w).alloc (Nat.le_refl _) _).alloc (by omega) _).trans (hb.mono (by rw [World.size_alloc]; omega))

theorem beq_two {k2 k3 : Nat} (hk : k2 = 0 ↔ k3 = 0) : (((k2 : Int) == 0) = true ∧ ((k3 : Int) == 0) = true) ∨ (((k2 : Int) == 0) = false ∧ ((k3 : Int) == 0) = false) := by
  by_cases h : k2 = 0
  · have h3 := hk.1 h
    subst h; subst h3
    exact Or.inl ⟨rfl, rfl⟩
  · have h3 : ¬ k3 = 0 := fun e => h (hk.2 e)
    exact Or.inr ⟨beq_eq_false_iff_ne.2 (by omega), beq_eq_false_iff_ne.2 (by omega)⟩

theorem test_eq {w1 : World} {g c : Nat} (hc : w1.cell? ⟨g, 0, none⟩ = some (.int .i64 0)) : ∀ (T : TypeId), Calls Try.prog 22 #[.slice (some ⟨g, 0, none⟩) 1 c, .slice (some ⟨w1.heap.size, 0, none⟩) 1 1] (w1.alloc (.cells #[.int .i64 0] T)) fun e w' => e = .returned (.bool true) ∧ ∃ q, w' = (w1.alloc (.cells #[.int .i64 0] T)).drewN q :=
  fun T => Equal_ints (some ⟨g, 0, none⟩) (some ⟨w1.heap.size, 0, none⟩) c 1 [0] (w1.alloc (.cells #[.int .i64 0] T)) (by decide) (fun j hj => by
    obtain rfl : j = 0 := by simp at hj; omega
    exact ⟨g, rfl, by rw [World.cell?_alloc_past _ _ _ (World.block_lt_of_cell? w1 _ hc)]; exact hc⟩) (fun j hj => by
    obtain rfl : j = 0 := by simp at hj; omega
    exact ⟨_, rfl, cell_new w1 (k := 0) rfl⟩)

set_option maxRecDepth 100000 in
set_option maxHeartbeats 4000000 in
theorem syncSame_bad (a b : Option Addr) (n ca m cb : Nat) (k1 : Nat) (w : World) (h1 : CmpAns w a n ca a n ca k1 [] 0) (hk1 : ((k1 : Int) != 0) = true) :
    Calls Try.prog 9 #[.slice a n ca, .slice b m cb] w fun e w' => e = .returned (.bool true) ∧ Below w.heap.size w w' := by
  have P1 := compare_test w 9
  go_enter Try.func9, Try.ntmps9
  go_wp2_with fail
  with_reducible refine P1.mono ?_
  rintro e w1 ⟨g, c, rfl, hc, hb1⟩
  have E1 := test_eq (c := c) hc
  have HB1 : Hid (∀ T q, Below w.heap.size w ((w1.alloc (.cells #[.int .i64 0] T)).drewN q)) := Lib.hid fun T q => below_drewN (hb1.alloc hb1.size _) q
  clear hb1 hc P1
  go_wp2_with fail
  with_reducible refine (E1 _).mono ?_
  rintro e w2 ⟨rfl, q, rfl⟩
  clear E1
  go_wp2_with fail
  with_reducible refine h1.use (HB1.out _ q) ?_
  rintro e w3 ⟨x, c3, rfl, -, hb3⟩
  have HB3 := Lib.hid ((HB1.out _ q).trans (hb3.mono (HB1.out _ q).size))
  clear hb3 HB1 h1
  go_wp2_with fail
  go_ret
  exact ⟨rfl, HB3.out⟩

set_option maxRecDepth 100000 in
set_option maxHeartbeats 8000000 in
theorem syncSame_core (a b : Option Addr) (n ca m cb : Nat) (k2 k3 : Nat) (l : List Nat) (q2 : Nat) (w : World) (h1 : CmpAns w a n ca a n ca 0 [] 1) (h2 : CmpAns w a n ca b m cb k2 l q2) (h3 : CmpAns w b m cb a n ca k3 l q2)
    (hk : k2 = 0 ↔ k3 = 0) (hl : l.length ≤ 1099511627776) :
    Calls Try.prog 9 #[.slice a n ca, .slice b m cb] w fun e w' => e = .returned (.bool true) ∧ Below w.heap.size w w' := by
  have P1 := compare_test w 9
  have HL := Lib.hid hl
  clear hl
  rcases beq_two hk with ⟨g2, g3⟩ | ⟨g2, g3⟩
  all_goals
    clear hk
    go_enter Try.func9, Try.ntmps9
    go_wp2_with fail
    with_reducible refine P1.mono ?_
    rintro e w1 ⟨g, c, rfl, hc, hb1⟩
    have E1 := test_eq (c := c) hc
    have HB1 : Hid (∀ T q, Below w.heap.size w ((w1.alloc (.cells #[.int .i64 0] T)).drewN q)) := Lib.hid fun T q => below_drewN (hb1.alloc hb1.size _) q
    clear hb1 hc P1
    go_wp2_with fail
    with_reducible refine (E1 _).mono ?_
    rintro e w2 ⟨rfl, q, rfl⟩
    clear E1
    go_wp2_with fail
    with_reducible refine h1.use (HB1.out _ q) ?_
    rintro e w3 ⟨x3, c3, rfl, -, hb3⟩
    have HB3 := Lib.hid ((HB1.out _ q).trans (hb3.mono (HB1.out _ q).size))
    clear hb3 HB1 h1
    go_wp2_with fail
    with_reducible refine h2.use HB3.out ?_
    rintro e w4 ⟨x4, c4, rfl, hown4, hb4⟩
    have HB4 := Lib.hid (HB3.out.trans (hb4.mono HB3.out.size))
    have HO4 := Lib.hid hown4
    clear hb4 HB3 h2 hown4
    go_wp2_with fail
    with_reducible refine h3.use HB4.out ?_
    rintro e w5 ⟨x5, c5, rfl, hown5, hb5⟩
    have E2 : Calls Try.prog 22 #[.slice x4 l.length c4, .slice x5 l.length c5] w5 fun e w' => e = .returned (.bool true) ∧ ∃ q, w' = w5.drewN q := by
      obtain ⟨y4, d4, e4, r4⟩ := own_ints (own_keep HO4.out hb5)
      obtain ⟨y5, d5, e5, r5⟩ := own_ints hown5
      cases e4; cases e5
      exact Equal_ints x4 x5 c4 c5 l w5 HL.out r4 r5
    have HB5 : Hid (∀ q, Below w.heap.size w (w5.drewN q)) := Lib.hid fun q => below_drewN (HB4.out.trans (hb5.mono HB4.out.size)) q
    clear hb5 HB4 h3 HO4 hown5
    go_wp2_with fail
    with_reducible refine E2.mono ?_
    rintro e w6 ⟨rfl, q6, rfl⟩
    clear E2
    go_wp2_with fail
    go_ret
    exact ⟨rfl, HB5.out q6⟩

theorem cmp_self (ss : List ByteArray) (n : Nat) : cmp ss ss n = ([], 1) := Sy.lk_same rfl

theorem cmp_symm (ss tt : List ByteArray) (n : Nat) : cmp ss tt n = cmp tt ss n := by
  obtain ⟨h1, h2⟩ := Sy.levels_shape _ (lvs ss n) (lvs tt n) (Nat.le_refl _) (by rw [lvs_length, lvs_length])
  unfold cmp
  rw [h1]
  exact Sy.lk_symm h2 _ _

theorem cmp_len (ss tt : List ByteArray) (n : Nat) (h0 : n ≠ 0) (hn : n ≤ 32) : (cmp ss tt n).1.length ≤ 1099511627776 := by
  have hl := lvs_length ss n
  have hne : lvs ss n ≠ [] := by intro h; rw [h] at hl; simp at hl; omega
  have h := Tr.levels_len (lvs ss n) hne
  have h2 := (Sy.lk_size (Tr.levels (lvs ss n)) (Tr.levels (lvs tt n)) ((Tr.levels (lvs ss n)).length - 1) 0).1
  have h3 := Nat.pow_le_pow_right (n := 2) (by decide) (show (Tr.levels (lvs ss n)).length - 1 ≤ 40 by omega)
  unfold cmp
  omega

theorem rowS_texts {w : World} {a : Option Addr} {n cap : Nat} {ss : List ByteArray} (h : IsRowS w a n cap ss) : TextsAt w a n ss ∧ n ≤ maxLen := by
  refine ⟨fun h0 => ?_, ?_⟩
  · rcases h with ⟨rfl, rfl, rfl, rfl⟩ | ⟨x, rfl, h1, h2, h3, h4, -⟩
    · exact absurd rfl h0
    · exact ⟨x, rfl, fun i hi => h4 i (by omega)⟩
  · rcases h with ⟨_, rfl, _, _⟩ | ⟨x, _, h1, h2, _⟩
    · exact Nat.zero_le _
    · exact Nat.le_trans h1 h2

theorem syncSame_walk (a0 : Option Addr) (len0 cap0 : Nat) (s0 : List ByteArray) (a1 : Option Addr) (len1 cap1 : Nat) (s1 : List ByteArray) (w : World) (w0 : IsRowS w a0 len0 cap0 s0) (w1 : IsRowS w a1 len1 cap1 s1) :
    Calls Try.prog 9 #[.slice a0 len0 cap0, .slice a1 len1 cap1] w fun e w' => e = .returned (.bool true) ∧ Below w.heap.size w w' := by
  obtain ⟨t0, n0⟩ := rowS_texts w0
  obtain ⟨t1, n1⟩ := rowS_texts w1
  have h1 := cmpAns (ca := cap0) (cb := cap0) n0 n0 t0 t0
  have h2 := cmpAns (ca := cap0) (cb := cap1) n0 n1 t0 t1
  have h3 := cmpAns (ca := cap1) (cb := cap0) n1 n0 t1 t0
  by_cases hc : cmpE s0 len0 s0 len0 = 0
  · have e1 : cmpP s0 len0 s0 len0 = ([], 1) := by unfold cmpP; rw [if_pos hc, cmp_self]
    rw [e1, hc] at h1
    obtain ⟨hr0, -, -⟩ := cmpE_zero.1 hc
    obtain ⟨p0, p32, -⟩ := right_parts hr0
    have e3 : cmpP s1 len1 s0 len0 = cmpP s0 len0 s1 len1 := by
      unfold cmpP
      by_cases h : cmpE s0 len0 s1 len1 = 0
      · obtain ⟨u1, u2, u3⟩ := cmpE_zero.1 h
        subst u3
        rw [if_pos h, if_pos (cmpE_zero.2 ⟨u2, u1, rfl⟩), cmp_symm]
      · rw [if_neg h, if_neg (fun h' => h (by obtain ⟨u1, u2, u3⟩ := cmpE_zero.1 h'; exact cmpE_zero.2 ⟨u2, u1, u3.symm⟩))]
    rw [e3] at h3
    refine syncSame_core a0 a1 len0 cap0 len1 cap1 _ _ _ _ w h1 h2 h3 ?_ ?_
    · rw [cmpE_zero, cmpE_zero]
      constructor
      · rintro ⟨u1, u2, u3⟩; exact ⟨u2, u1, u3.symm⟩
      · rintro ⟨u1, u2, u3⟩; exact ⟨u2, u1, u3.symm⟩
    · unfold cmpP
      by_cases h : cmpE s0 len0 s1 len1 = 0
      · rw [if_pos h]; exact cmp_len _ _ _ (by omega) p32
      · rw [if_neg h]; exact Nat.zero_le _
  · have e1 : cmpP s0 len0 s0 len0 = ([], 0) := by unfold cmpP; rw [if_neg hc]
    rw [e1] at h1
    exact syncSame_bad a0 a1 len0 cap0 len1 cap1 _ w h1 (bne_iff_ne.2 (by omega))

end Go.Proofs.Ytlimdfmnfhlcoaa
