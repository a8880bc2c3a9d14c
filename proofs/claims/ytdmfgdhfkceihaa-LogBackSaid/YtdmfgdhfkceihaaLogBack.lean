/- LogBack: a deed is read as it was written; two have one body just if they are the same; what was there stands below. -/
import Derived.Test.YtdmfgdhfkceihaaLogW5
import Derived.Test.YtdmfgdhfkceihaaArgs5
namespace Go.Proofs.Ytdmfgdhfkceihaa
open Go.RowKit

/-- What Encode leaves. -/
abbrev EncAns (k : Int) (nm to : ByteArray) (a : Int) (tx S : ByteArray) (r : Int) : Prop :=
  ∀ w, Calls Try.prog 9 #[.agg #[.int .i64 k, .string nm, .string to, .int .i64 a, .string tx]] w fun e w' => e = .returned (.tuple #[.string S, .int .i64 r]) ∧ Below w.heap.size w w'

abbrev DecAns (S : ByteArray) (k : Int) (nm to : ByteArray) (a : Int) (tx : ByteArray) : Prop :=
  ∀ w, Calls Try.prog 10 #[.string S] w fun e w' => e = .returned (.tuple #[.agg #[.int .i64 k, .string nm, .string to, .int .i64 a, .string tx], .int .i64 0]) ∧ Below w.heap.size w w'

theorem enc_a : EncAns 1 ⟨#[97]⟩ ⟨#[]⟩ 2 ⟨#[]⟩ ⟨#[1, 2, 1, 97, 0, 0]⟩ 0 := fun w =>
  Encode_ok 1 2 ⟨#[97]⟩ ⟨#[]⟩ ⟨#[]⟩ ⟨#[1, 2, 1, 97, 0, 0]⟩ w (by simp only [ByteArray.toList_eq]; decide) (by decide) (by decide) (by decide) (by decide) (by decide) (by decide)

/-- Two deeds, boxed. -/
abbrev Two (w : World) (V : World) (l1 l2 : List Value) : Prop := Bxs V w.heap.size l1 ∧ Bxs V (w.heap.size + 1) l2 ∧ Below w.heap.size w V

theorem two_new (w : World) (T : TypeId) (a b : Array Value) : Two w ((w.alloc (.cells a T)).alloc (.cells b T)) a.toList b.toList := by
  have s1 : (w.alloc (.cells a T)).heap.size = w.heap.size + 1 := World.size_alloc ..
  refine ⟨(bxs_new w T a _ rfl).alloc _, ?_, ((Below.refl _ w).alloc (Nat.le_refl _) _).alloc (by rw [s1]; omega) _⟩
  have := bxs_new (w.alloc (.cells a T)) T b _ rfl
  rw [s1] at this
  exact this

theorem Two.on {w V V' : World} {l1 l2 : List Value} (h : Two w V l1 l2) (hb : Below V.heap.size V V') : Two w V' l1 l2 := ⟨h.1.on hb, h.2.1.on hb, h.2.2.trans (hb.mono h.2.2.size)⟩

set_option maxRecDepth 100000 in
set_option maxHeartbeats 4000000 in
theorem lback_bad (k j a b : Int) (nm to tx nm' to' tx' s t : ByteArray) (r f : Int) (w : World) (E1 : EncAns k nm to a tx s r) (E2 : EncAns j nm' to' b tx' t f)
    (h : ((r != 0) = true ∧ (r == 0) = false ∧ s.toList.isEmpty = true) ∨ ((r != 0) = false ∧ (r == 0) = true ∧ (f != 0) = true)) :
    Calls Try.prog 3 #[.agg #[.int .i64 k, .string nm, .string to, .int .i64 a, .string tx], .agg #[.int .i64 j, .string nm', .string to', .int .i64 b, .string tx']] w fun e w' => e = .returned (.bool true) ∧ Below w.heap.size w w' := by
  have T0 := Lib.hid (two_new w 23 #[.int .i64 k, .string nm, .string to, .int .i64 a, .string tx] #[.int .i64 j, .string nm', .string to', .int .i64 b, .string tx'])
  have E0 := enc_a
  rcases h with ⟨h1, h2, h3⟩ | ⟨h1, h2, h3⟩
  all_goals
    go_enter Try.func3, Try.ntmps3
    go_wp2_with fail
    with_reducible refine (E0 _).mono ?_
    rintro e w1 ⟨rfl, hb1⟩
    have T1 := Lib.hid (T0.out.on hb1)
    have k0 := T1.out.1.c 0 _ rfl; have k1 := T1.out.1.c 1 _ rfl; have k2 := T1.out.1.c 2 _ rfl; have k3 := T1.out.1.c 3 _ rfl; have k4 := T1.out.1.c 4 _ rfl
    clear hb1 T0 E0
    go_wp2_with fail
    with_reducible refine (E1 _).mono ?_
    rintro e w2 ⟨rfl, hb2⟩
    have T2 := Lib.hid (T1.out.on hb2)
    clear hb2 k0 k1 k2 k3 k4
    have k0 := T2.out.2.1.c 0 _ rfl; have k1 := T2.out.2.1.c 1 _ rfl; have k2 := T2.out.2.1.c 2 _ rfl; have k3 := T2.out.2.1.c 3 _ rfl; have k4 := T2.out.2.1.c 4 _ rfl
    go_wp2_with fail
    with_reducible refine (E2 _).mono ?_
    rintro e w3 ⟨rfl, hb3⟩
    have T3 := Lib.hid (T2.out.on hb3)
    clear hb3 k0 k1 k2 k3 k4
    go_wp2_with fail
    go_ret
    exact ⟨rfl, T3.out.2.2⟩

set_option maxRecDepth 100000 in
set_option maxHeartbeats 4000000 in
theorem lback_core (k j a b : Int) (nm to tx nm' to' tx' s t : ByteArray) (w : World) (E1 : EncAns k nm to a tx s 0) (E2 : EncAns j nm' to' b tx' t 0) (D1 : DecAns s k nm to a tx)
    (x0 x1 x2 x3 x4 y : Bool) (h0 : (k == j) = x0) (h1 : (nm.toList == nm'.toList) = x1) (h2 : (to.toList == to'.toList) = x2) (h3 : (a == b) = x3) (h4 : (tx.toList == tx'.toList) = x4) (h5 : (s.toList == t.toList) = y) (h6 : y = (x0 && (x1 && (x2 && (x3 && x4))))) :
    Calls Try.prog 3 #[.agg #[.int .i64 k, .string nm, .string to, .int .i64 a, .string tx], .agg #[.int .i64 j, .string nm', .string to', .int .i64 b, .string tx']] w fun e w' => e = .returned (.bool true) ∧ Below w.heap.size w w' := by
  have T0 := Lib.hid (two_new w 23 #[.int .i64 k, .string nm, .string to, .int .i64 a, .string tx] #[.int .i64 j, .string nm', .string to', .int .i64 b, .string tx'])
  have E0 := enc_a
  have h7 : (x0 = false ∧ y = false) ∨ (x0 = true ∧ x1 = false ∧ y = false) ∨ (x0 = true ∧ x1 = true ∧ x2 = false ∧ y = false) ∨ (x0 = true ∧ x1 = true ∧ x2 = true ∧ x3 = false ∧ y = false) ∨ (x0 = true ∧ x1 = true ∧ x2 = true ∧ x3 = true ∧ x4 = false ∧ y = false) ∨ (x0 = true ∧ x1 = true ∧ x2 = true ∧ x3 = true ∧ x4 = true ∧ y = true) := by
    subst h6
    cases x0 <;> cases x1 <;> cases x2 <;> cases x3 <;> cases x4 <;> decide
  clear h6
  rcases h7 with ⟨rfl, rfl⟩ | ⟨rfl, rfl, rfl⟩ | ⟨rfl, rfl, rfl, rfl⟩ | ⟨rfl, rfl, rfl, rfl, rfl⟩ | ⟨rfl, rfl, rfl, rfl, rfl, rfl⟩ | ⟨rfl, rfl, rfl, rfl, rfl, rfl⟩
  all_goals
    go_enter Try.func3, Try.ntmps3
    go_wp2_with fail
    with_reducible refine (E0 _).mono ?_
    rintro e w1 ⟨rfl, hb1⟩
    have T1 := Lib.hid (T0.out.on hb1)
    have k0 := T1.out.1.c 0 _ rfl; have k1 := T1.out.1.c 1 _ rfl; have k2 := T1.out.1.c 2 _ rfl; have k3 := T1.out.1.c 3 _ rfl; have k4 := T1.out.1.c 4 _ rfl
    clear hb1 T0 E0
    go_wp2_with fail
    with_reducible refine (E1 _).mono ?_
    rintro e w2 ⟨rfl, hb2⟩
    have T2 := Lib.hid (T1.out.on hb2)
    clear hb2 k0 k1 k2 k3 k4
    have k0 := T2.out.2.1.c 0 _ rfl; have k1 := T2.out.2.1.c 1 _ rfl; have k2 := T2.out.2.1.c 2 _ rfl; have k3 := T2.out.2.1.c 3 _ rfl; have k4 := T2.out.2.1.c 4 _ rfl
    go_wp2_with fail
    with_reducible refine (E2 _).mono ?_
    rintro e w3 ⟨rfl, hb3⟩
    have T3 := Lib.hid (T2.out.on hb3)
    clear hb3 k0 k1 k2 k3 k4
    go_wp2_with fail
    with_reducible refine (D1 _).mono ?_
    rintro e w4 ⟨rfl, hb4⟩
    have T4 := Lib.hid ((T3.out.on hb4).on ((Below.refl _ w4).alloc (Nat.le_refl _) (.cells #[.int .i64 k, .string nm, .string to, .int .i64 a, .string tx] 23)))
    clear hb4
    have k0 := T4.out.1.c 0 _ rfl; have k1 := T4.out.1.c 1 _ rfl; have k2 := T4.out.1.c 2 _ rfl; have k3 := T4.out.1.c 3 _ rfl; have k4 := T4.out.1.c 4 _ rfl
    have g0 := T4.out.2.1.c 0 _ rfl; have g1 := T4.out.2.1.c 1 _ rfl; have g2 := T4.out.2.1.c 2 _ rfl; have g3 := T4.out.2.1.c 3 _ rfl; have g4 := T4.out.2.1.c 4 _ rfl
    go_wp2_with fail
    go_ret
    exact ⟨rfl, T4.out.2.2⟩

/-- What Encode answers. -/
inductive EncIs (k : Int) (nm to : ByteArray) (a : Int) (tx : ByteArray) : Prop
  | ok (k' a' : Nat) (hk : k = k') (ha : a = a') (hr : Lg.chk k (Lg.nmB nm.data.toList) (Lg.nmB to.data.toList) a tx.size to.toList.isEmpty tx.toList.isEmpty = 0) (h1 : k' ≤ 5) (h2 : a' ≤ 32) (h3 : nm.size ≤ 12) (h4 : to.size ≤ 12) (h5 : tx.size ≤ 64)
  | bad (r : Nat) (h0 : r ≠ 0) (h : EncAns k nm to a tx ⟨#[]⟩ r)

theorem enc_is (k : Int) (nm to : ByteArray) (a : Int) (tx : ByteArray) (hn : nm.size ≤ maxLen) (ht : to.size ≤ maxLen) (hx : tx.size ≤ maxLen) : EncIs k nm to a tx := by
  by_cases h : Lg.chk k (Lg.nmB nm.data.toList) (Lg.nmB to.data.toList) a tx.size to.toList.isEmpty tx.toList.isEmpty = 0
  · obtain ⟨g1, g2, g3, g4, g5, g6, g7, g8⟩ := Lg.chk_ok h
    have hl : ∀ s : ByteArray, s.data.toList.length = s.size := fun s => Array.length_toList ..
    have n1 := Lg.nm_len g3
    rw [hl] at n1
    refine .ok k.toNat a.toNat (by omega) (by omega) h (by omega) (by omega) n1 ?_ g8
    by_cases h5 : k = 5
    · have := Lg.nm_len (g4 h5)
      rwa [hl] at this
    · have := empty_size (g5 h5)
      omega
  · exact .bad _ h (fun w => Encode_bad k nm to a tx w hn ht hx _ rfl h)

theorem logBack_walk (a0_0 : Int) (a0_1 a0_2 : ByteArray) (a0_3 : Int) (a0_4 : ByteArray) (a1_0 : Int) (a1_1 a1_2 : ByteArray) (a1_3 : Int) (a1_4 : ByteArray) (_ : (Lit.int .i64 a0_0).wf = true) (w0_1 : a0_1.size ≤ maxLen) (w0_2 : a0_2.size ≤ maxLen) (_ : (Lit.int .i64 a0_3).wf = true) (w0_4 : a0_4.size ≤ maxLen)
    (_ : (Lit.int .i64 a1_0).wf = true) (w1_1 : a1_1.size ≤ maxLen) (w1_2 : a1_2.size ≤ maxLen) (_ : (Lit.int .i64 a1_3).wf = true) (w1_4 : a1_4.size ≤ maxLen) (w : World) :
    Calls Try.prog 3 #[.agg #[.int .i64 a0_0, .string a0_1, .string a0_2, .int .i64 a0_3, .string a0_4], .agg #[.int .i64 a1_0, .string a1_1, .string a1_2, .int .i64 a1_3, .string a1_4]] w fun e w' => e = .returned (.bool true) ∧ Below w.heap.size w w' := by
  have mk : ∀ l : List UInt8, ∃ T : ByteArray, T.data.toList = l := fun l => ⟨⟨l.toArray⟩, by simp⟩
  have hl : ∀ s : ByteArray, s.data.toList.length = s.size := fun s => Array.length_toList ..
  have hz : (⟨#[]⟩ : ByteArray).toList.isEmpty = true := by rw [ByteArray.toList_eq]; rfl
  rcases enc_is a0_0 a0_1 a0_2 a0_3 a0_4 w0_1 w0_2 w0_4 with ⟨k, a, rfl, rfl, hr, h1, h2, h3, h4, h5⟩ | ⟨r, h0, h⟩
  · obtain ⟨s, hs⟩ := mk (Lg.enc k a a0_1.data.toList a0_2.data.toList a0_4.data.toList)
    have E1 : EncAns k a0_1 a0_2 a a0_4 s 0 := fun w => Encode_ok k a a0_1 a0_2 a0_4 s w hr h3 h4 h5 h1 h2 hs
    have D1 : DecAns s k a0_1 a0_2 a a0_4 := fun w => Decode_ok k a a0_1 a0_2 a0_4 s w hr h3 h4 h5 h1 h2 hs
    rcases enc_is a1_0 a1_1 a1_2 a1_3 a1_4 w1_1 w1_2 w1_4 with ⟨j, b, rfl, rfl, hr', h1', h2', h3', h4', h5'⟩ | ⟨r, h0, h⟩
    · obtain ⟨t, ht⟩ := mk (Lg.enc j b a1_1.data.toList a1_2.data.toList a1_4.data.toList)
      have E2 : EncAns j a1_1 a1_2 b a1_4 t 0 := fun w => Encode_ok j b a1_1 a1_2 a1_4 t w hr' h3' h4' h5' h1' h2' ht
      refine lback_core k j a b a0_1 a0_2 a0_4 a1_1 a1_2 a1_4 s t w E1 E2 D1 _ _ _ _ _ _ rfl rfl rfl rfl rfl rfl ?_
      have hinj := Lg.enc_inj (k := k) (a := a) (k' := j) (a' := b) (nm := a0_1.data.toList) (to := a0_2.data.toList) (te := a0_4.data.toList) (nm' := a1_1.data.toList) (to' := a1_2.data.toList) (te' := a1_4.data.toList)
        (by omega) (by omega) (by omega) (by omega) (by rw [hl]; omega) (by rw [hl]; omega) (by rw [hl]; omega) (by rw [hl]; omega) (by rw [hl]; omega) (by rw [hl]; omega)
      simp only [ByteArray.toList_eq, hs, ht]
      by_cases he : Lg.enc k a a0_1.data.toList a0_2.data.toList a0_4.data.toList = Lg.enc j b a1_1.data.toList a1_2.data.toList a1_4.data.toList
      · obtain ⟨e1, e2, e3, e4, e5⟩ := hinj he
        rw [e1, e2, e3, e4, e5]
        simp
      · rw [beq_eq_false_iff_ne.2 he]
        symm
        by_cases c1 : k = j
        · by_cases c2 : a0_1.data.toList = a1_1.data.toList
          · by_cases c3 : a0_2.data.toList = a1_2.data.toList
            · by_cases c4 : a = b
              · have c5 : a0_4.data.toList ≠ a1_4.data.toList := fun c5 => he (by rw [c1, c2, c3, c4, c5])
                rw [beq_eq_false_iff_ne.2 c5]
                simp
              · rw [beq_eq_false_iff_ne.2 (fun h : (a : Int) = b => c4 (Int.ofNat_inj.1 h))]
                simp
            · rw [beq_eq_false_iff_ne.2 c3]
              simp
          · rw [beq_eq_false_iff_ne.2 c2]
            simp
        · rw [beq_eq_false_iff_ne.2 (fun h : (k : Int) = j => c1 (Int.ofNat_inj.1 h))]
          simp
    · exact lback_bad k a1_0 a a1_3 a0_1 a0_2 a0_4 a1_1 a1_2 a1_4 s _ 0 r w E1 h (Or.inr ⟨rfl, rfl, bne_iff_ne.2 (by omega)⟩)
  · have hE2 : ∃ t f, EncAns a1_0 a1_1 a1_2 a1_3 a1_4 t f := by
      rcases enc_is a1_0 a1_1 a1_2 a1_3 a1_4 w1_1 w1_2 w1_4 with ⟨j, b, rfl, rfl, hr', h1', h2', h3', h4', h5'⟩ | ⟨r, h0, h⟩
      · obtain ⟨t, ht⟩ := mk (Lg.enc j b a1_1.data.toList a1_2.data.toList a1_4.data.toList)
        exact ⟨t, 0, fun w => Encode_ok j b a1_1 a1_2 a1_4 t w hr' h3' h4' h5' h1' h2' ht⟩
      · exact ⟨_, _, h⟩
    obtain ⟨t, f, E2⟩ := hE2
    exact lback_bad a0_0 a1_0 a0_3 a1_3 a0_1 a0_2 a0_4 a1_1 a1_2 a1_4 _ t r f w h E2 (Or.inl ⟨bne_iff_ne.2 (by omega), beq_eq_false_iff_ne.2 (by omega), hz⟩)

end Go.Proofs.Ytdmfgdhfkceihaa
