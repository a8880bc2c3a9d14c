/- FrameBack: what is put is got; a frame that is cut off is told to be; two have one frame just if they are the same; for every input within the form's reach; what was there stands below. -/
import Derived.Test.YtalenienmkaflaaFrameK
namespace Go.Proofs.Ytalenienmkaflaa
open Go.RowKit

theorem frameBack_test : PutAns 2 ⟨#[97, 98]⟩ ⟨(Fr.enc 2 [97, 98]).toArray⟩ 0 := putAns (k := 2) (by decide) (by decide) (by decide) rfl
theorem frameBack_size : (⟨(Fr.enc 2 [97, 98]).toArray⟩ : ByteArray).size = 9 := by show (List.toArray _).size = 9; rw [List.size_toArray, Fr.enc_length]; rfl
theorem frameBack_pre : Ans1 29 #[.string ⟨(Fr.enc 2 [97, 98]).toArray⟩, .string ⟨#[2, 0, 2, 97, 98]⟩] (.bool true) := fun w => by
  refine (Try.strings_HasPrefix _ _ w).mono ?_
  rintro e w' ⟨rfl, rfl⟩
  exact ⟨rfl, rfl⟩

set_option maxRecDepth 100000 in
set_option maxHeartbeats 2000000 in
theorem frameBack_bad (k j : Int) (a b more : ByteArray) (q : Int) (e : Nat) (w : World) (he : ((e : Int) != 0) = true) (hp : PutAns k a ⟨#[]⟩ e) :
    Calls Try.prog 12 #[.agg #[.int .i64 k, .string a], .agg #[.int .i64 j, .string b], .string more, .int .i64 q] w fun e w' => e = .returned (.bool true) ∧ Below w.heap.size w w' := by
  have T1 := frameBack_test
  have hz := frameBack_size
  have H1 := frameBack_pre
  generalize (⟨(Fr.enc 2 [97, 98]).toArray⟩ : ByteArray) = T at *
  have HB0 := Lib.hid (boxed2_new w 39 k a j b)
  go_enter Try.func12, Try.ntmps12
  go_wp2_with fail
  with_reducible refine T1.use ?_
  rintro r w1 ⟨rfl, hb1⟩
  have HB1 := Lib.hid (HB0.out.keep hb1)
  obtain ⟨c0, c1, -, -, -, -⟩ := HB1.out
  clear hb1
  go_wp2_with fail
  with_reducible refine H1.use ?_
  rintro e w' ⟨rfl, rfl⟩
  go_wp2_with fail
  with_reducible refine hp.use ?_
  rintro r w2 ⟨rfl, hb2⟩
  have HB2 := Lib.hid (HB1.out.keep hb2)
  clear hb2 c0 c1
  go_wp2_with fail
  go_ret
  exact ⟨rfl, HB2.out.below⟩

set_option maxRecDepth 100000 in
set_option maxHeartbeats 4000000 in
theorem frameBack_core (k : Nat) (j : Int) (a b s t more P : ByteArray) (q : Int) (p e3 : Nat) (w : World) (hsz : s.size ≤ 707) (hm : more.size ≤ 140737488351232) (hp : PutAns k a s 0)
    (g1 : GetAns (s ++ more) k a s.size 0) (hq : Ans1 21 #[.int .i64 q, .int .i64 s.size] (.int .i64 p)) (hs0 : 7 ≤ s.size) (hpl : p < s.size) (hP : P = s.extract 0 p) (g2 : GetAns P 0 ⟨#[]⟩ 0 7) (hp2 : PutAns j b t e3)
    (h3 : ((e3 : Int) != 0) = true ∨ ((e3 : Int) != 0) = false ∧ ∃ x y : Bool, ((k : Int) == j) = x ∧ (a.toList == b.toList) = y ∧ (s.toList == t.toList) = (x && y)) :
    Calls Try.prog 12 #[.agg #[.int .i64 k, .string a], .agg #[.int .i64 j, .string b], .string more, .int .i64 q] w fun e w' => e = .returned (.bool true) ∧ Below w.heap.size w w' := by
  have T1 := frameBack_test
  have hz := frameBack_size
  have H1 := frameBack_pre
  generalize (⟨(Fr.enc 2 [97, 98]).toArray⟩ : ByteArray) = T at *
  have HB0 := Lib.hid (boxed2_new w 39 k a j b)
  have hmax : max (1 : Int) (s.size : Int) = (s.size : Int) := by omega
  have x1 := sl_to'' Try.underlying9 (s := s) (y := (p : Int)) (b := p) rfl (by omega)
  rw [← hP] at x1
  clear hP
  go_enter Try.func12, Try.ntmps12
  go_wp2_with fail
  with_reducible refine T1.use ?_
  rintro r w1 ⟨rfl, hb1⟩
  have HB1 := Lib.hid (HB0.out.keep hb1)
  obtain ⟨c0, c1, -, -, -, -⟩ := HB1.out
  clear hb1
  go_wp2_with fail
  with_reducible refine H1.use ?_
  rintro e w' ⟨rfl, rfl⟩
  go_wp2_with fail
  with_reducible refine hp.use ?_
  rintro r w2 ⟨rfl, hb2⟩
  have HB2 := Lib.hid (HB1.out.keep hb2)
  clear hb2 c0 c1
  go_wp2_with fail
  with_reducible refine g1.use ?_
  rintro r w3 ⟨rfl, hb3⟩
  have HB3 := Lib.hid (HB2.out.keep hb3)
  have N3 := Lib.hid (new_frame w3 39 (.int .i64 k) (.string a))
  clear hb3
  go_wp2_with fail
  with_reducible refine hq.use ?_
  rintro e w' ⟨rfl, rfl⟩
  go_wp2_with fail
  with_reducible refine g2.use ?_
  rintro r w4 ⟨rfl, hb4⟩
  have HB4 := Lib.hid ((HB3.out.alloc (.cells #[.int .i64 k, .string a] 39)).keep hb4)
  have hs3 : w3.heap.size < (w3.alloc (.cells #[.int .i64 (k : Int), .string a] 39)).heap.size := by rw [World.size_alloc]; omega
  have N4 : Hid (w4.cell? ⟨w3.heap.size, 0, none⟩ = some (.int .i64 k) ∧ w4.cell? ⟨w3.heap.size, 1, none⟩ = some (.string a)) :=
    Lib.hid ⟨(hb4.cell (p := ⟨w3.heap.size, 0, none⟩) hs3).trans N3.out.1, (hb4.cell (p := ⟨w3.heap.size, 1, none⟩) hs3).trans N3.out.2⟩
  have hs4 : w3.heap.size < w4.heap.size := Nat.lt_of_lt_of_le hs3 hb4.size
  clear hb4 hs3 N3
  have HB5 := Lib.hid (HB4.out.alloc (.cells #[.int .i64 0, .string ⟨#[]⟩] 39))
  obtain ⟨-, -, d0, d1, -, -⟩ := HB5.out
  go_wp2_with fail
  with_reducible refine hp2.use ?_
  rintro r w5 ⟨rfl, hb5⟩
  have HB6 := Lib.hid (HB5.out.keep hb5)
  have b5 := hb5.mono (B' := w4.heap.size) (by rw [World.size_alloc]; omega)
  have b6 := ((Below.refl w4.heap.size w4).alloc (Nat.le_refl _) (.cells #[.int .i64 0, .string ⟨#[]⟩] 39)).trans b5
  have n0 : w5.cell? ⟨w3.heap.size, 0, none⟩ = some (.int .i64 k) := (b6.cell (p := ⟨w3.heap.size, 0, none⟩) hs4).trans N4.out.1
  have n1 : w5.cell? ⟨w3.heap.size, 1, none⟩ = some (.string a) := (b6.cell (p := ⟨w3.heap.size, 1, none⟩) hs4).trans N4.out.2
  clear d0 d1 b5 b6 hb5 hs4 N4
  obtain ⟨c0, c1, d0, d1, -, -⟩ := HB6.out
  rcases h3 with h3 | ⟨h3, x, y, h4, h5, h6⟩
  · go_wp2_with fail
    go_ret
    exact ⟨rfl, HB6.out.below⟩
  · rcases x with _ | _ <;> rcases y with _ | _
    all_goals
      go_wp2_with fail
      go_ret
      exact ⟨rfl, HB6.out.below⟩

theorem frameBack_walk (a0_0 : Int) (a0_1 : ByteArray) (a1_0 : Int) (a1_1 : ByteArray) (a2 : ByteArray) (a3 : Int) (_ : (Lit.int .i64 a0_0).wf = true) (w0_1 : a0_1.size ≤ maxLen) (_ : (Lit.int .i64 a1_0).wf = true) (w1_1 : a1_1.size ≤ maxLen) (w2 : a2.size ≤ 140737488351232) (_ : (Lit.int .i64 a3).wf = true) (w : World) :
    Calls Try.prog 12 #[.agg #[.int .i64 a0_0, .string a0_1], .agg #[.int .i64 a1_0, .string a1_1], .string a2, .int .i64 a3] w fun e w' => e = .returned (.bool true) ∧ Below w.heap.size w w' := by
  rcases put_is a0_0 a0_1 w0_1 with ⟨k, h1, h2, hb, rfl⟩ | ⟨e, he, h⟩
  · obtain ⟨s, hs⟩ : ∃ s : ByteArray, s = ⟨(Fr.enc k a0_1.data.toList).toArray⟩ := ⟨_, rfl⟩
    have hsl : s.data.toList = Fr.enc k a0_1.data.toList := by rw [hs]
    have hl0 : a0_1.data.toList.length = a0_1.size := by simp
    have hsz : s.data.toList.length = s.size := by simp
    have hss : s.size = a0_1.size + 7 := by rw [← hsz, hsl, Fr.enc_length, hl0]
    have hp := putAns h1 h2 hb hsl
    have hal : (s ++ a2).data.toList = Fr.enc k a0_1.data.toList ++ a2.data.toList := by rw [← hsl]; simp
    have hga : Fr.get (s ++ a2).data.toList = (0, k, a0_1.data.toList, a0_1.data.toList.length + 7) := by rw [hal]; exact Fr.get_enc h1 h2 (by omega) _
    have g1 := getAns (s := s ++ a2) (by rw [ByteArray.size_append]; unfold maxLen; omega) hga
    rw [mk_list, hl0, ← hss] at g1
    have hA := wi_lt a3 s.size (by omega)
    have hq := within_is (k := a3) (n := s.size) (N := (s.size : Int)) rfl (by omega) (by omega) rfl
    generalize wi a3 s.size = p at *
    have hPl : (s.extract 0 p).data.toList = (Fr.enc k a0_1.data.toList).take p := by rw [Lib.extract_data, hsl]; rfl
    have hgb : Fr.get (s.extract 0 p).data.toList = (7, 0, [], 0) := by rw [hPl]; exact Fr.get_short h1 h2 (by omega) p (by omega)
    have g2 := getAns (s := s.extract 0 p) (by rw [ByteArray.size_extract]; unfold maxLen; omega) hgb
    rcases put_is a1_0 a1_1 w1_1 with ⟨j, h1', h2', hb', rfl⟩ | ⟨e', he', h'⟩
    · obtain ⟨t, ht⟩ : ∃ t : ByteArray, t = ⟨(Fr.enc j a1_1.data.toList).toArray⟩ := ⟨_, rfl⟩
      have htl : t.data.toList = Fr.enc j a1_1.data.toList := by rw [ht]
      have hl1 : a1_1.data.toList.length = a1_1.size := by simp
      have hp' := putAns h1' h2' hb' htl
      refine frameBack_core k j a0_1 a1_1 s t a2 _ a3 p 0 w (by omega) w2 hp g1 hq (by omega) hA rfl g2 hp' (Or.inr ⟨rfl, _, _, rfl, rfl, ?_⟩)
      have hinj := Fr.enc_inj (b := a0_1.data.toList) (b' := a1_1.data.toList) h1 h2 (by omega) h1' h2' (by omega)
      rw [ByteArray.toList_eq, ByteArray.toList_eq, ByteArray.toList_eq, ByteArray.toList_eq, hsl, htl]
      by_cases hk : k = j
      · by_cases hb : a0_1.data.toList = a1_1.data.toList
        · rw [hk, hb]; simp
        · have : ¬ Fr.enc k a0_1.data.toList = Fr.enc j a1_1.data.toList := fun h => hb (hinj.1 h).2
          rw [beq_eq_false_iff_ne.2 this, beq_eq_false_iff_ne.2 hb, Bool.and_false]
      · have : ¬ Fr.enc k a0_1.data.toList = Fr.enc j a1_1.data.toList := fun h => hk (hinj.1 h).1
        rw [beq_eq_false_iff_ne.2 this, beq_eq_false_iff_ne.2 (fun h : (k : Int) = j => hk (Int.ofNat_inj.1 h)), Bool.false_and]
    · exact frameBack_core k a1_0 a0_1 a1_1 s _ a2 _ a3 p e' w (by omega) w2 hp g1 hq (by omega) hA rfl g2 h' (Or.inl (bne_iff_ne.2 (by omega)))
  · exact frameBack_bad a0_0 a1_0 a0_1 a1_1 a2 a3 e w (bne_iff_ne.2 (by omega)) h

end Go.Proofs.Ytalenienmkaflaa
