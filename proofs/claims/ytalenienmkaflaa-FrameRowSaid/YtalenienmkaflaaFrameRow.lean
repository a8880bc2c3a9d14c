/- FrameRow: two frames, one behind the other, are got one behind the other; for every input within the form's reach; what was there stands below. -/
import Derived.Test.YtalenienmkaflaaFrameK
namespace Go.Proofs.Ytalenienmkaflaa
open Go.RowKit

theorem frameRow_test : PutAns 1 ⟨#[120]⟩ ⟨(Fr.enc 1 [120]).toArray⟩ 0 := putAns (k := 1) (by decide) (by decide) (by decide) rfl
theorem frameRow_size : (⟨(Fr.enc 1 [120]).toArray⟩ : ByteArray).size = 8 := by show (List.toArray _).size = 8; rw [List.size_toArray, Fr.enc_length]; rfl

set_option maxRecDepth 100000 in
set_option maxHeartbeats 2000000 in
theorem frameRow_bad (k j : Int) (a b t s more : ByteArray) (e f : Nat) (w : World) (hef : (((e : Int) != 0) = true ∧ s = ⟨#[]⟩ ∧ ((e : Int) == 0) = false) ∨ (((e : Int) != 0) = false ∧ ((e : Int) == 0) = true ∧ ((f : Int) != 0) = true)) (hp : PutAns k a s e) (hp2 : PutAns j b t f) :
    Calls Try.prog 11 #[.agg #[.int .i64 k, .string a], .agg #[.int .i64 j, .string b], .string more] w fun e w' => e = .returned (.bool true) ∧ Below w.heap.size w w' := by
  have T1 := frameRow_test
  have hz := frameRow_size
  generalize (⟨(Fr.enc 1 [120]).toArray⟩ : ByteArray) = T at *
  have HB0 := Lib.hid (boxed2_new w 39 k a j b)
  rcases hef with ⟨h1, rfl, h2⟩ | ⟨h1, h2, h3⟩
  all_goals
    go_enter Try.func11, Try.ntmps11
    go_wp2_with fail
    with_reducible refine T1.use ?_
    rintro r w1 ⟨rfl, hb1⟩
    have HB1 := Lib.hid (HB0.out.keep hb1)
    obtain ⟨c0, c1, -, -, -, -⟩ := HB1.out
    clear hb1
    go_wp2_with fail
    with_reducible refine hp.use ?_
    rintro r w2 ⟨rfl, hb2⟩
    have HB2 := Lib.hid (HB1.out.keep hb2)
    obtain ⟨-, -, d0, d1, -, -⟩ := HB2.out
    clear hb2 c0 c1
    go_wp2_with fail
    with_reducible refine hp2.use ?_
    rintro r w3 ⟨rfl, hb3⟩
    have HB3 := Lib.hid (HB2.out.keep hb3)
    clear hb3 d0 d1
    go_wp2_with fail
    go_ret
    exact ⟨rfl, HB3.out.below⟩

set_option maxRecDepth 100000 in
set_option maxHeartbeats 4000000 in
theorem frameRow_core (k j : Nat) (a b s t more R : ByteArray) (w : World) (_ : k ≤ 255) (_ : j ≤ 255) (hsz : s.size ≤ 707) (htz : t.size ≤ 707) (hm : more.size ≤ 140737488351232) (hp : PutAns k a s 0) (hp2 : PutAns j b t 0)
    (g1 : GetAns (s ++ t ++ more) k a s.size 0) (hR : R = (s ++ t ++ more).extract s.size (s ++ t ++ more).size) (g2 : GetAns R j b t.size 0) :
    Calls Try.prog 11 #[.agg #[.int .i64 k, .string a], .agg #[.int .i64 j, .string b], .string more] w fun e w' => e = .returned (.bool true) ∧ Below w.heap.size w w' := by
  have T1 := frameRow_test
  have hz := frameRow_size
  generalize (⟨(Fr.enc 1 [120]).toArray⟩ : ByteArray) = T at *
  have HB0 := Lib.hid (boxed2_new w 39 k a j b)
  have hall : (s ++ t ++ more).size = s.size + t.size + more.size := by rw [ByteArray.size_append, ByteArray.size_append]
  have x1 := sl_from' Try.underlying9 (s := s ++ t ++ more) (x := (s.size : Int)) (a := s.size) rfl (by omega)
  rw [← hR] at x1
  clear hR hall
  go_enter Try.func11, Try.ntmps11
  go_wp2_with fail
  with_reducible refine T1.use ?_
  rintro r w1 ⟨rfl, hb1⟩
  have HB1 := Lib.hid (HB0.out.keep hb1)
  obtain ⟨c0, c1, -, -, -, -⟩ := HB1.out
  clear hb1
  go_wp2_with fail
  with_reducible refine hp.use ?_
  rintro r w2 ⟨rfl, hb2⟩
  have HB2 := Lib.hid (HB1.out.keep hb2)
  obtain ⟨-, -, d0, d1, -, -⟩ := HB2.out
  clear hb2 c0 c1
  go_wp2_with fail
  with_reducible refine hp2.use ?_
  rintro r w3 ⟨rfl, hb3⟩
  have HB3 := Lib.hid (HB2.out.keep hb3)
  clear hb3 d0 d1
  go_wp2_with fail
  with_reducible refine g1.use ?_
  rintro r w4 ⟨rfl, hb4⟩
  have HB4 := Lib.hid (HB3.out.keep hb4)
  have N4 := Lib.hid (new_frame w4 39 (.int .i64 k) (.string a))
  clear hb4
  go_wp2_with fail
  with_reducible refine g2.use ?_
  rintro r w5 ⟨rfl, hb5⟩
  have HB5 := Lib.hid ((HB4.out.alloc (.cells #[.int .i64 k, .string a] 39)).keep hb5)
  have hs4 : w4.heap.size < (w4.alloc (.cells #[.int .i64 (k : Int), .string a] 39)).heap.size := by rw [World.size_alloc]; omega
  have n0 : w5.cell? ⟨w4.heap.size, 0, none⟩ = some (.int .i64 k) := (hb5.cell (p := ⟨w4.heap.size, 0, none⟩) hs4).trans N4.out.1
  have n1 : w5.cell? ⟨w4.heap.size, 1, none⟩ = some (.string a) := (hb5.cell (p := ⟨w4.heap.size, 1, none⟩) hs4).trans N4.out.2
  have hs5 : w4.heap.size < w5.heap.size := Nat.lt_of_lt_of_le hs4 hb5.size
  clear hb5 hs4
  have B6 := Lib.hid (HB5.out.alloc (.cells #[.int .i64 j, .string b] 39))
  have b6 := (Below.refl w5.heap.size w5).alloc (Nat.le_refl _) (.cells #[.int .i64 (j : Int), .string b] 39)
  have m0 : (w5.alloc (.cells #[.int .i64 (j : Int), .string b] 39)).cell? ⟨w4.heap.size, 0, none⟩ = some (.int .i64 k) := (b6.cell (p := ⟨w4.heap.size, 0, none⟩) hs5).trans n0
  have m1 : (w5.alloc (.cells #[.int .i64 (j : Int), .string b] 39)).cell? ⟨w4.heap.size, 1, none⟩ = some (.string a) := (b6.cell (p := ⟨w4.heap.size, 1, none⟩) hs5).trans n1
  obtain ⟨c0, c1, d0, d1, -, -⟩ := B6.out
  clear n0 n1 b6 hs5
  go_wp2_with fail
  go_ret
  exact ⟨rfl, B6.out.below⟩

theorem frameRow_walk (a0_0 : Int) (a0_1 : ByteArray) (a1_0 : Int) (a1_1 : ByteArray) (a2 : ByteArray) (_ : (Lit.int .i64 a0_0).wf = true) (w0_1 : a0_1.size ≤ maxLen) (_ : (Lit.int .i64 a1_0).wf = true) (w1_1 : a1_1.size ≤ maxLen) (w2 : a2.size ≤ 140737488351232) (w : World) :
    Calls Try.prog 11 #[.agg #[.int .i64 a0_0, .string a0_1], .agg #[.int .i64 a1_0, .string a1_1], .string a2] w fun e w' => e = .returned (.bool true) ∧ Below w.heap.size w w' := by
  rcases put_is a0_0 a0_1 w0_1 with ⟨k, h1, h2, hb, rfl⟩ | ⟨e, he, h⟩
  · obtain ⟨s, hs⟩ : ∃ s : ByteArray, s = ⟨(Fr.enc k a0_1.data.toList).toArray⟩ := ⟨_, rfl⟩
    have hsl : s.data.toList = Fr.enc k a0_1.data.toList := by rw [hs]
    have hl0 : a0_1.data.toList.length = a0_1.size := by simp
    have hss : s.size = a0_1.size + 7 := by have : s.data.toList.length = s.size := by simp
                                            rw [← this, hsl, Fr.enc_length, hl0]
    have hp := putAns h1 h2 hb hsl
    rcases put_is a1_0 a1_1 w1_1 with ⟨j, h1', h2', hb', rfl⟩ | ⟨e', he', h'⟩
    · obtain ⟨t, ht⟩ : ∃ t : ByteArray, t = ⟨(Fr.enc j a1_1.data.toList).toArray⟩ := ⟨_, rfl⟩
      have htl : t.data.toList = Fr.enc j a1_1.data.toList := by rw [ht]
      have hl1 : a1_1.data.toList.length = a1_1.size := by simp
      have hts : t.size = a1_1.size + 7 := by have : t.data.toList.length = t.size := by simp
                                              rw [← this, htl, Fr.enc_length, hl1]
      have hp' := putAns h1' h2' hb' htl
      have hal : (s ++ t ++ a2).data.toList = Fr.enc k a0_1.data.toList ++ (t.data.toList ++ a2.data.toList) := by rw [← hsl]; simp
      have has : (s ++ t ++ a2).size = s.size + t.size + a2.size := by rw [ByteArray.size_append, ByteArray.size_append]
      have hga : Fr.get (s ++ t ++ a2).data.toList = (0, k, a0_1.data.toList, a0_1.data.toList.length + 7) := by rw [hal]; exact Fr.get_enc h1 h2 (by omega) _
      have g1 := getAns (s := s ++ t ++ a2) (by unfold maxLen; omega) hga
      rw [mk_list, hl0, ← hss] at g1
      have hall : (s ++ t ++ a2).data.toList.length = (s ++ t ++ a2).size := by simp; omega
      have hsz : s.data.toList.length = s.size := by simp
      have hRl : ((s ++ t ++ a2).extract s.size (s ++ t ++ a2).size).data.toList = Fr.enc j a1_1.data.toList ++ a2.data.toList := by
        rw [Lib.extract_data, List.take_of_length_le (by rw [List.length_drop]; omega), ← htl, hal, ← hsl, ← hsz, List.drop_left]
      have hgb : Fr.get ((s ++ t ++ a2).extract s.size (s ++ t ++ a2).size).data.toList = (0, j, a1_1.data.toList, a1_1.data.toList.length + 7) := by rw [hRl]; exact Fr.get_enc h1' h2' (by omega) _
      have g2 := getAns (s := (s ++ t ++ a2).extract s.size (s ++ t ++ a2).size) (by rw [ByteArray.size_extract]; unfold maxLen; omega) hgb
      rw [mk_list, hl1, ← hts] at g2
      exact frameRow_core k j a0_1 a1_1 s t a2 _ w h2 h2' (by omega) (by omega) w2 hp hp' g1 rfl g2
    · exact frameRow_bad k a1_0 a0_1 a1_1 ⟨#[]⟩ s a2 0 e' w (Or.inr ⟨rfl, rfl, bne_iff_ne.2 (by omega)⟩) hp h'
  · have hne : ((e : Int) != 0) = true := bne_iff_ne.2 (by omega)
    have heq : ((e : Int) == 0) = false := beq_eq_false_iff_ne.2 (by omega)
    rcases put_is a1_0 a1_1 w1_1 with ⟨j, h1', h2', hb', rfl⟩ | ⟨e', he', h'⟩
    · exact frameRow_bad a0_0 j a0_1 a1_1 _ ⟨#[]⟩ a2 e 0 w (Or.inl ⟨hne, rfl, heq⟩) h (fun w => Put_ok j a1_1 w h1' h2' hb')
    · exact frameRow_bad a0_0 a1_0 a0_1 a1_1 ⟨#[]⟩ ⟨#[]⟩ a2 e e' w (Or.inl ⟨hne, rfl, heq⟩) h h'

end Go.Proofs.Ytalenienmkaflaa
