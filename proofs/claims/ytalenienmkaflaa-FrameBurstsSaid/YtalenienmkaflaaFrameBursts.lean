/- FrameBursts: a frame in whose body, or print, sixteen bits side by side, or fewer, are turned is told; for every input; what was there stands below. -/
import Derived.Test.YtalenienmkaflaaFrameK
namespace Go.Proofs.Ytalenienmkaflaa
open Go.RowKit

/-- The cell for what is got, as it is laid. -/
def Fresh (W : World) (g : Nat) : Prop := W.cell? ⟨g, 0, none⟩ = some (.int .i64 0) ∧ W.cell? ⟨g, 1, none⟩ = some (.string ⟨#[]⟩) ∧ W.frozen? ⟨g, 0, none⟩ = false ∧ W.frozen? ⟨g, 1, none⟩ = false ∧ g < W.heap.size

theorem via {w X W : World} (h : Below X.heap.size X W) (k : Below w.heap.size w X) : Below w.heap.size w W := k.trans (h.mono k.size)

theorem fresh_new (X : World) (T : TypeId) : Fresh (X.alloc (.cells #[.int .i64 0, .string ⟨#[]⟩] T)) X.heap.size :=
  ⟨(new_frame X _ _ _).1, (new_frame X _ _ _).2, new_frozen X _ _ _ 0, new_frozen X _ _ _ 1, by rw [World.size_alloc]; omega⟩

theorem Fresh.keep {X W : World} {g : Nat} (hb : Below X.heap.size X W) (h : Fresh X g) : Fresh W g := by
  obtain ⟨h1, h2, h3, h4, h5⟩ := h
  exact ⟨(hb.cell (p := ⟨g, 0, none⟩) h5).trans h1, (hb.cell (p := ⟨g, 1, none⟩) h5).trans h2, (hb.frozen (p := ⟨g, 0, none⟩) h5).trans h3, (hb.frozen (p := ⟨g, 1, none⟩) h5).trans h4, Nat.lt_of_lt_of_le h5 hb.size⟩

theorem frameBursts_test : PutAns 1 ⟨#[97, 98]⟩ ⟨(Fr.enc 1 [97, 98]).toArray⟩ 0 := putAns (k := 1) (by decide) (by decide) (by decide) rfl
theorem frameBursts_size : (⟨(Fr.enc 1 [97, 98]).toArray⟩ : ByteArray).size = 9 := by show (List.toArray _).size = 9; rw [List.size_toArray, Fr.enc_length]; rfl

set_option maxRecDepth 100000 in
set_option maxHeartbeats 2000000 in
theorem frameBursts_bad (k : Int) (a s : ByteArray) (q : Int) (t e : Nat) (w : World) (h : ((e : Int) != 0) = true ∨ ((e : Int) != 0) = false ∧ ((t : Int) == 0) = true ∧ 7 ≤ s.size) (hp : PutAns k a s e) :
    Calls Try.prog 9 #[.agg #[.int .i64 k, .string a], .int .i64 q, .int .u16 t] w fun e w' => e = .returned (.bool true) ∧ Below w.heap.size w w' := by
  have T1 := frameBursts_test
  have hz := frameBursts_size
  generalize (⟨(Fr.enc 1 [97, 98]).toArray⟩ : ByteArray) = T at *
  have B0 := Lib.hid ((Below.refl w.heap.size w).alloc (Nat.le_refl _) (.cells #[.int .i64 k, .string a] 39))
  have N0 := Lib.hid (new_frame w 39 (.int .i64 k) (.string a))
  have h7 : 7 ≤ s.size → decide ((7 : Int) ≤ (s.size : Int)) = true := fun h => decide_eq_true (by omega)
  have H7 := Lib.hid h7
  clear h7
  rcases h with h | ⟨h, ht, hs⟩
  all_goals
    have h7 := H7.out
    first | (have h7 := h7 hs) | clear h7
    go_enter Try.func9, Try.ntmps9
    go_wp2_with fail
    with_reducible refine T1.use ?_
    rintro r w1 ⟨rfl, hb1⟩
    have hs1 : w.heap.size < (w.alloc (.cells #[.int .i64 k, .string a] 39)).heap.size := by rw [World.size_alloc]; omega
    have c0 : w1.cell? ⟨w.heap.size, 0, none⟩ = some (.int .i64 k) := (hb1.cell (p := ⟨w.heap.size, 0, none⟩) hs1).trans N0.out.1
    have c1 : w1.cell? ⟨w.heap.size, 1, none⟩ = some (.string a) := (hb1.cell (p := ⟨w.heap.size, 1, none⟩) hs1).trans N0.out.2
    have B1 := Lib.hid (B0.out.trans (hb1.mono B0.out.size))
    clear hb1 hs1
    go_wp2_with fail
    with_reducible refine hp.use ?_
    rintro r w2 ⟨rfl, hb2⟩
    have B2 := Lib.hid (B1.out.trans (hb2.mono B1.out.size))
    clear hb2 c0 c1
    go_wp2_with fail
    go_ret
    exact ⟨rfl, B2.out⟩

set_option maxRecDepth 100000 in
set_option maxHeartbeats 4000000 in
theorem frameBursts_core (k : Int) (a s U V X : ByteArray) (q : Int) (t A : Nat) (w : World) (ht : ((t : Int) == 0) = false) (hs : 7 ≤ s.size) (hs2 : s.size ≤ 707) (hp : PutAns k a s 0)
    (hA : Ans1 21 #[.int .i64 q, .int .i64 (8 * ((s.size : Int) - 3) - 15)] (.int .i64 A)) (hU : U = s.extract 0 3) (hV : V = s.extract 3 s.size) (hX : X.size ≤ 1000)
    (br : ∀ w, Calls Try.prog 28 #[.string V, .int .i64 A, .int .u16 t] w fun e w' => e = .returned (.string X) ∧ Below w.heap.size w w') (g : GetAns (U ++ X) 0 ⟨#[]⟩ 0 6) :
    Calls Try.prog 9 #[.agg #[.int .i64 k, .string a], .int .i64 q, .int .u16 t] w fun e w' => e = .returned (.bool true) ∧ Below w.heap.size w w' := by
  have T1 := frameBursts_test
  have hz := frameBursts_size
  generalize (⟨(Fr.enc 1 [97, 98]).toArray⟩ : ByteArray) = T at *
  have B0 := Lib.hid ((Below.refl w.heap.size w).alloc (Nat.le_refl _) (.cells #[.int .i64 k, .string a] 39))
  have N0 := Lib.hid (new_frame w 39 (.int .i64 k) (.string a))
  have x1 := sl_to'' Try.underlying9 (s := s) (y := 3) (b := 3) rfl (by omega)
  have x2 := sl_from' Try.underlying9 (s := s) (x := 3) (a := 3) rfl (by omega)
  have hUs : U.size ≤ 1000 := by rw [hU, ByteArray.size_extract]; omega
  rw [← hU] at x1; rw [← hV] at x2
  clear hU hV
  have hsum : ¬ (9223372036854775807 < U.size + X.size) := by omega
  go_enter Try.func9, Try.ntmps9
  go_wp2_with fail
  with_reducible refine T1.use ?_
  rintro r w1 ⟨rfl, hb1⟩
  have hs1 : w.heap.size < (w.alloc (.cells #[.int .i64 k, .string a] 39)).heap.size := by rw [World.size_alloc]; omega
  have c0 : w1.cell? ⟨w.heap.size, 0, none⟩ = some (.int .i64 k) := (hb1.cell (p := ⟨w.heap.size, 0, none⟩) hs1).trans N0.out.1
  have c1 : w1.cell? ⟨w.heap.size, 1, none⟩ = some (.string a) := (hb1.cell (p := ⟨w.heap.size, 1, none⟩) hs1).trans N0.out.2
  have B1 := Lib.hid (B0.out.trans (hb1.mono B0.out.size))
  clear hb1 hs1
  go_wp2_with fail
  with_reducible refine hp.use ?_
  rintro r w2 ⟨rfl, hb2⟩
  have B2 := Lib.hid (B1.out.trans (hb2.mono B1.out.size))
  clear hb2 c0 c1
  go_wp2_with fail
  with_reducible refine hA.use ?_
  rintro e w' ⟨rfl, rfl⟩
  go_wp2_with fail
  go_region_with (first
    | (go_at_call 28; refine (br _).mono ?_; rintro e w' ⟨rfl, hb'⟩
       first
         | (have fr : Fresh w' w2.heap.size := Fresh.keep hb' (fresh_new w2 39)
            obtain ⟨a0, a1, f0, f1, hlt⟩ := fr)
         | skip)
    | (go_at_call 27; refine (g _).mono ?_; rintro e w'' ⟨rfl, hb''⟩
       first
         | (have fr : Fresh w'' w2.heap.size := Fresh.keep hb'' ⟨a0, a1, f0, f1, hlt⟩
            obtain ⟨a2, a3, f2, f3, hlt2⟩ := fr)
         | (have fr : Fresh w'' w'.heap.size := Fresh.keep hb'' (fresh_new w' 39)
            obtain ⟨a2, a3, f2, f3, hlt2⟩ := fr)
         | skip))
  all_goals
    have Q2 := B2.out.alloc B2.out.size (.cells #[.int .i64 0, .string ⟨#[]⟩] 39)
    have K1 : Below w.heap.size w w' := by
      first
        | exact via hb' ⟨B2.out.os, B2.out.tape, B2.out.output, B2.out.size, B2.out.block⟩
        | exact via hb' ⟨Q2.os, Q2.tape, Q2.output, Q2.size, Q2.block⟩
    have Q1 := K1.alloc K1.size (.cells #[.int .i64 0, .string ⟨#[]⟩] 39)
    have K2 : Below w.heap.size w w'' := by
      first
        | exact via hb'' ⟨K1.os, K1.tape, K1.output, K1.size, K1.block⟩
        | exact via hb'' ⟨Q1.os, Q1.tape, Q1.output, Q1.size, Q1.block⟩
    have K3 := K2.alloc K2.size (.cells #[.int .i64 0, .string ⟨#[]⟩] 39)
    have KK2 := Lib.hid K2; have KK3 := Lib.hid K3; have KS1 := Lib.hid K1.size; have KS2 := Lib.hid B2.out.size
    clear hb' hb'' Q2 K1 Q1 K2 K3
    go_wp2_with fail
    go_ret
    refine ⟨rfl, ?_⟩
    first
      | exact KK3.out
      | exact below_set KK2.out KS1.out _ _
      | exact below_set KK2.out KS2.out _ _

theorem frameBursts_walk (a0_0 : Int) (a0_1 : ByteArray) (a1 : Int) (a2 : Int) (_ : (Lit.int .i64 a0_0).wf = true) (w0_1 : a0_1.size ≤ maxLen) (_ : (Lit.int .i64 a1).wf = true) (w2 : (Lit.int .u16 a2).wf = true) (w : World) :
    Calls Try.prog 9 #[.agg #[.int .i64 a0_0, .string a0_1], .int .i64 a1, .int .u16 a2] w fun e w' => e = .returned (.bool true) ∧ Below w.heap.size w w' := by
  have hb : 0 ≤ a2 ∧ a2 < 65536 := by simp [Lit.wf, IntKind.min, IntKind.max, IntKind.signed, IntKind.bits] at w2; omega
  obtain ⟨t, rfl⟩ := Int.eq_ofNat_of_zero_le (show 0 ≤ a2 by omega)
  rcases put_is a0_0 a0_1 w0_1 with ⟨k, h1, h2, hb', rfl⟩ | ⟨e, he, h⟩
  · obtain ⟨s, hs⟩ : ∃ s : ByteArray, s = ⟨(Fr.enc k a0_1.data.toList).toArray⟩ := ⟨_, rfl⟩
    have hsl : s.data.toList = Fr.enc k a0_1.data.toList := by rw [hs]
    have hl0 : a0_1.data.toList.length = a0_1.size := by simp
    have hsz : s.data.toList.length = s.size := by simp
    have hss : s.size = a0_1.size + 7 := by rw [← hsz, hsl, Fr.enc_length, hl0]
    have hp := putAns h1 h2 hb' hsl
    by_cases ht : t = 0
    · exact frameBursts_bad k a0_1 s a1 t 0 w (Or.inr ⟨rfl, by rw [ht]; rfl, by omega⟩) hp
    · have hA := wi_lt a1 (8 * (s.size - 3) - 15) (by omega)
      have hw := within_is (k := a1) (n := 8 * (s.size - 3) - 15) (N := 8 * ((s.size : Int) - 3) - 15) (by omega) (by omega) (by omega) rfl
      generalize wi a1 (8 * (s.size - 3) - 15) = A at *
      have hVs : (s.extract 3 s.size).size = s.size - 3 := by rw [ByteArray.size_extract]; omega
      have hVl : (s.extract 3 s.size).data.toList = (Fr.enc k a0_1.data.toList).drop 3 := by
        rw [Lib.extract_data, List.take_of_length_le (by rw [List.length_drop]; omega), hsl]
      have hUl : (s.extract 0 3).data.toList = (Fr.enc k a0_1.data.toList).take 3 := by rw [Lib.extract_data, hsl]; rfl
      have hXs : (⟨(brs (s.extract 3 s.size).data.toList A t 16).toArray⟩ : ByteArray).size = s.size - 3 := by
        show (List.toArray _).size = _
        rw [List.size_toArray, brs_length, ← hVs]; simp
      have hg : Fr.get ((s.extract 0 3) ++ (⟨(brs (s.extract 3 s.size).data.toList A t 16).toArray⟩ : ByteArray)).data.toList = (6, 0, [], 0) := by
        have e : ((s.extract 0 3) ++ (⟨(brs (s.extract 3 s.size).data.toList A t 16).toArray⟩ : ByteArray)).data.toList = (s.extract 0 3).data.toList ++ brs (s.extract 3 s.size).data.toList A t 16 := by simp
        rw [e, hUl, hVl]
        exact Fr.get_burst h1 h2 (by omega) (by omega) (by omega) ht
      have hUs : (s.extract 0 3).size ≤ 3 := by rw [ByteArray.size_extract]; omega
      exact frameBursts_core k a0_1 s _ _ _ a1 t A w (beq_eq_false_iff_ne.2 (by omega)) (by omega) (by omega) hp hw rfl rfl (by omega)
        (fun w => burst_any _ A t w (by omega) (by omega) (by omega)) (getAns (by rw [ByteArray.size_append]; unfold maxLen; omega) hg)
  · exact frameBursts_bad a0_0 a0_1 ⟨#[]⟩ a1 t e w (Or.inl (bne_iff_ne.2 (by omega))) h

end Go.Proofs.Ytalenienmkaflaa
