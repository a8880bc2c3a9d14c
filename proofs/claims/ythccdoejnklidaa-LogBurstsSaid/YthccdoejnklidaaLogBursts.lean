/- LogBursts: a log of which sixteen bits side by side, or fewer, are turned in a frame's body is told; for every input. -/
import Derived.Test.YthccdoejnklidaaLogBurP
namespace Go.Proofs.Ythccdoejnklidaa
open Go.RowKit

set_option maxRecDepth 100000 in
set_option maxHeartbeats 8000000 in
theorem logBursts_none (a0 : Option Addr) (len0 cap0 : Nat) (t0 : List Lg.Op) (a1 a2 : Int) (t : Nat) (w : World) (w0 : OArg w a0 len0 cap0 t0) (h0 : (Lr.kept t0).2 = [] ∨ t = 0) :
    Calls Try.prog 3 #[.slice a0 len0 cap0, .int .i64 a1, .int .i64 a2, .int .u16 t] w fun e w' => e = .returned (.bool true) ∧ Below w.heap.size w w' := by
  have KV : Hid (∀ W, Below w.heap.size w W → Calls Try.prog 8 #[.slice a0 len0 cap0] W (KeptTo W (Lr.kept t0))) := Lib.hid fun W hb => kept_V a0 len0 cap0 t0 W ⟨w0.1.keep hb, w0.2⟩
  have hB1 := (Below.refl w.heap.size w).alloc (Nat.le_refl _) (.cells #[.int .i64 2, .string ⟨#[97]⟩, .string ⟨#[]⟩, .int .i64 0, .string ⟨#[]⟩] 28)
  have HB1 := Lib.hid hB1
  have CT := Log_L (some ⟨w.heap.size, 0, none⟩) 1 1 [opC] _ (one_opC w) opC_chk (by decide)
  have HKC := Lib.hid (Lr.kept_chk t0); have HKL := Lib.hid (Lr.kept_len t0)
  obtain ⟨P, hP⟩ : ∃ P, Lr.kept t0 = P := ⟨_, rfl⟩
  rw [hP] at KV HKC HKL h0
  obtain ⟨KS, KL⟩ := P
  dsimp only at HKC HKL h0
  have L2 : Hid (∀ (a : Option Addr) (n c : Nat) (W : World), OSl W a n c KL → Calls Try.prog 7 #[.slice a n c] W fun e w' => e = .returned (.tuple #[.string ⟨(Lr.log KL).toArray⟩, .int .i64 0]) ∧ Below W.heap.size W w') := Lib.hid fun a n c W h => Log_L a n c KL W h HKC.out (by have := HKL.out; have := h.len; omega)
  have hs1 := opC_size
  have hl : KL.length = 0 ∨ t = 0 := h0.imp (fun h => by rw [h]; rfl) id
  clear hB1 w0 hP h0
  generalize (⟨(Lr.log KL).toArray⟩ : ByteArray) = s2 at *
  generalize (⟨(Lr.log [opC]).toArray⟩ : ByteArray) = s1 at *
  go_enter Try.func3, Try.ntmps3
  go_wp2_with fail
  with_reducible refine CT.mono ?_
  rintro e v2 ⟨rfl, hb2⟩
  have HB2 := Lib.hid (HB1.out.trans (hb2.mono HB1.out.size))
  have K4 := KV.out _ HB2.out
  clear hb2 CT
  go_wp2_with fail
  with_reducible refine K4.mono ?_
  rintro e v4 ⟨a4, n4, c4, a5, n5, c5, b5, m5, d5, rs5, rfl, o4, l4, -, hb4⟩
  dsimp only at o4 l4
  obtain rfl : KL.length = n4 := l4
  have ha4 := hb4.alloc hb4.size (.cells #[.slice a5 n5 c5, .slice b5 m5 d5] 32)
  have HB4 := Lib.hid (HB2.out.trans (ha4.mono HB2.out.size))
  have ho4 := own_osl (o4.alloc (.cells #[.slice a5 n5 c5, .slice b5 m5 d5] 32)) rfl
  have K5 := L2.out a4 KL.length c4 _ ho4
  clear o4 hb4 ha4 K4 ho4
  go_wp2_with fail
  with_reducible refine K5.mono ?_
  rintro e v5 ⟨rfl, hb5⟩
  have HB5 := Lib.hid (HB4.out.trans (hb5.mono HB4.out.size))
  clear hb5 K5
  rcases hl with hl | rfl
  · go_wp2_with fail
    go_ret
    exact ⟨rfl, HB5.out⟩
  · by_cases hl : KL.length = 0
    · go_wp2_with fail
      go_ret
      exact ⟨rfl, HB5.out⟩
    · go_wp2_with fail
      go_ret
      exact ⟨rfl, HB5.out⟩

set_option maxRecDepth 100000 in
set_option maxHeartbeats 16000000 in
theorem logBursts_core (a0 : Option Addr) (len0 cap0 : Nat) (t0 : List Lg.Op) (a1 a2 : Int) (t : Nat) (w : World) (w0 : OArg w a0 len0 cap0 t0) (ht : t < 65536) (h0 : 0 < (Lr.kept t0).2.length) (ht0 : t ≠ 0) :
    Calls Try.prog 3 #[.slice a0 len0 cap0, .int .i64 a1, .int .i64 a2, .int .u16 t] w fun e w' => e = .returned (.bool true) ∧ Below w.heap.size w w' := by
  have KV : Hid (∀ W, Below w.heap.size w W → Calls Try.prog 8 #[.slice a0 len0 cap0] W (KeptTo W (Lr.kept t0))) := Lib.hid fun W hb => kept_V a0 len0 cap0 t0 W ⟨w0.1.keep hb, w0.2⟩
  have hB1 := (Below.refl w.heap.size w).alloc (Nat.le_refl _) (.cells #[.int .i64 2, .string ⟨#[97]⟩, .string ⟨#[]⟩, .int .i64 0, .string ⟨#[]⟩] 28)
  have HB1 := Lib.hid hB1
  have CT := Log_L (some ⟨w.heap.size, 0, none⟩) 1 1 [opC] _ (one_opC w) opC_chk (by decide)
  have HKR := Lib.hid (Lr.kept_run t0); have HKC := Lib.hid (Lr.kept_chk t0); have HKL := Lib.hid (Lr.kept_len t0)
  obtain ⟨P, hP⟩ : ∃ P, Lr.kept t0 = P := ⟨_, rfl⟩
  rw [hP] at KV HKR HKC HKL h0
  obtain ⟨KS, KL⟩ := P
  dsimp only at HKR HKC HKL h0
  obtain ⟨i, hi⟩ : ∃ i, wi a1 KL.length = i := ⟨_, rfl⟩
  have hil : i < KL.length := by rw [← hi]; exact wi_lt a1 _ h0
  have WI : ∀ W, Calls Try.prog 9 #[.int .i64 a1, .int .i64 (KL.length : Int)] W fun e w' => e = .returned (.int .i64 i) ∧ W = w' := fun W => by
    rw [← hi]
    exact within_any a1 _ KL.length W rfl h0 (by have := HKL.out; omega)
  obtain ⟨S, hS⟩ : ∃ S : ByteArray, S = ⟨(Lr.log KL).toArray⟩ := ⟨_, rfl⟩
  obtain ⟨T, hT⟩ : ∃ T : ByteArray, T = ⟨(Lr.log (KL.take i)).toArray⟩ := ⟨_, rfl⟩
  obtain ⟨one, ho⟩ : ∃ one : ByteArray, one = ⟨(Lr.frm KL[i]).toArray⟩ := ⟨_, rfl⟩
  have hck := HKC.out _ (List.getElem_mem hil)
  have hosz : one.size = (Lr.frm KL[i]).length := by rw [ho]; exact List.size_toArray ..
  have hol : 12 ≤ one.size ∧ one.size ≤ 100 := by
    have h1 := Lr.frm_length hck
    have h2 := Lr.body_length hck
    have h3 := Lr.body_low KL[i]
    omega
  obtain ⟨A, hA⟩ : ∃ A, wi a2 (8 * (one.size - 3) - 15) = A := ⟨_, rfl⟩
  have hAl : A < 8 * (one.size - 3) - 15 := by rw [← hA]; exact wi_lt a2 _ (by omega)
  have WA : ∀ W, Calls Try.prog 9 #[.int .i64 a2, .int .i64 (8 * ((one.size : Int) - 3) - 15)] W fun e w' => e = .returned (.int .i64 A) ∧ W = w' := fun W => by
    rw [← hA]
    exact within_any a2 _ (8 * (one.size - 3) - 15) W (by omega) (by omega) (by omega)
  obtain ⟨X, hX⟩ : ∃ X : ByteArray, X = ⟨(brs (one.extract 3 one.size).data.toList A t 16).toArray⟩ := ⟨_, rfl⟩
  have hVs : (one.extract 3 one.size).size = one.size - 3 := by rw [ByteArray.size_extract]; omega
  have BR : Hid (∀ W, Calls Try.prog 11 #[.string (one.extract 3 one.size), .int .i64 A, .int .u16 t] W fun e w' => e = .returned (.string X) ∧ Below W.heap.size W w') := Lib.hid fun W => by
    rw [hX]
    exact burst_any (one.extract 3 one.size) A t W (by omega) (by omega) ht
  have hXs : X.size = one.size - 3 := by
    rw [hX]
    show (brs _ A t 16).toArray.size = _
    rw [List.size_toArray, brs_length, Lr.size_list, hVs]
  have RC : Hid (∀ W, Calls Try.prog 10 #[.string (T ++ one.extract 0 3 ++ X ++ S.extract (min S.size (T.size + one.size)) S.size)] W (RepTo W Vo.st0 0 6)) := Lib.hid fun W =>
    Replay_burst (l := KL) (by rw [HKR.out]) HKL.out hil one S T ho hT hS X hX (by omega) ht ht0 W
  have hsz := log_sizeB HKC.out (by have := HKL.out; omega)
  rw [← hS] at hsz
  have hszT := log_sizeB (l := KL.take i) (fun x hx => HKC.out x (List.mem_of_mem_take hx)) (by rw [List.length_take]; have := HKL.out; omega)
  rw [← hT] at hszT
  have L2 : Hid (∀ (a : Option Addr) (n c : Nat) (W : World), OSl W a n c KL → Calls Try.prog 7 #[.slice a n c] W fun e w' => e = .returned (.tuple #[.string S, .int .i64 0]) ∧ Below W.heap.size W w') := Lib.hid fun a n c W h => by
    rw [hS]; exact Log_L a n c KL W h HKC.out (by have := HKL.out; have := h.len; omega)
  have L3 : Hid (∀ (a : Option Addr) (c : Nat) (W : World), OSl W a i c (KL.take i) → Calls Try.prog 7 #[.slice a i c] W fun e w' => e = .returned (.tuple #[.string T, .int .i64 0]) ∧ Below W.heap.size W w') := Lib.hid fun a c W h => by
    rw [hT]; exact Log_L a i c (KL.take i) W h (fun x hx => HKC.out x (List.mem_of_mem_take hx)) (by have := HKL.out; omega)
  have L4 : Hid (∀ (a : Option Addr) (c : Nat) (W : World), OSl W a 1 c [KL[i]] → Calls Try.prog 7 #[.slice a 1 c] W fun e w' => e = .returned (.tuple #[.string one, .int .i64 0]) ∧ Below W.heap.size W w') := Lib.hid fun a c W h => by
    have h1 := Log_L a 1 c [KL[i]] W h (fun x hx => by rw [List.mem_singleton] at hx; rw [hx]; exact hck) (by omega)
    rw [Lr.log_one, ← ho] at h1
    exact h1
  have hs1 := opC_size
  have x1 := sl_to'' Try.underlying9 (s := one) (y := 3) (b := 3) rfl (by omega)
  have x2 := sl_from' Try.underlying9 (s := one) (x := 3) (a := 3) rfl (by omega)
  obtain ⟨M, hM⟩ : ∃ M, min S.size (T.size + one.size) = M := ⟨_, rfl⟩
  rw [hM] at RC
  have hMS : M ≤ S.size := by omega
  have x3 := sl_from' Try.underlying9 (s := S) (x := (M : Int)) (a := M) rfl hMS
  have hMi : min (S.size : Int) ((T.size : Int) + (one.size : Int)) = (M : Int) := by omega
  have hUs : (one.extract 0 3).size = 3 := by rw [ByteArray.size_extract]; omega
  have hYs : (S.extract M S.size).size ≤ 20000 := by rw [ByteArray.size_extract]; omega
  generalize one.extract 0 3 = U at *
  generalize one.extract 3 one.size = V at *
  generalize S.extract M S.size = Y at *
  have hsum1 : ¬ (9223372036854775807 < T.size + U.size) := by omega
  have hsum2 : ¬ (9223372036854775807 < (T ++ U).size + X.size) := by rw [ByteArray.size_append]; omega
  have hsum3 : ¬ (9223372036854775807 < (T ++ U ++ X).size + Y.size) := by rw [ByteArray.size_append, ByteArray.size_append]; omega
  have hk0 : ((KL.length : Int) == 0) = false := beq_eq_false_iff_ne.2 (by omega)
  have ht00 : ((t : Int) == 0) = false := beq_eq_false_iff_ne.2 (by omega)
  have hwr : IntKind.i64.wrap ((T.size : Int) + (one.size : Int)) = (T.size : Int) + (one.size : Int) := IntWalk.i64_in _ (by omega)
  have hMS2 : (M : Int) ≤ (S.size : Int) := by omega
  have hsum4 : ¬ (9223372036854775807 < T.size + U.size + X.size) := by omega
  have hsum5 : ¬ (9223372036854775807 < T.size + U.size + X.size + Y.size) := by omega
  clear hUs
  have hKL := HKL.out
  have hol1 := hol.1; have hol2 := hol.2
  have HM := Lib.hid hM; have HVs := Lib.hid hVs; have HXs := Lib.hid hXs; have HO := Lib.hid hosz
  clear hB1 w0 hP hi hS hT ho hA hX hM hVs hXs hosz hol hck
  generalize (⟨(Lr.log [opC]).toArray⟩ : ByteArray) = s1 at *
  go_enter Try.func3, Try.ntmps3
  go_wp2_with fail
  with_reducible refine CT.mono ?_
  rintro e v2 ⟨rfl, hb2⟩
  have HB2 := Lib.hid (HB1.out.trans (hb2.mono HB1.out.size))
  have K4 := KV.out _ HB2.out
  clear hb2 CT
  go_wp2_with fail
  with_reducible refine K4.mono ?_
  rintro e v4 ⟨a4, n4, c4, a5, n5, c5, b5, m5, d5, rs5, rfl, o4, l4, -, hb4⟩
  dsimp only at o4 l4
  obtain rfl : KL.length = n4 := l4
  have ha4 := hb4.alloc hb4.size (.cells #[.slice a5 n5 c5, .slice b5 m5 d5] 32)
  have HB4 := Lib.hid (HB2.out.trans (ha4.mono HB2.out.size))
  have ho4 := own_osl (o4.alloc (.cells #[.slice a5 n5 c5, .slice b5 m5 d5] 32)) rfl
  have HO4 := Lib.hid ho4
  have hcap4 := ho4.cap
  obtain ⟨A4, rfl, -⟩ := ho4.at_ (by rintro rfl; simp at h0)
  have K5 := L2.out (some A4) KL.length c4 _ HO4.out
  clear o4 hb4 ha4 K4 ho4
  go_wp2_with fail
  with_reducible refine K5.mono ?_
  rintro e v5 ⟨rfl, hb5⟩
  have HB5 := Lib.hid (HB4.out.trans (hb5.mono HB4.out.size)); have HO5 := Lib.hid (HO4.out.keep hb5)
  clear hb5 K5
  go_wp2_with fail
  with_reducible refine (WI _).mono ?_
  rintro e v6 ⟨rfl, rfl⟩
  have K6 := L3.out (some A4) c4 _ (HO5.out.take (Nat.le_of_lt hil))
  go_wp2_with fail
  with_reducible refine K6.mono ?_
  rintro e v7 ⟨rfl, hb7⟩
  have HB7 := Lib.hid (HB5.out.trans (hb7.mono HB5.out.size)); have HO7 := Lib.hid (HO5.out.keep hb7)
  have K7 := L4.out (some (A4.add (i * 5))) (c4 - i) _ (HO7.out.mid hil)
  clear hb7 K6
  go_wp2_with fail
  with_reducible refine K7.mono ?_
  rintro e v8 ⟨rfl, hb8⟩
  have HB8 := Lib.hid (HB7.out.trans (hb8.mono HB7.out.size))
  clear hb8 K7
  go_wp2_with fail
  with_reducible refine (WA _).mono ?_
  rintro e v9 ⟨rfl, rfl⟩
  go_wp2_with fail
  try clear KV
  try clear L2
  try clear L3
  try clear L4
  try clear WI
  try clear WA
  try clear K4
  try clear K5
  try clear K6
  try clear HB1
  try clear HB2
  try clear HB4
  try clear HB5
  try clear HB7
  try clear HO4
  try clear HO5
  try clear HO7
  try clear HKR
  try clear HKC
  try clear HKL
  try clear HM
  try clear HVs
  try clear HXs
  try clear HO
  try clear hs1
  try clear h0
  try clear hk0
  try clear ht00
  try clear hcap4
  try clear hil
  try clear hAl
  try clear ht
  try clear ht0
  try clear s1
  try clear t0
  have p0 : Below v8.heap.size v8 v8.drew := Below.drew (Below.refl _ _)
  refine wp_region_noPanic ?_
  refine wp_region_held_drew (S := (fun V => Below v8.heap.size v8 V)) (by kernel_rfl) p0 (fun hS => ?_)
  refine wpAnyH_take (i := 0) (oi := _) (v := ?_) (by (try simp only [List.getElem?_toArray, List.getElem?_cons_zero]); rfl) (by kernel_rfl) (by kernel_rfl) (by kernel_rfl) (fun _ _ _ h => h) (Or.inl ⟨by rfl, ?_⟩) (by assumption) ?_
  rotate_left
  next => (rintro w' kb; go_simp; (try with_reducible rfl))
  (try simp only [Act.put, List.setIfInBounds_toArray, List.set_cons_zero, List.set_cons_succ])
  refine wpAnyH_take (i := 1) (oi := _) (v := ?_) (by (try simp only [List.getElem?_toArray, List.getElem?_cons_succ, List.getElem?_cons_zero]); rfl) (by kernel_rfl) (by kernel_rfl) (by kernel_rfl) (fun _ _ _ h => h) (Or.inl ⟨by rfl, ?_⟩) (by assumption) ?_
  rotate_left
  next => (rintro w' kb; go_simp; (try with_reducible rfl))
  (try simp only [Act.put, List.setIfInBounds_toArray, List.set_cons_zero, List.set_cons_succ])
  refine wpAnyH_take (i := 2) (oi := _) (v := ?_) (by (try simp only [List.getElem?_toArray, List.getElem?_cons_succ, List.getElem?_cons_zero]); rfl) (by kernel_rfl) (by kernel_rfl) (by kernel_rfl) (fun _ _ _ h => h) (Or.inl ⟨by rfl, ?_⟩) (by assumption) ?_
  rotate_left
  next => (rintro w' kb; go_simp; (try with_reducible rfl))
  (try simp only [Act.put, List.setIfInBounds_toArray, List.set_cons_zero, List.set_cons_succ])
  refine wpAnyH_take (i := 3) (oi := _) (v := ?_) (by (try simp only [List.getElem?_toArray, List.getElem?_cons_succ, List.getElem?_cons_zero]); rfl) (by kernel_rfl) (by kernel_rfl) (by kernel_rfl) (fun _ _ _ h => h) (Or.inl ⟨by rfl, ?_⟩) (by assumption) ?_
  rotate_left
  next => (rintro w' kb; go_simp; (try with_reducible rfl))
  (try simp only [Act.put, List.setIfInBounds_toArray, List.set_cons_zero, List.set_cons_succ])
  refine wpAnyH_take (i := 4) (oi := _) (v := ?_) (by (try simp only [List.getElem?_toArray, List.getElem?_cons_succ, List.getElem?_cons_zero]); rfl) (by kernel_rfl) (by kernel_rfl) (by kernel_rfl) (fun _ _ _ h => h) (Or.inl ⟨by rfl, ?_⟩) (by assumption) ?_
  rotate_left
  next => (rintro w' kb; go_simp; (try with_reducible rfl))
  (try simp only [Act.put, List.setIfInBounds_toArray, List.set_cons_zero, List.set_cons_succ])
  refine wpAnyH_take (i := 5) (oi := _) (v := ?_) (by (try simp only [List.getElem?_toArray, List.getElem?_cons_succ, List.getElem?_cons_zero]); rfl) (by kernel_rfl) (by kernel_rfl) (by kernel_rfl) (fun _ _ _ h => h) (Or.inl ⟨by rfl, ?_⟩) (by assumption) ?_
  rotate_left
  next => (rintro w' kb; go_simp; (try with_reducible rfl))
  (try simp only [Act.put, List.setIfInBounds_toArray, List.set_cons_zero, List.set_cons_succ])
  refine wpAnyH_take (i := 6) (oi := _) (v := ?_) (by (try simp only [List.getElem?_toArray, List.getElem?_cons_succ, List.getElem?_cons_zero]); rfl) (by kernel_rfl) (by kernel_rfl) (by kernel_rfl) (fun _ _ _ h => h) (Or.inl ⟨by rfl, ?_⟩) (by assumption) ?_
  rotate_left
  next => (rintro w' kb; go_simp; (try with_reducible rfl))
  (try simp only [Act.put, List.setIfInBounds_toArray, List.set_cons_zero, List.set_cons_succ])
  refine wpAnyH_take (i := 7) (oi := _) (v := ?_) (by (try simp only [List.getElem?_toArray, List.getElem?_cons_succ, List.getElem?_cons_zero]); rfl) (by kernel_rfl) (by kernel_rfl) (by kernel_rfl) (fun _ _ _ h => h) (Or.inl ⟨by rfl, ?_⟩) (by assumption) ?_
  rotate_left
  next => (rintro w' kb; go_simp; (try with_reducible rfl))
  (try simp only [Act.put, List.setIfInBounds_toArray, List.set_cons_zero, List.set_cons_succ])
  refine wpAnyH_take (i := 10) (oi := _) (v := ?_) (by (try simp only [List.getElem?_toArray, List.getElem?_cons_succ, List.getElem?_cons_zero]); rfl) (by kernel_rfl) (by kernel_rfl) (by kernel_rfl) (fun _ _ _ h => h) (Or.inl ⟨by rfl, ?_⟩) (by assumption) ?_
  rotate_left
  next => (rintro w' kb; go_simp; (try with_reducible rfl))
  (try simp only [Act.put, List.setIfInBounds_toArray, List.set_cons_zero, List.set_cons_succ])
  refine wpAnyH_take (i := 11) (oi := _) (v := ?_) (by (try simp only [List.getElem?_toArray, List.getElem?_cons_succ, List.getElem?_cons_zero]); rfl) (by kernel_rfl) (by kernel_rfl) (by kernel_rfl) (fun _ _ _ h => h) (Or.inl ⟨by rfl, ?_⟩) (by assumption) ?_
  rotate_left
  next => (rintro w' kb; go_simp; (try with_reducible rfl))
  (try simp only [Act.put, List.setIfInBounds_toArray, List.set_cons_zero, List.set_cons_succ])
  refine wpAnyH_take (i := 12) (oi := _) (v := ?_) (by (try simp only [List.getElem?_toArray, List.getElem?_cons_succ, List.getElem?_cons_zero]); rfl) (by kernel_rfl) (by kernel_rfl) (by kernel_rfl) (fun _ _ _ h => h) (Or.inl ⟨by rfl, ?_⟩) (by assumption) ?_
  rotate_left
  next => (rintro w' kb; go_simp; (try with_reducible rfl))
  (try simp only [Act.put, List.setIfInBounds_toArray, List.set_cons_zero, List.set_cons_succ])
  refine wpAnyH_take (i := 13) (oi := _) (v := ?_) (by (try simp only [List.getElem?_toArray, List.getElem?_cons_succ, List.getElem?_cons_zero]); rfl) (by kernel_rfl) (by kernel_rfl) (by kernel_rfl) (fun _ _ _ h => h) (Or.inl ⟨by rfl, ?_⟩) (by assumption) ?_
  rotate_left
  next => (rintro w' kb; go_simp; (try with_reducible rfl))
  (try simp only [Act.put, List.setIfInBounds_toArray, List.set_cons_zero, List.set_cons_succ])
  refine wpAnyH_take (i := 14) (oi := _) (v := ?_) (by (try simp only [List.getElem?_toArray, List.getElem?_cons_succ, List.getElem?_cons_zero]); rfl) (by kernel_rfl) (by kernel_rfl) (by kernel_rfl) (fun _ _ _ h => h) (Or.inl ⟨by rfl, ?_⟩) (by assumption) ?_
  rotate_left
  next => (rintro w' kb; go_simp; (try with_reducible rfl))
  (try simp only [Act.put, List.setIfInBounds_toArray, List.set_cons_zero, List.set_cons_succ])
  refine wpAnyH_take (i := 15) (oi := _) (v := ?_) (by (try simp only [List.getElem?_toArray, List.getElem?_cons_succ, List.getElem?_cons_zero]); rfl) (by kernel_rfl) (by kernel_rfl) (by kernel_rfl) (fun _ _ _ h => h) (Or.inl ⟨by rfl, ?_⟩) (by assumption) ?_
  rotate_left
  next => (rintro w' kb; go_simp; (try with_reducible rfl))
  (try simp only [Act.put, List.setIfInBounds_toArray, List.set_cons_zero, List.set_cons_succ])
  refine wpAnyH_take (i := 16) (oi := _) (v := ?_) (by (try simp only [List.getElem?_toArray, List.getElem?_cons_succ, List.getElem?_cons_zero]); rfl) (by kernel_rfl) (by kernel_rfl) (by kernel_rfl) (fun _ _ _ h => h) (Or.inl ⟨by rfl, ?_⟩) (by assumption) ?_
  rotate_left
  next => (rintro w' kb; go_simp; (try with_reducible rfl))
  (try simp only [Act.put, List.setIfInBounds_toArray, List.set_cons_zero, List.set_cons_succ])
  refine wpAnyH_take (i := 17) (oi := _) (v := ?_) (by (try simp only [List.getElem?_toArray, List.getElem?_cons_succ, List.getElem?_cons_zero]); rfl) (by kernel_rfl) (by kernel_rfl) (by kernel_rfl) (fun _ _ _ h => h) (Or.inl ⟨by rfl, ?_⟩) (by assumption) ?_
  rotate_left
  next => (rintro w' kb; go_simp; (try with_reducible rfl))
  (try simp only [Act.put, List.setIfInBounds_toArray, List.set_cons_zero, List.set_cons_succ])
  refine wpAnyH_take (i := 18) (oi := _) (v := ?_) (by (try simp only [List.getElem?_toArray, List.getElem?_cons_succ, List.getElem?_cons_zero]); rfl) (by kernel_rfl) (by kernel_rfl) (by kernel_rfl) (fun _ _ _ h => h) (Or.inl ⟨by rfl, ?_⟩) (by assumption) ?_
  rotate_left
  next => (rintro w' kb; go_simp; (try with_reducible rfl))
  (try simp only [Act.put, List.setIfInBounds_toArray, List.set_cons_zero, List.set_cons_succ])
  refine wpAnyH_take (i := 19) (oi := _) (v := ?_) (by (try simp only [List.getElem?_toArray, List.getElem?_cons_succ, List.getElem?_cons_zero]); rfl) (by kernel_rfl) (by kernel_rfl) (by kernel_rfl) (fun _ _ _ h => h) (Or.inl ⟨by rfl, ?_⟩) (by assumption) ?_
  rotate_left
  next => (rintro w' kb; go_simp; (try with_reducible rfl))
  (try simp only [Act.put, List.setIfInBounds_toArray, List.set_cons_zero, List.set_cons_succ])
  refine wpAnyH_ready (rs := [8, 26]) (by kernel_rfl) (by simp) ?_
  refine AllReadyH.cons (o := _) (by (try simp only [List.getElem?_toArray, List.getElem?_cons_succ, List.getElem?_cons_zero]); rfl) (fun K hK => ?_) (AllReadyH.cons (o := _) (by (try simp only [List.getElem?_toArray, List.getElem?_cons_succ, List.getElem?_cons_zero]); rfl) (fun K hK => ?_) AllReadyH.nil)
  · go_simp
    go_at_call 11
    with_reducible refine (BR.out _).mono ?_
    rintro e u1 ⟨rfl, h1⟩
    have p1 := p0.trans (h1.mono p0.size)
    have hX : (fun V => Below v8.heap.size v8 V) u1 := p1
    refine hK.out _ _ hX (fun _ => ?_)
    clear hK K hS
    (try simp only [Act.put, List.setIfInBounds_toArray, List.set_cons_zero, List.set_cons_succ])
    have hS := hX
    clear hX
    refine wpAnyH_take (i := 9) (oi := _) (v := ?_) (by (try simp only [List.getElem?_toArray, List.getElem?_cons_succ, List.getElem?_cons_zero]); rfl) (by kernel_rfl) (by kernel_rfl) (by kernel_rfl) (fun _ _ _ h => h) (Or.inl ⟨by rfl, ?_⟩) (by assumption) ?_
    rotate_left
    next => (rintro w' kb; go_simp; (try with_reducible rfl))
    (try simp only [Act.put, List.setIfInBounds_toArray, List.set_cons_zero, List.set_cons_succ])
    refine wpAnyH_take (i := 20) (oi := _) (v := ?_) (by (try simp only [List.getElem?_toArray, List.getElem?_cons_succ, List.getElem?_cons_zero]); rfl) (by kernel_rfl) (by kernel_rfl) (by kernel_rfl) (fun _ _ _ h => h) (Or.inl ⟨by rfl, ?_⟩) (by assumption) ?_
    rotate_left
    next => (rintro w' kb; go_simp; (try with_reducible rfl))
    (try simp only [Act.put, List.setIfInBounds_toArray, List.set_cons_zero, List.set_cons_succ])
    refine wpAnyH_ready (rs := [21, 26]) (by kernel_rfl) (by simp) ?_
    refine AllReadyH.cons (o := _) (by (try simp only [List.getElem?_toArray, List.getElem?_cons_succ, List.getElem?_cons_zero]); rfl) (fun K hK => ?_) (AllReadyH.cons (o := _) (by (try simp only [List.getElem?_toArray, List.getElem?_cons_succ, List.getElem?_cons_zero]); rfl) (fun K hK => ?_) AllReadyH.nil)
    · go_simp
      go_at_call 10
      with_reducible refine (RC.out _).mono ?_
      rintro e u2 ⟨ra, rn, rc, rb, rm, rd, rrs, rfl, -, h2⟩
      have p2 := p1.trans (h2.mono p1.size)
      have hX : (fun V => Below v8.heap.size v8 V) u2 := p2
      refine hK.out _ _ hX (fun _ => ?_)
      clear hK K hS
      (try simp only [Act.put, List.setIfInBounds_toArray, List.set_cons_zero, List.set_cons_succ])
      have hS := hX
      clear hX
      refine wpAnyH_take (i := 22) (oi := _) (v := ?_) (by (try simp only [List.getElem?_toArray, List.getElem?_cons_succ, List.getElem?_cons_zero]); rfl) (by kernel_rfl) (by kernel_rfl) (by kernel_rfl) (fun _ _ _ h => h) (Or.inl ⟨by rfl, ?_⟩) (by assumption) ?_
      rotate_left
      next => (rintro w' kb; go_simp; (try with_reducible rfl))
      (try simp only [Act.put, List.setIfInBounds_toArray, List.set_cons_zero, List.set_cons_succ])
      refine wpAnyH_take (i := 23) (oi := _) (v := ?_) (by (try simp only [List.getElem?_toArray, List.getElem?_cons_succ, List.getElem?_cons_zero]); rfl) (by kernel_rfl) (by kernel_rfl) (by kernel_rfl) (fun _ _ _ h => h) (Or.inl ⟨by rfl, ?_⟩) (by assumption) ?_
      rotate_left
      next => (rintro w' kb; go_simp; (try with_reducible rfl))
      (try simp only [Act.put, List.setIfInBounds_toArray, List.set_cons_zero, List.set_cons_succ])
      refine wpAnyH_take (i := 24) (oi := _) (v := ?_) (by (try simp only [List.getElem?_toArray, List.getElem?_cons_succ, List.getElem?_cons_zero]); rfl) (by kernel_rfl) (by kernel_rfl) (by kernel_rfl) (fun _ _ _ h => h) (Or.inl ⟨by rfl, ?_⟩) (by assumption) ?_
      rotate_left
      next => (rintro w' kb; go_simp; (try with_reducible rfl))
      (try simp only [Act.put, List.setIfInBounds_toArray, List.set_cons_zero, List.set_cons_succ])
      refine wpAnyH_take (i := 25) (oi := _) (v := ?_) (by (try simp only [List.getElem?_toArray, List.getElem?_cons_succ, List.getElem?_cons_zero]); rfl) (by kernel_rfl) (by kernel_rfl) (by kernel_rfl) (fun _ _ _ h => h) (Or.inl ⟨by rfl, ?_⟩) (by assumption) ?_
      rotate_left
      next => (rintro w' kb; go_simp; (try with_reducible rfl))
      (try simp only [Act.put, List.setIfInBounds_toArray, List.set_cons_zero, List.set_cons_succ])
      refine wpAnyH_ready (rs := [26]) (by kernel_rfl) (by simp) ?_
      refine AllReadyH.cons (o := _) (by (try simp only [List.getElem?_toArray, List.getElem?_cons_succ, List.getElem?_cons_zero]); rfl) (fun K hK => ?_) AllReadyH.nil
      go_simp
      have p3 := p2.alloc p2.size (.cells #[.slice none 0 0, .slice none 0 0] 32)
      have F3 : Hid (FreshS (u2.alloc (.cells #[.slice none 0 0, .slice none 0 0] 32)) u2.heap.size) := Lib.hid (freshS_new u2)
      have g3 : v8.heap.size ≤ u2.heap.size := p2.size
      have hX : (fun V => Below v8.heap.size v8 V) (u2.alloc (.cells #[.slice none 0 0, .slice none 0 0] 32)) := p3
      refine hK.out _ _ hX (fun _ => ?_)
      clear hK K hS
      (try simp only [Act.put, List.setIfInBounds_toArray, List.set_cons_zero, List.set_cons_succ])
      have hS := hX
      clear hX
      refine wpAnyH_ready (rs := [27]) (by kernel_rfl) (by simp) ?_
      refine AllReadyH.cons (o := _) (by (try simp only [List.getElem?_toArray, List.getElem?_cons_succ, List.getElem?_cons_zero]); rfl) (fun K hK => ?_) AllReadyH.nil
      obtain ⟨e0, e1, f0, f1, hlt⟩ := F3.out
      go_simp
      have q4 := p2.alloc p2.size (.cells #[.slice ra rn rc, .slice rb rm rd] 32)
      have hX := q4
      refine hK.out _ _ hX (fun _ => ?_)
      clear hK K hS
      clear e0 e1 f0 f1 hlt
      (try simp only [Act.put, List.setIfInBounds_toArray, List.set_cons_zero, List.set_cons_succ])
      have hS := hX
      clear hX
      refine wpAnyH_take (i := 28) (oi := _) (v := ?_) (by (try simp only [List.getElem?_toArray, List.getElem?_cons_succ, List.getElem?_cons_zero]); rfl) (by kernel_rfl) (by kernel_rfl) (by kernel_rfl) (fun _ _ _ h => h) (Or.inl ⟨by rfl, ?_⟩) (by assumption) ?_
      rotate_left
      next => (rintro w' kb; go_simp; (try with_reducible rfl))
      (try simp only [Act.put, List.setIfInBounds_toArray, List.set_cons_zero, List.set_cons_succ])
      refine wpAnyH_take (i := 29) (oi := _) (v := ?_) (by (try simp only [List.getElem?_toArray, List.getElem?_cons_succ, List.getElem?_cons_zero]); rfl) (by kernel_rfl) (by kernel_rfl) (by kernel_rfl) (fun _ _ _ h => h) (Or.inl ⟨by rfl, ?_⟩) (by assumption) ?_
      rotate_left
      next => (rintro w' kb; go_simp; (try with_reducible rfl))
      (try simp only [Act.put, List.setIfInBounds_toArray, List.set_cons_zero, List.set_cons_succ])
      refine wpAnyH_done (by kernel_rfl) ?_ _
      refine NoPanic.normal ?_
      have HBZ := Lib.hid (HB8.out.trans (q4.mono HB8.out.size))
      clear hS
      go_wp2_with fail
      go_ret
      exact ⟨rfl, HBZ.out⟩
    · go_simp
      have p5 := p1.alloc p1.size (.cells #[.slice none 0 0, .slice none 0 0] 32)
      have F5 : Hid (FreshS (u1.alloc (.cells #[.slice none 0 0, .slice none 0 0] 32)) u1.heap.size) := Lib.hid (freshS_new u1)
      have g5 : v8.heap.size ≤ u1.heap.size := p1.size
      have hX : (fun V => Below v8.heap.size v8 V) (u1.alloc (.cells #[.slice none 0 0, .slice none 0 0] 32)) := p5
      refine hK.out _ _ hX (fun _ => ?_)
      clear hK K hS
      (try simp only [Act.put, List.setIfInBounds_toArray, List.set_cons_zero, List.set_cons_succ])
      have hS := hX
      clear hX
      refine wpAnyH_ready (rs := [21]) (by kernel_rfl) (by simp) ?_
      refine AllReadyH.cons (o := _) (by (try simp only [List.getElem?_toArray, List.getElem?_cons_succ, List.getElem?_cons_zero]); rfl) (fun K hK => ?_) AllReadyH.nil
      go_simp
      go_at_call 10
      with_reducible refine (RC.out _).mono ?_
      rintro e u6 ⟨ra, rn, rc, rb, rm, rd, rrs, rfl, -, h6⟩
      have p6 := p5.trans (h6.mono p5.size)
      have F6 := Lib.hid (F5.out.keep h6)
      have hX : (fun V => Below v8.heap.size v8 V) u6 := p6
      refine hK.out _ _ hX (fun _ => ?_)
      clear hK K hS
      (try simp only [Act.put, List.setIfInBounds_toArray, List.set_cons_zero, List.set_cons_succ])
      have hS := hX
      clear hX
      refine wpAnyH_take (i := 22) (oi := _) (v := ?_) (by (try simp only [List.getElem?_toArray, List.getElem?_cons_succ, List.getElem?_cons_zero]); rfl) (by kernel_rfl) (by kernel_rfl) (by kernel_rfl) (fun _ _ _ h => h) (Or.inl ⟨by rfl, ?_⟩) (by assumption) ?_
      rotate_left
      next => (rintro w' kb; go_simp; (try with_reducible rfl))
      (try simp only [Act.put, List.setIfInBounds_toArray, List.set_cons_zero, List.set_cons_succ])
      refine wpAnyH_take (i := 23) (oi := _) (v := ?_) (by (try simp only [List.getElem?_toArray, List.getElem?_cons_succ, List.getElem?_cons_zero]); rfl) (by kernel_rfl) (by kernel_rfl) (by kernel_rfl) (fun _ _ _ h => h) (Or.inl ⟨by rfl, ?_⟩) (by assumption) ?_
      rotate_left
      next => (rintro w' kb; go_simp; (try with_reducible rfl))
      (try simp only [Act.put, List.setIfInBounds_toArray, List.set_cons_zero, List.set_cons_succ])
      refine wpAnyH_take (i := 24) (oi := _) (v := ?_) (by (try simp only [List.getElem?_toArray, List.getElem?_cons_succ, List.getElem?_cons_zero]); rfl) (by kernel_rfl) (by kernel_rfl) (by kernel_rfl) (fun _ _ _ h => h) (Or.inl ⟨by rfl, ?_⟩) (by assumption) ?_
      rotate_left
      next => (rintro w' kb; go_simp; (try with_reducible rfl))
      (try simp only [Act.put, List.setIfInBounds_toArray, List.set_cons_zero, List.set_cons_succ])
      refine wpAnyH_take (i := 25) (oi := _) (v := ?_) (by (try simp only [List.getElem?_toArray, List.getElem?_cons_succ, List.getElem?_cons_zero]); rfl) (by kernel_rfl) (by kernel_rfl) (by kernel_rfl) (fun _ _ _ h => h) (Or.inl ⟨by rfl, ?_⟩) (by assumption) ?_
      rotate_left
      next => (rintro w' kb; go_simp; (try with_reducible rfl))
      (try simp only [Act.put, List.setIfInBounds_toArray, List.set_cons_zero, List.set_cons_succ])
      refine wpAnyH_ready (rs := [27]) (by kernel_rfl) (by simp) ?_
      refine AllReadyH.cons (o := _) (by (try simp only [List.getElem?_toArray, List.getElem?_cons_succ, List.getElem?_cons_zero]); rfl) (fun K hK => ?_) AllReadyH.nil
      obtain ⟨e0, e1, f0, f1, hlt⟩ := F6.out
      go_simp
      have q7 := below_set2 p6 g5 (.slice ra rn rc) (.slice rb rm rd)
      have hX := q7
      refine hK.out _ _ hX (fun _ => ?_)
      clear hK K hS
      clear e0 e1 f0 f1 hlt
      (try simp only [Act.put, List.setIfInBounds_toArray, List.set_cons_zero, List.set_cons_succ])
      have hS := hX
      clear hX
      refine wpAnyH_take (i := 28) (oi := _) (v := ?_) (by (try simp only [List.getElem?_toArray, List.getElem?_cons_succ, List.getElem?_cons_zero]); rfl) (by kernel_rfl) (by kernel_rfl) (by kernel_rfl) (fun _ _ _ h => h) (Or.inl ⟨by rfl, ?_⟩) (by assumption) ?_
      rotate_left
      next => (rintro w' kb; go_simp; (try with_reducible rfl))
      (try simp only [Act.put, List.setIfInBounds_toArray, List.set_cons_zero, List.set_cons_succ])
      refine wpAnyH_take (i := 29) (oi := _) (v := ?_) (by (try simp only [List.getElem?_toArray, List.getElem?_cons_succ, List.getElem?_cons_zero]); rfl) (by kernel_rfl) (by kernel_rfl) (by kernel_rfl) (fun _ _ _ h => h) (Or.inl ⟨by rfl, ?_⟩) (by assumption) ?_
      rotate_left
      next => (rintro w' kb; go_simp; (try with_reducible rfl))
      (try simp only [Act.put, List.setIfInBounds_toArray, List.set_cons_zero, List.set_cons_succ])
      refine wpAnyH_done (by kernel_rfl) ?_ _
      refine NoPanic.normal ?_
      have HBZ := Lib.hid (HB8.out.trans (q7.mono HB8.out.size))
      clear hS
      go_wp2_with fail
      go_ret
      exact ⟨rfl, HBZ.out⟩
  · go_simp
    have p8 := p0.alloc p0.size (.cells #[.slice none 0 0, .slice none 0 0] 32)
    have F8 : Hid (FreshS (v8.drew.alloc (.cells #[.slice none 0 0, .slice none 0 0] 32)) v8.heap.size) := Lib.hid (freshS_new v8.drew)
    have g8 : v8.heap.size ≤ v8.heap.size := p0.size
    have hX : (fun V => Below v8.heap.size v8 V) (v8.drew.alloc (.cells #[.slice none 0 0, .slice none 0 0] 32)) := p8
    refine hK.out _ _ hX (fun _ => ?_)
    clear hK K hS
    (try simp only [Act.put, List.setIfInBounds_toArray, List.set_cons_zero, List.set_cons_succ])
    have hS := hX
    clear hX
    refine wpAnyH_ready (rs := [8]) (by kernel_rfl) (by simp) ?_
    refine AllReadyH.cons (o := _) (by (try simp only [List.getElem?_toArray, List.getElem?_cons_succ, List.getElem?_cons_zero]); rfl) (fun K hK => ?_) AllReadyH.nil
    go_simp
    go_at_call 11
    with_reducible refine (BR.out _).mono ?_
    rintro e u9 ⟨rfl, h9⟩
    have p9 := p8.trans (h9.mono p8.size)
    have F9 := Lib.hid (F8.out.keep h9)
    have hX : (fun V => Below v8.heap.size v8 V) u9 := p9
    refine hK.out _ _ hX (fun _ => ?_)
    clear hK K hS
    (try simp only [Act.put, List.setIfInBounds_toArray, List.set_cons_zero, List.set_cons_succ])
    have hS := hX
    clear hX
    refine wpAnyH_take (i := 9) (oi := _) (v := ?_) (by (try simp only [List.getElem?_toArray, List.getElem?_cons_succ, List.getElem?_cons_zero]); rfl) (by kernel_rfl) (by kernel_rfl) (by kernel_rfl) (fun _ _ _ h => h) (Or.inl ⟨by rfl, ?_⟩) (by assumption) ?_
    rotate_left
    next => (rintro w' kb; go_simp; (try with_reducible rfl))
    (try simp only [Act.put, List.setIfInBounds_toArray, List.set_cons_zero, List.set_cons_succ])
    refine wpAnyH_take (i := 20) (oi := _) (v := ?_) (by (try simp only [List.getElem?_toArray, List.getElem?_cons_succ, List.getElem?_cons_zero]); rfl) (by kernel_rfl) (by kernel_rfl) (by kernel_rfl) (fun _ _ _ h => h) (Or.inl ⟨by rfl, ?_⟩) (by assumption) ?_
    rotate_left
    next => (rintro w' kb; go_simp; (try with_reducible rfl))
    (try simp only [Act.put, List.setIfInBounds_toArray, List.set_cons_zero, List.set_cons_succ])
    refine wpAnyH_ready (rs := [21]) (by kernel_rfl) (by simp) ?_
    refine AllReadyH.cons (o := _) (by (try simp only [List.getElem?_toArray, List.getElem?_cons_succ, List.getElem?_cons_zero]); rfl) (fun K hK => ?_) AllReadyH.nil
    go_simp
    go_at_call 10
    with_reducible refine (RC.out _).mono ?_
    rintro e u10 ⟨ra, rn, rc, rb, rm, rd, rrs, rfl, -, h10⟩
    have p10 := p9.trans (h10.mono p9.size)
    have F10 := Lib.hid (F9.out.keep h10)
    have hX : (fun V => Below v8.heap.size v8 V) u10 := p10
    refine hK.out _ _ hX (fun _ => ?_)
    clear hK K hS
    (try simp only [Act.put, List.setIfInBounds_toArray, List.set_cons_zero, List.set_cons_succ])
    have hS := hX
    clear hX
    refine wpAnyH_take (i := 22) (oi := _) (v := ?_) (by (try simp only [List.getElem?_toArray, List.getElem?_cons_succ, List.getElem?_cons_zero]); rfl) (by kernel_rfl) (by kernel_rfl) (by kernel_rfl) (fun _ _ _ h => h) (Or.inl ⟨by rfl, ?_⟩) (by assumption) ?_
    rotate_left
    next => (rintro w' kb; go_simp; (try with_reducible rfl))
    (try simp only [Act.put, List.setIfInBounds_toArray, List.set_cons_zero, List.set_cons_succ])
    refine wpAnyH_take (i := 23) (oi := _) (v := ?_) (by (try simp only [List.getElem?_toArray, List.getElem?_cons_succ, List.getElem?_cons_zero]); rfl) (by kernel_rfl) (by kernel_rfl) (by kernel_rfl) (fun _ _ _ h => h) (Or.inl ⟨by rfl, ?_⟩) (by assumption) ?_
    rotate_left
    next => (rintro w' kb; go_simp; (try with_reducible rfl))
    (try simp only [Act.put, List.setIfInBounds_toArray, List.set_cons_zero, List.set_cons_succ])
    refine wpAnyH_take (i := 24) (oi := _) (v := ?_) (by (try simp only [List.getElem?_toArray, List.getElem?_cons_succ, List.getElem?_cons_zero]); rfl) (by kernel_rfl) (by kernel_rfl) (by kernel_rfl) (fun _ _ _ h => h) (Or.inl ⟨by rfl, ?_⟩) (by assumption) ?_
    rotate_left
    next => (rintro w' kb; go_simp; (try with_reducible rfl))
    (try simp only [Act.put, List.setIfInBounds_toArray, List.set_cons_zero, List.set_cons_succ])
    refine wpAnyH_take (i := 25) (oi := _) (v := ?_) (by (try simp only [List.getElem?_toArray, List.getElem?_cons_succ, List.getElem?_cons_zero]); rfl) (by kernel_rfl) (by kernel_rfl) (by kernel_rfl) (fun _ _ _ h => h) (Or.inl ⟨by rfl, ?_⟩) (by assumption) ?_
    rotate_left
    next => (rintro w' kb; go_simp; (try with_reducible rfl))
    (try simp only [Act.put, List.setIfInBounds_toArray, List.set_cons_zero, List.set_cons_succ])
    refine wpAnyH_ready (rs := [27]) (by kernel_rfl) (by simp) ?_
    refine AllReadyH.cons (o := _) (by (try simp only [List.getElem?_toArray, List.getElem?_cons_succ, List.getElem?_cons_zero]); rfl) (fun K hK => ?_) AllReadyH.nil
    obtain ⟨e0, e1, f0, f1, hlt⟩ := F10.out
    go_simp
    have q11 := below_set2 p10 g8 (.slice ra rn rc) (.slice rb rm rd)
    have hX := q11
    refine hK.out _ _ hX (fun _ => ?_)
    clear hK K hS
    clear e0 e1 f0 f1 hlt
    (try simp only [Act.put, List.setIfInBounds_toArray, List.set_cons_zero, List.set_cons_succ])
    have hS := hX
    clear hX
    refine wpAnyH_take (i := 28) (oi := _) (v := ?_) (by (try simp only [List.getElem?_toArray, List.getElem?_cons_succ, List.getElem?_cons_zero]); rfl) (by kernel_rfl) (by kernel_rfl) (by kernel_rfl) (fun _ _ _ h => h) (Or.inl ⟨by rfl, ?_⟩) (by assumption) ?_
    rotate_left
    next => (rintro w' kb; go_simp; (try with_reducible rfl))
    (try simp only [Act.put, List.setIfInBounds_toArray, List.set_cons_zero, List.set_cons_succ])
    refine wpAnyH_take (i := 29) (oi := _) (v := ?_) (by (try simp only [List.getElem?_toArray, List.getElem?_cons_succ, List.getElem?_cons_zero]); rfl) (by kernel_rfl) (by kernel_rfl) (by kernel_rfl) (fun _ _ _ h => h) (Or.inl ⟨by rfl, ?_⟩) (by assumption) ?_
    rotate_left
    next => (rintro w' kb; go_simp; (try with_reducible rfl))
    (try simp only [Act.put, List.setIfInBounds_toArray, List.set_cons_zero, List.set_cons_succ])
    refine wpAnyH_done (by kernel_rfl) ?_ _
    refine NoPanic.normal ?_
    have HBZ := Lib.hid (HB8.out.trans (q11.mono HB8.out.size))
    clear hS
    go_wp2_with fail
    go_ret
    exact ⟨rfl, HBZ.out⟩

theorem logBursts_walk (a0 : Option Addr) (len0 cap0 : Nat) (t0 : List Lg.Op) (a1 a2 a3 : Int) (w : World) (w0 : OArg w a0 len0 cap0 t0) (_w1 : (Lit.int .i64 a1).wf = true) (_w2 : (Lit.int .i64 a2).wf = true) (w3 : (Lit.int .u16 a3).wf = true) :
    Calls Try.prog 3 #[.slice a0 len0 cap0, .int .i64 a1, .int .i64 a2, .int .u16 a3] w fun e w' => e = .returned (.bool true) ∧ Below w.heap.size w w' := by
  have hb : 0 ≤ a3 ∧ a3 < 65536 := by simp [Lit.wf, IntKind.min, IntKind.max, IntKind.signed, IntKind.bits] at w3; omega
  obtain ⟨t, rfl⟩ := Int.eq_ofNat_of_zero_le hb.1
  by_cases h : (Lr.kept t0).2 = [] ∨ t = 0
  · exact logBursts_none a0 len0 cap0 t0 a1 a2 t w w0 h
  · exact logBursts_core a0 len0 cap0 t0 a1 a2 t w w0 (by omega) (List.length_pos_iff.2 fun h1 => h (Or.inl h1)) fun h1 => h (Or.inr h1)

end Go.Proofs.Ythccdoejnklidaa
