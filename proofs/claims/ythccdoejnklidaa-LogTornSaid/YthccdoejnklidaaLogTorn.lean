/- LogTorn: of a log that is cut off the whole frames are done, and nothing else; for every input. -/
import Derived.Test.YthccdoejnklidaaLrW
import Derived.Test.YthccdoejnklidaaSameW
namespace Go.Proofs.Ythccdoejnklidaa.Lr
open Go.Proofs.Ythccdoejnklidaa

theorem get_part {o : Lg.Op} (h : Lg.chkE o = 0) {j : Nat} (hj : j < (frm o).length) : Fr.get ((frm o).take j) = (7, 0, [], 0) := by
  have hl := body_length h
  rw [frm_length h] at hj
  exact Fr.get_short (by decide) (by decide) (by omega) j hj

/-- A log that is cut off. -/
theorem log_cut : ∀ {l : List Lg.Op}, (∀ o ∈ l, Lg.chkE o = 0) → ∀ p : Nat, ∃ n, n ≤ l.length ∧ ∃ rest, (log l).take p = log (l.take n) ++ rest ∧ (rest = [] ∨ rest ≠ [] ∧ Fr.get rest = (7, 0, [], 0)) ∧ (log (l.take n)).length ≤ p
  | [], _, p => ⟨0, Nat.le_refl _, [], by rw [log_nil, List.take_nil]; rfl, Or.inl rfl, Nat.zero_le _⟩
  | o :: l, h, p => by
    have ho := h o List.mem_cons_self
    by_cases hp : p < (frm o).length
    · refine ⟨0, Nat.zero_le _, (frm o).take p, ?_, ?_, Nat.zero_le _⟩
      · rw [log_cons, List.take_append_of_le_length (Nat.le_of_lt hp)]
        rfl
      · by_cases h0 : (frm o).take p = []
        · exact Or.inl h0
        · exact Or.inr ⟨h0, get_part ho hp⟩
    · obtain ⟨n, hn, rest, h1, h2, h3⟩ := log_cut (fun x hx => h x (List.mem_cons_of_mem o hx)) (p - (frm o).length)
      refine ⟨n + 1, by rw [List.length_cons]; omega, rest, ?_, h2, ?_⟩
      · rw [log_cons, List.take_append, List.take_of_length_le (by omega), h1, List.take_succ_cons, log_cons, List.append_assoc]
      · rw [List.take_succ_cons, log_cons, List.length_append]
        omega

theorem run_head : ∀ {l m : List Lg.Op} {s : Vo.St}, (run s (l ++ m)).e = 0 → (run s l).e = 0
  | [], _, _, _ => rfl
  | o :: l, m, s, h => by
    obtain ⟨h1, h2⟩ := run_cons (l := l ++ m) h
    have h3 : (run s (o :: (l ++ m))).e = 0 := h
    rw [h2] at h3
    show (if (Vo.doR s o).e ≠ 0 then _ else run (Vo.doR s o).s l : Vo.An).e = 0
    rw [if_neg (fun h => h h1)]
    exact run_head h3

end Go.Proofs.Ythccdoejnklidaa.Lr

namespace Go.Proofs.Ythccdoejnklidaa
open Go.RowKit

abbrev opB : Lg.Op := ⟨1, ⟨#[97]⟩, ⟨#[]⟩, 1, ⟨#[]⟩⟩
theorem opB_chk : ∀ t ∈ [opB], Lg.chkE t = 0 := fun t ht => by
  rw [List.mem_singleton] at ht
  subst ht
  kernel_rfl
theorem opB_size : (⟨(Lr.log [opB]).toArray⟩ : ByteArray).size = 13 := by kernel_rfl

theorem one_opB (w : World) : OSl (w.alloc (.cells #[.int .i64 1, .string ⟨#[97]⟩, .string ⟨#[]⟩, .int .i64 1, .string ⟨#[]⟩] 28)) (some ⟨w.heap.size, 0, none⟩) 1 1 [opB] := by
  refine ⟨fun _ => ⟨_, rfl, fun j t hj => ?_⟩, rfl, Nat.le_refl _, by decide, fun h => (by cases h)⟩
  obtain rfl : j = 0 := by
    rcases Nat.lt_or_ge j 1 with h | h
    · omega
    · rw [List.getElem?_eq_none_iff.2 (by simpa using h)] at hj; cases hj
  cases hj
  exact ⟨cell_new w (k := 0) rfl, cell_new w (k := 1) rfl, cell_new w (k := 2) rfl, cell_new w (k := 3) rfl, cell_new w (k := 4) rfl⟩

theorem log_size {l : List Lg.Op} (h : ∀ o ∈ l, Lg.chkE o = 0) (hl : l.length ≤ 200) : (⟨(Lr.log l).toArray⟩ : ByteArray).size ≤ 20000 := by
  have h1 := Lr.log_length h
  show (Lr.log l).toArray.size ≤ _
  rw [List.size_toArray]
  omega

theorem cut_bytes (s : ByteArray) (p : Nat) : (s.extract 0 p).data.toList = s.data.toList.take p := by
  rw [← ByteArray.toList_eq, ext_list, List.drop_zero, Nat.sub_zero]

/-- A log that is cut off, replayed. -/
theorem Replay_cut {l : List Lg.Op} (hr : (Lr.run Vo.st0 l).e = 0) (hl : l.length ≤ 60) (p : Nat) :
    ∃ n, n ≤ l.length ∧ (Lr.log (l.take n)).length ≤ p ∧ (Lr.run Vo.st0 (l.take n)).e = 0 ∧ ∀ w, Calls Try.prog 10 #[.string ((⟨(Lr.log l).toArray⟩ : ByteArray).extract 0 p)] w (RepTo w (Lr.run Vo.st0 (l.take n)).s n 0) := by
  have hc := Lr.run_chk hr
  obtain ⟨n, hn, rest, h1, h2, h3⟩ := Lr.log_cut hc p
  have hrn : (Lr.run Vo.st0 (l.take n)).e = 0 := by
    have h : (Lr.run Vo.st0 (l.take n ++ l.drop n)).e = 0 := by rw [List.take_append_drop]; exact hr
    exact Lr.run_head h
  refine ⟨n, hn, h3, hrn, fun w => ?_⟩
  have hlen : (l.take n).length = n := by rw [List.length_take]; omega
  have h := Replay_L ((⟨(Lr.log l).toArray⟩ : ByteArray).extract 0 p) (l.take n) rest 0 w (by rw [cut_bytes]; exact h1) (by
    have := log_size hc (by omega)
    rw [ByteArray.size_extract]
    omega) (by omega) hrn (by
    rcases h2 with h2 | ⟨h2, h4⟩
    · exact Or.inl ⟨h2, rfl⟩
    · exact Or.inr (Or.inl ⟨h2, h4, rfl⟩))
  rw [if_pos rfl, if_pos rfl, hlen] at h
  exact h

set_option maxRecDepth 100000 in
set_option maxHeartbeats 8000000 in
theorem logTorn_walk (a0 : Option Addr) (len0 cap0 : Nat) (t0 : List Lg.Op) (a1 : Int) (w : World) (w0 : OArg w a0 len0 cap0 t0) (_w1 : (Lit.int .i64 a1).wf = true) :
    Calls Try.prog 5 #[.slice a0 len0 cap0, .int .i64 a1] w fun e w' => e = .returned (.bool true) ∧ Below w.heap.size w w' := by
  have KV : Hid (∀ W, Below w.heap.size w W → Calls Try.prog 8 #[.slice a0 len0 cap0] W (KeptTo W (Lr.kept t0))) := Lib.hid fun W hb => kept_V a0 len0 cap0 t0 W ⟨w0.1.keep hb, w0.2⟩
  have hB1 := (Below.refl w.heap.size w).alloc (Nat.le_refl _) (.cells #[.int .i64 1, .string ⟨#[97]⟩, .string ⟨#[]⟩, .int .i64 1, .string ⟨#[]⟩] 28)
  have HB1 := Lib.hid hB1
  have CT := Log_L (some ⟨w.heap.size, 0, none⟩) 1 1 [opB] _ (one_opB w) opB_chk (by decide)
  have RP : Hid (∀ W, Calls Try.prog 10 #[.string ((⟨(Lr.log [opB]).toArray⟩ : ByteArray).extract 0 12)] W (RepTo W Vo.st0 0 0)) := Lib.hid (by
    obtain ⟨n1, h1, h2, -, h3⟩ := Replay_cut (l := [opB]) (by kernel_rfl) (by decide) 12
    have hz : (Lr.log [opB]).length = 13 := by kernel_rfl
    rcases (by simp at h1; omega : n1 = 0 ∨ n1 = 1) with rfl | rfl
    · exact h3
    · exfalso
      rw [List.take_of_length_le (by simp), hz] at h2
      omega)
  have HKR := Lib.hid (Lr.kept_run t0); have HKC := Lib.hid (Lr.kept_chk t0); have HKL := Lib.hid (Lr.kept_len t0)
  obtain ⟨P, hP⟩ : ∃ P, Lr.kept t0 = P := ⟨_, rfl⟩
  rw [hP] at KV HKR HKC HKL
  obtain ⟨KS, KL⟩ := P
  dsimp only at HKR HKC HKL
  have hs2 := log_size HKC.out (by have := HKL.out; omega)
  obtain ⟨p, hp⟩ : ∃ p, wi a1 ((⟨(Lr.log KL).toArray⟩ : ByteArray).size + 1) = p := ⟨_, rfl⟩
  have hpl : p ≤ (⟨(Lr.log KL).toArray⟩ : ByteArray).size := by
    have := wi_lt a1 ((⟨(Lr.log KL).toArray⟩ : ByteArray).size + 1) (Nat.succ_pos _)
    omega
  have WI : ∀ W, Calls Try.prog 9 #[.int .i64 a1, .int .i64 (((⟨(Lr.log KL).toArray⟩ : ByteArray).size : Int) + 1)] W fun e w' => e = .returned (.int .i64 p) ∧ W = w' := fun W => by
    rw [← hp]
    exact within_any a1 _ ((⟨(Lr.log KL).toArray⟩ : ByteArray).size + 1) W (by omega) (by omega) (by omega)
  obtain ⟨n, hn, hlen, hrn, hRC⟩ := Replay_cut (l := KL) (by rw [HKR.out]) (by have := HKL.out; omega) p
  have RC := Lib.hid hRC
  have L2 : Hid (∀ (a : Option Addr) (n c : Nat) (W : World), OSl W a n c KL → Calls Try.prog 7 #[.slice a n c] W fun e w' => e = .returned (.tuple #[.string ⟨(Lr.log KL).toArray⟩, .int .i64 0]) ∧ Below W.heap.size W w') := Lib.hid fun a n c W h => Log_L a n c KL W h HKC.out (by have := HKL.out; have := h.len; omega)
  have hkt : ∀ t ∈ KL.take n, Lg.chkE t = 0 := fun t ht => HKC.out t (List.mem_of_mem_take ht)
  have L3 : Hid (∀ (a : Option Addr) (c : Nat) (W : World), OSl W a n c (KL.take n) → Calls Try.prog 7 #[.slice a n c] W fun e w' => e = .returned (.tuple #[.string ⟨(Lr.log (KL.take n)).toArray⟩, .int .i64 0]) ∧ Below W.heap.size W w') := Lib.hid fun a c W h => Log_L a n c (KL.take n) W h hkt (by have := HKL.out; omega)
  have HRR := Lib.hid (Lr.run_right (l := KL.take n) Vo.right0)
  have M3 : Hid (∀ (a : Option Addr) (c : Nat) (W : World), OSl W a n c (KL.take n) → Calls Try.prog 14 #[.slice a n c] W (StMade W (Lr.run Vo.st0 (KL.take n)).s)) := Lib.hid fun a c W h => by
    have hm := made_V a n c (KL.take n) W ⟨h, fun t ht => by
      obtain ⟨k, aa, -, -, -, -, -, h1, h2, h3⟩ := Lr.chk_parts (hkt t ht)
      unfold maxLen
      exact ⟨by omega, by omega, by omega⟩⟩
    rw [Lr.made_run hrn (by rw [List.length_take]; have := HKL.out; omega)] at hm
    exact hm
  have hs3 : (⟨(Lr.log (KL.take n)).toArray⟩ : ByteArray).size ≤ p := by
    show (Lr.log (KL.take n)).toArray.size ≤ p
    rw [List.size_toArray]
    exact hlen
  have hs1 := opB_size
  have hKL := HKL.out
  clear hrn hlen hkt hRC hB1 w0 hP hp
  generalize (⟨(Lr.log (KL.take n)).toArray⟩ : ByteArray) = s3 at *
  generalize (⟨(Lr.log KL).toArray⟩ : ByteArray) = s2 at *
  generalize (⟨(Lr.log [opB]).toArray⟩ : ByteArray) = s1 at *
  generalize (Lr.run Vo.st0 (KL.take n)).s = F at *
  have hs2i : (s2.size : Int) ≤ 20000 := by omega
  have hpi : (p : Int) ≤ (s2.size : Int) := by omega
  have hs3i : (s3.size : Int) ≤ (p : Int) := by omega
  have hni : (n : Int) ≤ (KL.length : Int) := by omega
  go_enter Try.func5, Try.ntmps5
  go_wp2_with fail
  with_reducible refine CT.mono ?_
  rintro e v2 ⟨rfl, hb2⟩
  have HB2 := Lib.hid (HB1.out.trans (hb2.mono HB1.out.size))
  have R1 := RP.out v2
  clear hb2 CT
  go_wp2_with fail
  rw [show (max (0 : Int) 12).toNat = 12 from rfl]
  with_reducible refine R1.mono ?_
  rintro e v3 ⟨a3, n3, c3, b3, m3, d3, rs3, rfl, -, hb3⟩
  have ha3 := hb3.alloc hb3.size (.cells #[.slice a3 n3 c3, .slice b3 m3 d3] 32)
  have HB3 := Lib.hid (HB2.out.trans (ha3.mono HB2.out.size))
  have K4 := KV.out _ HB3.out
  clear hb3 ha3 R1 RP
  go_wp2_with fail
  with_reducible refine K4.mono ?_
  rintro e v4 ⟨a4, n4, c4, a5, n5, c5, b5, m5, d5, rs5, rfl, o4, l4, -, hb4⟩
  dsimp only at o4 l4
  obtain rfl : KL.length = n4 := l4
  have ha4 := hb4.alloc hb4.size (.cells #[.slice a5 n5 c5, .slice b5 m5 d5] 32)
  have HB4 := Lib.hid (HB3.out.trans (ha4.mono HB3.out.size))
  have ho4 := own_osl (o4.alloc (.cells #[.slice a5 n5 c5, .slice b5 m5 d5] 32)) rfl
  have HO4 := Lib.hid ho4
  have hcap4 := ho4.cap
  clear o4 hb4 ha4 K4 ho4
  have K5 := L2.out a4 KL.length c4 _ HO4.out
  go_wp2_with fail
  with_reducible refine K5.mono ?_
  rintro e v5 ⟨rfl, hb5⟩
  have HB5 := Lib.hid (HB4.out.trans (hb5.mono HB4.out.size)); have HO5 := Lib.hid (HO4.out.keep hb5)
  clear hb5 K5
  go_wp2_with fail
  with_reducible refine (WI _).mono ?_
  rintro e v6 ⟨rfl, rfl⟩
  have R6 := RC.out v5
  go_wp2_with fail
  with_reducible refine R6.mono ?_
  rintro e v7 ⟨a7, n7, c7, b7, m7, d7, rs7, rfl, hs7, hb7⟩
  have ha7 := hb7.alloc hb7.size (.cells #[.slice a7 n7 c7, .slice b7 m7 d7] 32)
  have HB7 := Lib.hid (HB5.out.trans (ha7.mono HB5.out.size)); have HO7 := Lib.hid ((HO5.out.keep ha7).take hn)
  have HX7 := Lib.hid (bxs_new v7 32 #[.slice a7 n7 c7, .slice b7 m7 d7] [.slice a7 n7 c7, .slice b7 m7 d7] rfl)
  have HS7 := Lib.hid (hs7.keep ((Below.refl _ v7).alloc (Nat.le_refl _) (.cells #[.slice a7 n7 c7, .slice b7 m7 d7] 32)))
  clear hs7 hb7 ha7 R6
  have K8 := L3.out a4 c4 _ HO7.out
  go_wp2_with fail
  with_reducible refine K8.mono ?_
  rintro e v8 ⟨rfl, hb8⟩
  have HB8 := Lib.hid (HB7.out.trans (hb8.mono HB7.out.size)); have HO8 := Lib.hid (HO7.out.keep hb8); have HX8 := Lib.hid (HX7.out.on hb8); have HS8 := Lib.hid (HS7.out.keep hb8)
  clear hb8 K8
  have K9 := M3.out a4 c4 _ HO8.out
  go_wp2_with fail
  with_reducible refine K9.mono ?_
  rintro e v9 ⟨a9, n9, c9, b9, m9, d9, rs9, rfl, hs9, hb9⟩
  have ha9 := hb9.alloc hb9.size (.cells #[.slice a9 n9 c9, .slice b9 m9 d9] 32)
  have HB9 := Lib.hid (HB8.out.trans (ha9.mono HB8.out.size)); have HX9 := Lib.hid (HX8.out.on ha9); have HS9 := Lib.hid (HS8.out.keep ha9)
  have HY9 := Lib.hid (bxs_new v9 32 #[.slice a9 n9 c9, .slice b9 m9 d9] [.slice a9 n9 c9, .slice b9 m9 d9] rfl)
  have HT9 := Lib.hid (hs9.keep ((Below.refl _ v9).alloc (Nat.le_refl _) (.cells #[.slice a9 n9 c9, .slice b9 m9 d9] 32)))
  clear hs9 hb9 ha9 K9
  have x0 := HX9.out.c 0 _ rfl; have x1 := HX9.out.c 1 _ rfl; have y0 := HY9.out.c 0 _ rfl; have y1 := HY9.out.c 1 _ rfl
  have KS9 := Same_V a7 a9 b7 b9 n7 c7 m7 d7 n9 c9 m9 d9 _ _ rs7 rs9 F _ HS9.out HT9.out HRR.out
  go_wp2_with fail
  with_reducible refine (WI _).mono ?_
  rintro e v6 ⟨rfl, rfl⟩
  go_wp2_with fail
  with_reducible refine KS9.mono ?_
  rintro e v10 ⟨rfl, hb10⟩
  have HB10 := Lib.hid (HB9.out.trans (hb10.mono HB9.out.size))
  clear hb10 KS9
  go_wp2_with fail
  go_ret
  exact ⟨rfl, HB10.out⟩

end Go.Proofs.Ythccdoejnklidaa
