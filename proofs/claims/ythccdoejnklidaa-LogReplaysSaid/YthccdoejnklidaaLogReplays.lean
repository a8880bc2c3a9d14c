/- LogReplays: what was written of deeds that were done makes the same state again; for every input. -/
import Derived.Test.YthccdoejnklidaaLrW
import Derived.Test.YthccdoejnklidaaSameW
namespace Go.Proofs.Ythccdoejnklidaa
open Go.RowKit

abbrev opB : Lg.Op := ⟨1, ⟨#[97]⟩, ⟨#[]⟩, 1, ⟨#[]⟩⟩
theorem opB_chk : ∀ t ∈ [opB], Lg.chkE t = 0 := fun t ht => by
  rw [List.mem_singleton] at ht
  subst ht
  kernel_rfl
theorem opB_run : Lr.run Vo.st0 [opB] = ⟨⟨[], [⟨⟨#[97]⟩, [Bg.noId]⟩]⟩, 0⟩ := by kernel_rfl

theorem one_opB (w : World) : OSl (w.alloc (.cells #[.int .i64 1, .string ⟨#[97]⟩, .string ⟨#[]⟩, .int .i64 1, .string ⟨#[]⟩] 28)) (some ⟨w.heap.size, 0, none⟩) 1 1 [opB] := by
  refine ⟨fun _ => ⟨_, rfl, fun j t hj => ?_⟩, rfl, Nat.le_refl _, by decide, fun h => (by cases h)⟩
  obtain rfl : j = 0 := by
    rcases Nat.lt_or_ge j 1 with h | h
    · omega
    · rw [List.getElem?_eq_none_iff.2 (by simpa using h)] at hj; cases hj
  cases hj
  exact ⟨cell_new w (k := 0) rfl, cell_new w (k := 1) rfl, cell_new w (k := 2) rfl, cell_new w (k := 3) rfl, cell_new w (k := 4) rfl⟩

theorem log_size {l : List Lg.Op} (h : ∀ o ∈ l, Lg.chkE o = 0) (hl : l.length ≤ 200) : (⟨(Lr.log l).toArray⟩ : ByteArray).size ≤ 9223372036854775807 := by
  have h1 := Lr.log_length h
  show (Lr.log l).toArray.size ≤ _
  rw [List.size_toArray]
  omega

set_option maxRecDepth 100000 in
set_option maxHeartbeats 8000000 in
theorem logReplays_walk (a0 : Option Addr) (len0 cap0 : Nat) (t0 : List Lg.Op) (w : World) (w0 : OArg w a0 len0 cap0 t0) :
    Calls Try.prog 4 #[.slice a0 len0 cap0] w fun e w' => e = .returned (.bool true) ∧ Below w.heap.size w w' := by
  have KV : Hid (∀ W, Below w.heap.size w W → Calls Try.prog 8 #[.slice a0 len0 cap0] W (KeptTo W (Lr.kept t0))) := Lib.hid fun W hb => kept_V a0 len0 cap0 t0 W ⟨w0.1.keep hb, w0.2⟩
  have hB1 := (Below.refl w.heap.size w).alloc (Nat.le_refl _) (.cells #[.int .i64 1, .string ⟨#[97]⟩, .string ⟨#[]⟩, .int .i64 1, .string ⟨#[]⟩] 28)
  have HB1 := Lib.hid hB1
  have CT := Log_L (some ⟨w.heap.size, 0, none⟩) 1 1 [opB] _ (one_opB w) opB_chk (by decide)
  have RP := fun W => Replay_L ⟨(Lr.log [opB]).toArray⟩ [opB] [] 0 W (by rw [List.append_nil]) (log_size opB_chk (by decide)) (by decide) (by rw [opB_run]) (Or.inl ⟨rfl, rfl⟩)
  rw [opB_run] at RP
  simp only [if_true, List.length_singleton] at RP
  have HKR := Lib.hid (Lr.kept_run t0); have HKC := Lib.hid (Lr.kept_chk t0); have HKL := Lib.hid (Lr.kept_len t0); have HKG := Lib.hid (Lr.kept_right t0)
  obtain ⟨P, hP⟩ : ∃ P, Lr.kept t0 = P := ⟨_, rfl⟩
  rw [hP] at KV HKR HKC HKL HKG
  obtain ⟨KS, KL⟩ := P
  dsimp only at HKR HKC HKL HKG
  have R2 : Hid (∀ W, Calls Try.prog 10 #[.string ⟨(Lr.log KL).toArray⟩] W (RepTo W KS KL.length 0)) := Lib.hid fun W => by
    have h := Replay_L ⟨(Lr.log KL).toArray⟩ KL [] 0 W (by rw [List.append_nil]) (log_size HKC.out (by have := HKL.out; omega)) (by have := HKL.out; omega) (by rw [HKR.out]) (Or.inl ⟨rfl, rfl⟩)
    rw [HKR.out, if_pos rfl, if_pos rfl] at h
    exact h
  have L2 : Hid (∀ (a : Option Addr) (n c : Nat) (W : World), OSl W a n c KL → Calls Try.prog 7 #[.slice a n c] W fun e w' => e = .returned (.tuple #[.string ⟨(Lr.log KL).toArray⟩, .int .i64 0]) ∧ Below W.heap.size W w') := Lib.hid fun a n c W h => Log_L a n c KL W h HKC.out (by have := HKL.out; have := h.len; omega)
  generalize (⟨(Lr.log KL).toArray⟩ : ByteArray) = s2 at *
  generalize (⟨(Lr.log [opB]).toArray⟩ : ByteArray) = s1 at *
  clear hB1 w0 hP
  go_enter Try.func4, Try.ntmps4
  go_wp2_with fail
  with_reducible refine CT.mono ?_
  rintro e v2 ⟨rfl, hb2⟩
  have HB2 := Lib.hid (HB1.out.trans (hb2.mono HB1.out.size))
  clear hb2 CT
  go_wp2_with fail
  with_reducible refine (RP _).mono ?_
  rintro e v3 ⟨a3, n3, c3, b3, m3, d3, rs3, rfl, hs3, hb3⟩
  obtain rfl : m3 = 1 := hs3.vlen.symm
  have ha3 := hb3.alloc hb3.size (.cells #[.slice a3 n3 c3, .slice b3 1 d3] 32)
  have HB3 := Lib.hid (HB2.out.trans (ha3.mono HB2.out.size))
  have HX3 := Lib.hid (bxs_new v3 32 #[.slice a3 n3 c3, .slice b3 1 d3] [.slice a3 n3 c3, .slice b3 1 d3] rfl)
  have hz3 : w.heap.size ≤ v3.heap.size := (HB2.out.trans (hb3.mono HB2.out.size)).size
  have x0 := HX3.out.c 0 _ rfl; have x1 := HX3.out.c 1 _ rfl
  have hl3 := HX3.out.lt
  clear hs3 hb3 ha3 RP
  have K4 := KV.out _ HB3.out
  go_wp2_with fail
  with_reducible refine K4.mono ?_
  rintro e v4 ⟨a4, n4, c4, a5, n5, c5, b5, m5, d5, rs5, rfl, o4, l4, hs4, hb4⟩
  dsimp only at o4 l4 hs4
  obtain rfl : KL.length = n4 := l4
  have ha4 := hb4.alloc hb4.size (.cells #[.slice a5 n5 c5, .slice b5 m5 d5] 32)
  have HB4 := Lib.hid (HB3.out.trans (ha4.mono HB3.out.size))
  have HX4 := Lib.hid (HX3.out.on ha4)
  have HY4 := Lib.hid (bxs_new v4 32 #[.slice a5 n5 c5, .slice b5 m5 d5] [.slice a5 n5 c5, .slice b5 m5 d5] rfl)
  have HS4 := Lib.hid (hs4.keep ((Below.refl _ v4).alloc (Nat.le_refl _) (.cells #[.slice a5 n5 c5, .slice b5 m5 d5] 32)))
  have HO4 := Lib.hid (own_osl (o4.alloc (.cells #[.slice a5 n5 c5, .slice b5 m5 d5] 32)) rfl)
  have HN4 : Hid (∀ v ∈ sls a5 n5 c5 b5 m5 d5 rs5, v.ownBlock ≠ some v3.heap.size) := Lib.hid (hs4.off hl3)
  have hyx : v3.heap.size < v4.heap.size := Nat.lt_of_lt_of_le hl3 hb4.size
  clear o4 hs4 hb4 ha4 K4 x0 x1
  have K5 := L2.out a4 KL.length c4 _ HO4.out
  go_wp2_with fail
  with_reducible refine K5.mono ?_
  rintro e v5 ⟨rfl, hb5⟩
  have HB5 := Lib.hid (HB4.out.trans (hb5.mono HB4.out.size))
  have HX5 := Lib.hid (HX4.out.on hb5); have HY5 := Lib.hid (HY4.out.on hb5); have HS5 := Lib.hid (HS4.out.keep hb5)
  clear hb5 K5
  have K6 := R2.out v5
  go_wp2_with fail
  with_reducible refine K6.mono ?_
  rintro e v6 ⟨a6, n6, c6, b6, m6, d6, rs6, rfl, hs6, hb6⟩
  have HB6 := Lib.hid (HB5.out.trans (hb6.mono HB5.out.size))
  have HX6 := Lib.hid (HX5.out.on hb6); have HY6 := Lib.hid (HY5.out.on hb6); have HS6 := Lib.hid (HS5.out.keep hb6)
  have HR6 := Lib.hid hs6
  have HN6 : Hid (∀ v ∈ sls a6 n6 c6 b6 m6 d6 rs6, v.ownBlock ≠ some v3.heap.size) := Lib.hid (hs6.off HX5.out.lt)
  clear hs6 hb6 K6
  have z0 := HX6.out.c 0 _ rfl; have z1 := HX6.out.c 1 _ rfl; have zf0 := HX6.out.z 0 (show 0 < 2 by decide); have zf1 := HX6.out.z 1 (show 1 < 2 by decide)
  have hne : v3.heap.size ≠ v4.heap.size := Nat.ne_of_lt hyx
  have HB7 := Lib.hid (below_set2 HB6.out hz3 (.slice a6 n6 c6) (.slice b6 m6 d6))
  have HX7 := Lib.hid (HX6.out.set2 (.slice a6 n6 c6) (.slice b6 m6 d6))
  have HY7 := Lib.hid ((HY6.out.other (i := 0) hne (.slice a6 n6 c6)).other (i := 1) hne (.slice b6 m6 d6))
  have HS7 := Lib.hid ((HS6.out.other (i := 0) HN4.out (.slice a6 n6 c6)).other (i := 1) HN4.out (.slice b6 m6 d6))
  have HR7 := Lib.hid ((HR6.out.other (i := 0) HN6.out (.slice a6 n6 c6)).other (i := 1) HN6.out (.slice b6 m6 d6))
  have x0 := HX7.out.c 0 _ rfl; have x1 := HX7.out.c 1 _ rfl; have y0 := HY7.out.c 0 _ rfl; have y1 := HY7.out.c 1 _ rfl
  go_wp2_with fail
  clear z0 z1 zf0 zf1
  generalize (v6.setCell ⟨v3.heap.size, 0, none⟩ (.slice a6 n6 c6)).setCell ⟨v3.heap.size, 1, none⟩ (.slice b6 m6 d6) = W7 at *
  have K7 := Same_V a6 a5 b6 b5 n6 c6 m6 d6 n5 c5 m5 d5 _ _ rs6 rs5 KS W7 HR7.out HS7.out HKG.out
  with_reducible refine K7.mono ?_
  rintro e v8 ⟨rfl, hb8⟩
  have HB8 := Lib.hid (HB7.out.trans (hb8.mono HB7.out.size))
  have HX8 := Lib.hid (HX7.out.on hb8); have HR8 := Lib.hid (HR7.out.keep hb8)
  clear hb8 K7 x0 x1 y0 y1
  have x0 := HX8.out.c 0 _ rfl; have x1 := HX8.out.c 1 _ rfl
  have K8 := Check_V a6 b6 n6 c6 m6 d6 _ rs6 KS v8 HR8.out HKG.out
  go_wp2_with fail
  with_reducible refine K8.mono ?_
  rintro e v9 ⟨rfl, hb9⟩
  have HB9 := Lib.hid (HB8.out.trans (hb9.mono HB8.out.size))
  clear hb9 K8
  go_wp2_with fail
  go_ret
  exact ⟨rfl, HB9.out⟩

end Go.Proofs.Ythccdoejnklidaa
