/- The walks of pack.Bytes and pack.Unbytes. -/
import Derived.Test.YtkdcapjnoapjgaaDoorPkP2
import Derived.Test.YtkdcapjnoapjgaaDoorPkW
import Derived.Test.YtkdcapjnoapjgaaDoorGrW2
namespace Go.Proofs.YtkdcapjnoapjgaaDoor
open Go.RowKit Go.Shelf

theorem rep_zeros (k : Nat) (w : World) (hk : k ≤ 7) : Calls Tryd.prog 30 #[.string ⟨#[48]⟩, .int .i64 k] w fun e w' => e = .returned (.string ⟨(List.replicate k 48).toArray⟩) ∧ Below w.heap.size w w' := by
  have := Tryd.strings_Repeat ⟨#[48]⟩ k w (by omega) (by show 1 * k ≤ _; omega)
  rwa [rep_zero] at this

theorem u8_of (m : Nat) (h : m < 256) : ((UInt8.ofNat m).toNat : Int) = (m : Int) := by rw [UInt8.toNat_ofNat']; omega

set_option maxRecDepth 100000 in
set_option maxHeartbeats 4000000 in
theorem Bytes_ok (s R : ByteArray) (w : World) (hs : s.size ≤ 100000000) (hb : Gr.bitsB s.data.toList = true) (hR : R = ⟨(Pk.by_ s.data.toList).toArray⟩) :
    Calls Tryd.prog 16 #[.string s] w fun e w' => e = .returned (.tuple #[.string R, .int .i64 0]) ∧ Below w.heap.size w w' := by
  obtain ⟨i0, hi, hz0, hz1, hz2⟩ := info_parts Tryd.infoU8
  have hl : s.data.toList.length = s.size := Array.length_toList ..
  have B1 := fun w => Bits_is s true w (by omega) hb
  have hpl := Pk.pad_length s.data.toList
  have hp8 := Pk.pad_eight s.data.toList
  have hpb := Pk.pad_bits hb
  rw [hl] at hpl
  obtain ⟨q, hq⟩ : ∃ q, (8 - (s.size + 1) % 8) % 8 = q := ⟨_, rfl⟩
  have hq7 : q ≤ 7 := by omega
  have R1 := fun w => rep_zeros q w hq7
  obtain ⟨Z, hZ⟩ : ∃ Z : ByteArray, Z = ⟨(List.replicate q (48 : UInt8)).toArray⟩ := ⟨_, rfl⟩
  rw [← hZ] at R1
  have hZs : Z.size = q := by rw [hZ]; show (List.toArray _).size = _; rw [List.size_toArray, List.length_replicate]
  obtain ⟨S1, hS1⟩ : ∃ S1 : ByteArray, S1 = s ++ ⟨#[49]⟩ := ⟨_, rfl⟩
  have hS1s : S1.size = s.size + 1 := by rw [hS1, ByteArray.size_append]; rfl
  obtain ⟨V, hV⟩ : ∃ V : ByteArray, V = S1 ++ Z := ⟨_, rfl⟩
  have hVs : V.size = s.size + 1 + q := by rw [hV, ByteArray.size_append, hS1s, hZs]
  have hVl : V.data.toList = Pk.pad s.data.toList := by
    rw [hV, hS1, hZ]
    unfold Pk.pad
    rw [hl, hq]
    simp
  have hr1 : Int.tmod ((s.size : Int) + 1) 8 = (((s.size + 1) % 8 : Nat) : Int) := by rw [Int.tmod_eq_emod_of_nonneg (by omega)]; omega
  obtain ⟨r, hr⟩ : ∃ r, (s.size + 1) % 8 = r := ⟨_, rfl⟩
  have hr8 : r < 8 := by omega
  rw [hr] at hr1 hq
  have hr2 : ((s.size : Int) + 1) % 8 = (r : Int) := by omega
  have hq1 : Int.tmod (8 - (r : Int)) 8 = (q : Int) := by rw [Int.tmod_eq_emod_of_nonneg (by omega)]; omega
  have hq2 : (8 - (r : Int)) % 8 = (q : Int) := by omega
  have hpl2 : (Pk.pad s.data.toList).length = V.size := by omega
  obtain ⟨K, hK⟩ : ∃ K, (Pk.pad s.data.toList).length / 8 = K := ⟨_, rfl⟩
  rw [hK, hpl2] at hp8
  have hRl : Hid (R = ⟨(Pk.bytsN K V.data.toList).toArray⟩) := Lib.hid (by rw [hR]; unfold Pk.by_; rw [hK, hVl])
  rw [← hVl] at hpb
  have HPB := Lib.hid hpb
  have hVll : V.data.toList.length = V.size := Array.length_toList ..
  have HVLL := Lib.hid hVll
  have HVS := Lib.hid hVs
  clear hpl hpl2 hK hVl hpb hR hVll hZ hb hl hr hq
  go_enter Tryd.func16, Tryd.ntmps16
  go_wp2_with fail
  with_reducible refine (B1 _).mono ?_
  rintro e w1 ⟨rfl, hb1⟩
  have HB1 := Lib.hid hb1
  clear B1 hb1
  have hVV : s ++ ⟨#[49]⟩ ++ Z = V := by rw [hV, hS1]
  rw [hS1] at hS1s
  clear hV hS1
  go_wp2_with fail
  with_reducible refine (R1 _).mono ?_
  rintro e w2 ⟨rfl, hb2⟩
  have HB2 := Lib.hid (HB1.out.trans (hb2.mono HB1.out.size))
  clear R1 hb2
  go_wp2_with fail
  clear hr1 hr2 hq1 hq2 hVV hS1s hZs
  go_loopw [4, 5] (fun v i wr => ∃ (k x cp : Nat) (g : Option Addr), k ≤ K ∧ x ≤ V.size ∧ Hid (x = 8 * k) ∧ i = .int .i64 x ∧ v = .slice g k cp ∧ Hid (wr.ownsRow w.heap.size 5 1 (.slice g k cp) k (bv (Pk.bytsN k V.data.toList))) ∧ Hid (Below w.heap.size w wr)) (fun _ i _ => V.size - (intOf i).toNat)
  case atStart => exact ⟨0, 0, 0, none, Nat.zero_le _, Nat.zero_le _, Lib.hid rfl, rfl, rfl, Lib.hid (World.ownsRow_nil _ _ _ _), HB2⟩
  case round =>
    obtain ⟨k, x, cp, g, hk, hxle, hx, rfl, rfl, hO, hB⟩ := hrel
    by_cases hlt : k < K
    · obtain ⟨W0, rfl⟩ : ∃ W0 : World, W0 = wr := ⟨_, rfl⟩
      have hxv : x + 8 ≤ V.size := by have := hx.out; omega
      go_wp2_with fail
      go_loopw [6, 27] (fun v i wr => ∃ j m : Nat, j ≤ 8 ∧ m ≤ 1000 ∧ i = .int .i64 j ∧ v = .int .i64 m ∧ Hid (Gr.val ((V.data.toList.drop x).take j) = m) ∧ wr = W0) (fun _ i _ => 8 - (intOf i).toNat)
      case atStart => exact ⟨0, 0, Nat.zero_le _, Nat.zero_le _, rfl, rfl, Lib.hid rfl, rfl⟩
      case round =>
        obtain ⟨j, m, hj, hm, rfl, rfl, hM, rfl⟩ := hrel
        by_cases hj8 : j < 8
        · have ix := idx_str Tryd.underlying9 (s := V) (x := (x : Int) + j) (k := x + j) (by omega) (by omega)
          have hk' : j < (V.data.toList.drop x).length := by rw [List.length_drop, HVLL.out]; omega
          have hbt : bt V.data.toList (x + j) = (((V.data.toList.drop x)[j]).toNat : Int) := by
            unfold bt; rw [List.getElem_drop, List.getD_eq_getElem?_getD, List.getElem?_eq_getElem (by rw [HVLL.out]; omega)]; rfl
          have h48 := u8_less (V.data.toList.drop x)[j] (Gr.bitsB_mem (Gr.bitsB_drop HPB.out x) (List.getElem_mem hk'))
          have hvt := Gr.val_take hk'
          have hvl := Gr.val_lt (Gr.bitsB_take (Gr.bitsB_drop HPB.out x) (j + 1))
          rw [hM.out] at hvt
          rw [hvt, List.length_take] at hvl
          have hp : 2 ^ (min (j + 1) (V.data.toList.drop x).length) ≤ 2 ^ 8 := Nat.pow_le_pow_right (by decide) (by omega)
          have hp2 : (2 : Nat) ^ 8 = 256 := rfl
          have hyl := ((V.data.toList.drop x)[j]).toNat_lt
          rw [hbt] at ix
          have HVT := Lib.hid hvt
          clear hvt hbt
          generalize (V.data.toList.drop x)[j] = b at *
          obtain ⟨d, hd⟩ : ∃ d, b.toNat - 48 = d := ⟨_, rfl⟩
          have hwr := h48.1
          have hd1 := h48.2
          rw [hd] at hwr hd1 HVT hvl
          have hvm : 2 * m + d ≤ 1000 := by omega
          clear hd h48 hp hp2 hvl hk'
          generalize b.toNat = bn at *
          go_wp2_with fail
          go_roundw
          case rel => exact ⟨j + 1, 2 * m + d, hj8, hvm, by go_num, by go_num, HVT, by first | rfl | trivial⟩
          case measure => simp [intOf]; omega
        · obtain rfl : j = 8 := by omega
          have hvl := Gr.val_lt (Gr.bitsB_take (Gr.bitsB_drop HPB.out x) 8)
          rw [hM.out, List.length_take, List.length_drop, HVLL.out, Nat.min_eq_left (by omega)] at hvl
          have hm256 : m < 256 := hvl
          have hmy := u8_of m hm256
          have HBY : Hid (bv (Pk.bytsN (k + 1) V.data.toList) = bv (Pk.bytsN k V.data.toList) ++ [.int .u8 (m : Int)]) := Lib.hid (by rw [Pk.bytsN_snoc, ← hx.out, hM.out, bv_snoc, hmy])
          clear hvl hmy
          have hbase := row_base hO.out
          have hown2 : (wr.alloc (.cells #[.int .u8 (m : Int)] 5)).ownsRow w.heap.size 5 1 (.slice g k cp) k (bv (Pk.bytsN k V.data.toList)) := hO.out.alloc _
          have hcell2 : ∀ j u, [Value.int .u8 (m : Int)][j]? = some u → (wr.alloc (.cells #[.int .u8 (m : Int)] 5)).cell? ((⟨wr.heap.size, 0, none⟩ : Addr).add j) = some u := fun j u h => cell_one_new wr (.int .u8 (m : Int)) 5 j u h
          have hone : ∀ u ∈ [Value.int .u8 (m : Int)], u.oneCell' = true := by intro u hu; simp at hu; subst hu; rfl
          have hbsz := hB.out.size
          have hm9 : k + 1 ≤ maxLen := by unfold maxLen; omega
          have hm2 : (k + 1) * 1 ≤ 140737488355328 := by omega
          have hm3 : w.heap.size ≤ (wr.alloc (.cells #[.int .u8 (m : Int)] 5)).heap.size := by rw [World.size_alloc]; omega
          have H2 := Lib.hid hown2; have H3 := Lib.hid hcell2; have H4 := Lib.hid hone
          clear hown2 hcell2 hone
          go_wp2_with (at_builtin; refine wpList_append_lies _ rfl _ _ _ rfl w.heap.size 5 i0 (.int .u8 0) 1 1 Tryd.underlying32 hi hz0 hz1 hz2 rfl (by decide) (.slice g k cp) k _ rfl H2.out ⟨wr.heap.size, 0, none⟩ 1 1 [.int .u8 (m : Int)] rfl rfl H3.out H4.out (by decide) hm9 hm2 hm3 _ rfl ?_)
          intro g' cap' wq q1 q2 q3 q4
          have HB' : Hid (Below w.heap.size w wq) := Lib.hid ((hB.out.alloc hbsz _).grown q2 hm3 hbase)
          have HR2 : Hid (wq.ownsRow w.heap.size 5 1 (.slice (some ⟨g', 0, none⟩) (k + 1) cap') (k + 1) (bv (Pk.bytsN (k + 1) V.data.toList))) := Lib.hid (by rw [HBY.out]; exact q1)
          clear q1 q2 q3 q4 H2 H3 H4 hm3 hbase hbsz
          go_wp2_with fail
          go_roundw
          case rel => exact ⟨k + 1, x + 8, cap', some ⟨g', 0, none⟩, hlt, hxv, Lib.hid (by have := hx.out; omega), by go_num, rfl, HR2, HB'⟩
          case measure => simp [intOf]; omega
    · obtain rfl : k = K := by omega
      have hxe : V.size ≤ x := by have := hx.out; omega
      have hnl := Pk.bytsN_length k V.data.toList
      rcases hO.out.2 with ⟨hnil, hz⟩ | ⟨g1, cap, cur, hv, _⟩
      · cases hnil
        exfalso; have := HVS.out; omega
      · cases hv
        have hcv := run_convert_bytes_back (P := Tryd.prog) wr 32 9 5 ⟨g1, 0, none⟩ cp (Pk.bytsN k V.data.toList) Tryd.underlying32 Tryd.underlying5 Tryd.underlying9 (fun j hj => hO.out.cells (g := g1) rfl j _ (by simp [bv, hj]))
        rw [hnl, ← hRl.out] at hcv
        clear hnl
        go_wp2_with fail
        go_ret2
        exact ⟨rfl, hB.out⟩

end Go.Proofs.YtkdcapjnoapjgaaDoor
