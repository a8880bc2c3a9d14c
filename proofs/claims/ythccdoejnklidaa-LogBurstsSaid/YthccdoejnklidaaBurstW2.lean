/- The walk of woolkeep.burst: some of sixteen bits of a text turned. -/
import Derived.Test.YthccdoejnklidaaBurstW
namespace Go.Proofs.Ythccdoejnklidaa
open Go.RowKit

set_option maxRecDepth 100000 in
set_option maxHeartbeats 2000000 in
theorem burst_any (s : ByteArray) (a t : Nat) (w : World) (hs : s.size ≤ 1000) (ha : a + 16 ≤ 8 * s.size) (ht : t < 65536) :
    Calls Try.prog 11 #[.string s, .int .i64 a, .int .u16 t] w fun e w' => e = .returned (.string ⟨(brs s.data.toList a t 16).toArray⟩) ∧ Below w.heap.size w w' := by
  have kc := fun w : World => Lib.run_convert_string_bytes (P := Try.prog) w 9 58 5 s Try.underlying9 Try.underlying58 Try.underlying5
  have hb0 : Below w.heap.size w (Lib.bytesWorld w 5 s) := ⟨rfl, rfl, rfl, by rw [Lib.bytesWorld_size]; omega, fun k hk => Lib.bytesWorld_at_old w _ s k hk⟩
  have hc0 : ∀ j, j < s.size → (Lib.bytesWorld w 5 s).cell? ⟨w.heap.size, j, none⟩ = some (.int .u8 ((s.data.toList.getD j 0).toNat : Int)) := fun j hj => Lib.bytesWorld_cell w _ s j hj
  have hf0 : ∀ j, j < s.size → (Lib.bytesWorld w 5 s).frozen? ⟨w.heap.size, j, none⟩ = false := by
    intro j hj
    have hz : j < (Lib.bytesCells w 5 s).size := by unfold Lib.bytesCells; simp; omega
    simp [World.frozen?, Lib.bytesWorld_at_new]
    omega
  generalize hcap : grownCap w s.size 0 5 = cap at *
  have HB := Lib.hid hb0; have HC := Lib.hid hc0; have HF := Lib.hid hf0; clear hb0 hc0 hf0
  go_enter Try.func11, Try.ntmps11
  go_wp2_with fail
  go_loopw [11] (fun i wr => ∃ k : Nat, k ≤ 16 ∧ i = .int .i64 k ∧ Hid (∀ j, j < s.size → wr.cell? ⟨w.heap.size, j, none⟩ = some (.int .u8 (((brs s.data.toList a t k).getD j 0).toNat : Int))) ∧ Hid (∀ j, j < s.size → wr.frozen? ⟨w.heap.size, j, none⟩ = false) ∧ Hid (Below w.heap.size w wr))
    (fun i _ => 16 - (intOf i).toNat)
  case atStart => exact ⟨0, Nat.zero_le _, rfl, HC, HF, HB⟩
  case round =>
    obtain ⟨k, hk, rfl, hC, hF, hB⟩ := hrel
    by_cases hlt : k < 16
    · have hlen := brs_length s.data.toList a t k
      have hll : s.data.toList.length = s.size := by simp
      have hb : bits .and .u16 ((t : Int) / 2 ^ (15 - k)) 1 = (tb t k : Int) := u16_bit t k ht
      by_cases hbit : tb t k = 1
      · rw [hbit] at hb
        obtain ⟨q, hq⟩ : ∃ q, q = (a + k) / 8 := ⟨_, rfl⟩
        obtain ⟨r, hr⟩ : ∃ r, r = (a + k) % 8 := ⟨_, rfl⟩
        have hqs : q < s.size := by omega
        have hq1 : ((a : Int) + (k : Int)) / 8 = (q : Int) := by omega
        have hr1 : ((a : Int) + (k : Int)) % 8 = (r : Int) := by omega
        have hq2 : Int.tdiv ((a : Int) + (k : Int)) 8 = (q : Int) := by rw [Int.tdiv_eq_ediv_of_nonneg (by omega)]; exact hq1
        have hr2 : Int.tmod ((a : Int) + (k : Int)) 8 = (r : Int) := by rw [Int.tmod_eq_emod_of_nonneg (by omega)]; exact hr1
        have hr8 : r < 8 := by omega
        have hw1 : IntKind.i64.wrap ((a : Int) + (k : Int)) = (a : Int) + (k : Int) := IntWalk.i64_in _ (by omega)
        obtain ⟨x, hx⟩ : ∃ x : UInt8, x = (brs s.data.toList a t k).getD q 0 := ⟨_, rfl⟩
        obtain ⟨y, hy⟩ : ∃ y : UInt8, y = x ^^^ UInt8.ofNat (128 / 2 ^ r) := ⟨_, rfl⟩
        have hM : (128 : Int) / 2 ^ r = ((128 / 2 ^ r : Nat) : Int) := by rw [Int.natCast_ediv, Int.natCast_pow]; rfl
        have hMlt : 128 / 2 ^ r < 256 := Nat.lt_of_le_of_lt (Nat.div_le_self _ _) (by omega)
        have hxy : bits .xor .u8 (x.toNat : Int) ((128 / 2 ^ r : Nat) : Int) = (y.toNat : Int) := by
          rw [u8_xor_nat _ _ x.toNat_lt hMlt, hy, UInt8.toNat_xor, UInt8.toNat_ofNat', Nat.mod_eq_of_lt hMlt]
        generalize hMM : 128 / 2 ^ r = M at *
        have HM := Lib.hid hMM; clear hMM
        have hld : wr.drew.cell? ⟨w.heap.size, q, none⟩ = some (.int .u8 (x.toNat : Int)) := by rw [hx]; exact hC.out q hqs
        have hfr : wr.drew.frozen? ⟨w.heap.size, q, none⟩ = false := hF.out q hqs
        have hxl := x.toNat_lt
        have hyl := y.toNat_lt
        have HX := Lib.hid hx; have HY := Lib.hid hy; have HQ := Lib.hid hq; have HR := Lib.hid hr
        clear hx hy hq hr
        generalize hxn : x.toNat = xn at *
        generalize hyn : y.toNat = yn at *
        have HXN := Lib.hid hxn; have HYN := Lib.hid hyn
        clear hxn hyn
        go_wp2_with fail
        go_region
        have hC' : Hid (∀ j, j < s.size → ((wr.setCell ⟨w.heap.size, q, none⟩ (.int .u8 (yn : Int))).drew).cell? ⟨w.heap.size, j, none⟩ = some (.int .u8 (((brs s.data.toList a t (k + 1)).getD j 0).toNat : Int))) := by
          refine Lib.hid fun j hj => ?_
          have hE : brs s.data.toList a t (k + 1) = (brs s.data.toList a t k).set q y := by
            show (if tb t k = 1 then _ else _) = _
            rw [if_pos hbit, ← HQ.out, ← HR.out, ← HX.out, HM.out, HY.out]
          rw [hE]
          show (wr.setCell ⟨w.heap.size, q, none⟩ (.int .u8 (yn : Int))).cell? ⟨w.heap.size, j, none⟩ = _
          by_cases hjq : j = q
          · subst hjq
            have hld' : wr.cell? ⟨w.heap.size, j, none⟩ = some (.int .u8 (xn : Int)) := hld
            rw [World.cell?_setCell_same _ _ _ hld', ← HYN.out]
            simp [List.getD, hlen, hll, hj]
          · rw [World.cell?_setCell_other _ _ _ _ (by simp), hC.out j hj]
            simp [List.getD, Ne.symm hjq]
        have hF' : Hid (∀ j, j < s.size → ((wr.setCell ⟨w.heap.size, q, none⟩ (.int .u8 (yn : Int))).drew).frozen? ⟨w.heap.size, j, none⟩ = false) :=
          Lib.hid fun j hj => by rw [show ((wr.setCell ⟨w.heap.size, q, none⟩ (.int .u8 (yn : Int))).drew).frozen? ⟨w.heap.size, j, none⟩ = (wr.setCell ⟨w.heap.size, q, none⟩ (.int .u8 (yn : Int))).frozen? ⟨w.heap.size, j, none⟩ from rfl, World.frozen?_setCell]; exact hF.out j hj
        have hB' : Hid (Below w.heap.size w ((wr.setCell ⟨w.heap.size, q, none⟩ (.int .u8 (yn : Int))).drew)) := Lib.hid (hB.out.setCell (Nat.le_refl _) _).drew
        clear hld hfr hC hF hB hb hq1 hr1 hq2 hr2 hw1 hM hxy
        go_wp2_with fail
        go_round
        case rel => exact ⟨k + 1, hlt, by go_num, hC', hF', hB'⟩
        case measure => simp [intOf]; omega
      · have hb0 : tb t k = 0 := by unfold tb at hbit ⊢; omega
        rw [hb0] at hb
        have hn : brs s.data.toList a t (k + 1) = brs s.data.toList a t k := by unfold brs; rw [if_neg hbit]; cases k <;> rfl
        go_wp2_with fail
        go_round
        case rel => exact ⟨k + 1, hlt, by go_num, by rw [hn]; exact hC, hF, hB⟩
        case measure => simp [intOf]; omega
    · obtain rfl : k = 16 := by omega
      have hlen := brs_length s.data.toList a t 16
      have hll : s.data.toList.length = s.size := by simp
      obtain ⟨L, hL⟩ : ∃ L, L = brs s.data.toList a t 16 := ⟨_, rfl⟩
      rw [← hL] at hlen hC
      have hcells : ∀ (j : Nat) (hj : j < L.length), wr.cell? ((⟨w.heap.size, 0, none⟩ : Addr).add j) = some (.int .u8 (L[j].toNat : Int)) := by
        intro j hj
        have h := hC.out j (by omega)
        have hadd : (⟨w.heap.size, 0, none⟩ : Addr).add j = ⟨w.heap.size, j, none⟩ := by unfold Addr.add; split <;> simp_all
        rw [hadd, h]
        simp [List.getD, hj]
      have hcv := run_convert_bytes_back (P := Try.prog) wr 58 9 5 ⟨w.heap.size, 0, none⟩ cap L Try.underlying58 Try.underlying5 Try.underlying9 hcells
      rw [hlen, hll] at hcv
      have HE := Lib.hid hL
      clear hcells hlen hll hL hC hF kc
      go_wp2_with fail
      go_ret
      exact ⟨by rw [← HE.out]; rfl, hB.out⟩

end Go.Proofs.Ythccdoejnklidaa
