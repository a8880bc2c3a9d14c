/- The walks of gamma.Bits, zeros, value, ReadGamma, ReadDelta. -/
import Derived.Test.YtkdcapjnoapjgaaDoorGrP
import Derived.Test.YtkdcapjnoapjgaaDoorGammaW
import Derived.Shelf.Strings.SlTrimAscii
import Derived.Deep.RegionHeld3
namespace Go.Proofs.YtkdcapjnoapjgaaDoor
open Go.RowKit Go.Shelf

theorem dw_nil (p : UInt8 → Bool) : ∀ l : List UInt8, l.dropWhile p = [] ↔ ∀ x ∈ l, p x = true
  | [] => by simp
  | b :: l => by
    cases h : p b with
    | true => rw [List.dropWhile_cons_of_pos h, dw_nil p l]; simp [h]
    | false => rw [List.dropWhile_cons_of_neg (by simp [h])]; simp [h]

theorem trim_empty (l : List UInt8) : decide (Lib.trimS l [48, 49] = []) = Gr.bitsB l := by
  unfold Gr.bitsB
  cases h : l.all Gr.isB with
  | true =>
    have : Lib.trimRightS l [48, 49] = [] := by
      unfold Lib.trimRightS
      rw [(dw_nil _ _).2 (fun x hx => by
        have := List.all_eq_true.1 h x (by simpa using hx)
        exact this)]
      rfl
    unfold Lib.trimS
    rw [this]
    rfl
  | false =>
    have h2 := List.all_eq_false.1 h
    obtain ⟨b, hb, hn⟩ := h2
    rw [decide_eq_false_iff_not]
    intro he
    have h3 : ∀ x ∈ Lib.trimRightS l [48, 49], [48, 49].contains x = true := (dw_nil _ _).1 he
    have h4 : ∀ x ∈ l, [48, 49].contains x = true := by
      intro x hx
      have hs := List.takeWhile_append_dropWhile (p := fun y => [(48 : UInt8), 49].contains y) (l := l.reverse)
      have hx' : x ∈ l.reverse.takeWhile (fun y => [(48 : UInt8), 49].contains y) ++ l.reverse.dropWhile (fun y => [(48 : UInt8), 49].contains y) := by rw [hs]; simpa using hx
      rcases List.mem_append.1 hx' with h | h
      · exact List.all_eq_true.1 List.all_takeWhile x h
      · exact h3 x (by unfold Lib.trimRightS; simpa using h)
    exact hn (h4 b hb)

theorem trimBits (s : ByteArray) (w : World) (hs : s.size ≤ 9223372036854775807) :
    Calls Tryd.prog 40 #[.string s, .string ⟨#[48, 49]⟩] w fun e w' => ∃ X : ByteArray, e = .returned (.string X) ∧ X.toList.isEmpty = Gr.bitsB s.data.toList ∧ X.size ≤ 9223372036854775807 ∧ Below w.heap.size w w' := by
  refine (Any.strings_Trim_laid Tryd.lays160 (by kernel_rfl) s ⟨#[48, 49]⟩ w hs (by decide) (ascii_of_all (by decide))).mono ?_
  rintro e w' ⟨rfl, hb⟩
  refine ⟨_, rfl, ?_, ?_, hb⟩
  · rw [← trim_empty, ByteArray.toList_eq]
    show (Lib.trimS s.data.toList [48, 49]).isEmpty = _
    cases Lib.trimS s.data.toList [48, 49] <;> rfl
  · show (List.toArray _).size ≤ _
    rw [List.size_toArray]
    have h1 : (Lib.trimS s.data.toList [48, 49]).length ≤ s.data.toList.length := by
      unfold Lib.trimS Lib.trimLeftS Lib.trimRightS
      refine Nat.le_trans (List.dropWhile_suffix _).length_le ?_
      rw [List.length_reverse]
      exact Nat.le_trans (List.dropWhile_suffix _).length_le (by simp)
    have h2 : s.data.toList.length = s.size := by simp
    show (Lib.trimS s.data.toList [48, 49]).length ≤ _
    omega

set_option maxHeartbeats 1000000 in
theorem Bits_is (s : ByteArray) (v : Bool) (w : World) (hs : s.size ≤ 9223372036854775807) (hv : Gr.bitsB s.data.toList = v) :
    Calls Tryd.prog 29 #[.string s] w fun e w' => e = .returned (.bool v) ∧ Below w.heap.size w w' := by
  have T1 := fun w => trimBits s w hs
  rw [hv] at T1
  clear hv
  go_enter Tryd.func29, Tryd.ntmps29
  go_wp2_with fail
  with_reducible refine (T1 _).mono ?_
  rintro e w1 ⟨X, rfl, hX, hXs, hb⟩
  clear T1
  go_wp2_with fail
  go_ret
  exact ⟨by first | rfl | (congr 2), hb⟩

set_option maxHeartbeats 1000000 in
theorem zeros_is (s : ByteArray) (k : Nat) (w : World) (hs : s.size ≤ 9223372036854775807) (hk : Gr.zer s.data.toList = k) :
    Calls Tryd.prog 64 #[.string s] w fun e w' => e = .returned (.int .i64 k) ∧ w' = w := by
  have hl : s.data.toList.length = s.size := by simp
  have hle := (List.dropWhile_suffix (l := s.data.toList) (· == 48)).length_le
  have T1 : ∀ w, Calls Tryd.prog 71 #[.string s, .string ⟨#[48]⟩] w fun e w' => e = .returned (.string ⟨(s.data.toList.dropWhile (· == 48)).toArray⟩) ∧ w' = w := fun w => Tryd.strings_TrimLeft_one s 48 (by decide) w
  obtain ⟨X, hX⟩ : ∃ X : ByteArray, X = ⟨(s.data.toList.dropWhile (· == 48)).toArray⟩ := ⟨_, rfl⟩
  have hXs : X.size = (s.data.toList.dropWhile (· == 48)).length := by rw [hX]; exact List.size_toArray ..
  rw [← hX] at T1
  unfold Gr.zer at hk
  have hkk : (s.size : Int) - X.size = k := by omega
  have hXle : X.size ≤ s.size := by omega
  clear hk hX hXs hle hl
  go_enter Tryd.func64, Tryd.ntmps64
  go_wp2_with fail
  with_reducible refine (T1 _).mono ?_
  rintro e w1 ⟨rfl, rfl⟩
  go_wp2_with fail
  go_ret
  exact ⟨by first | rfl | (simp [hkk]), rfl⟩

theorem u8_less (b : UInt8) (hb : b = 48 ∨ b = 49) : IntKind.u8.wrap ((b.toNat : Int) - 48) = ((b.toNat - 48 : Nat) : Int) ∧ b.toNat - 48 ≤ 1 := by
  rcases hb with rfl | rfl
  · exact ⟨rfl, by decide⟩
  · exact ⟨rfl, by decide⟩

set_option maxRecDepth 100000 in
set_option maxHeartbeats 1000000 in
theorem value_is (s : ByteArray) (v : Nat) (w : World) (hs : s.size ≤ 31) (hb : Gr.bitsB s.data.toList = true) (hv : Gr.val s.data.toList = v) :
    Calls Tryd.prog 65 #[.string s] w fun e w' => e = .returned (.int .i64 v) ∧ w' = w := by
  have hl : s.data.toList.length = s.size := by simp
  have HB := Lib.hid hb; have HV := Lib.hid hv
  clear hb hv
  go_enter Tryd.func65, Tryd.ntmps65
  go_wp2_with fail
  go_loopw [3, 7] (fun x i wr => ∃ k m : Nat, k ≤ s.size ∧ m ≤ 4294967296 ∧ i = .int .i64 k ∧ x = .int .i64 m ∧ Hid (Gr.val (s.data.toList.take k) = m) ∧ wr = w) (fun _ i _ => s.size - (intOf i).toNat)
  case atStart => exact ⟨0, 0, Nat.zero_le _, by decide, rfl, rfl, Lib.hid rfl, rfl⟩
  case round =>
    obtain ⟨k, m, hk, hm, rfl, rfl, hM, rfl⟩ := hrel
    by_cases hlt : k < s.size
    · have ix := idx_str Tryd.underlying9 (s := s) (x := (k : Int)) (k := k) rfl hlt
      have hk' : k < s.data.toList.length := by rw [hl]; exact hlt
      have hbt : bt s.data.toList k = ((s.data.toList[k]).toNat : Int) := by unfold bt; rw [List.getD_eq_getElem?_getD, List.getElem?_eq_getElem hk']; rfl
      have h48 := u8_less s.data.toList[k] (Gr.bitsB_mem HB.out (List.getElem_mem hk'))
      have hvt := Gr.val_take hk'
      have hvl := Gr.val_lt (Gr.bitsB_take HB.out (k + 1))
      rw [hM.out] at hvt
      rw [hvt, List.length_take] at hvl
      have hp : 2 ^ (min (k + 1) s.data.toList.length) ≤ 2 ^ 31 := Nat.pow_le_pow_right (by decide) (by omega)
      have hp2 : (2 : Nat) ^ 31 = 2147483648 := rfl
      have hyl := (s.data.toList[k]).toNat_lt
      rw [hbt] at ix
      have HVT := Lib.hid hvt
      clear hvt hbt
      generalize s.data.toList[k] = b at *
      obtain ⟨d, hd⟩ : ∃ d, b.toNat - 48 = d := ⟨_, rfl⟩
      have hwr := h48.1
      have hd1 := h48.2
      rw [hd] at hwr hd1 HVT hvl
      have hvm : 2 * m + d ≤ 4294967296 := by omega
      clear hd h48 hp hp2 hvl
      generalize b.toNat = bn at *
      go_wp2_with fail
      go_roundw
      case rel => exact ⟨k + 1, 2 * m + d, hlt, hvm, by go_num, by go_num, HVT, by first | rfl | trivial⟩
      case measure => simp [intOf]; omega
    · obtain rfl : k = s.size := by omega
      have hmv : m = v := by rw [← hM.out, ← HV.out, List.take_of_length_le (by rw [hl]; exact Nat.le_refl _)]
      subst hmv
      go_wp2_with fail
      go_ret
      exact ⟨rfl, rfl⟩

end Go.Proofs.YtkdcapjnoapjgaaDoor
