/- PrintByte: with a byte more a print is moved on by eight bits, and the byte added; for every input within the form's reach. -/
import Derived.Test.YtabdchehbgchcaaPrintW2
import Derived.Laws.IdiomStrings
import Derived.OpenShut
namespace Go.Proofs.Ytabdchehbgchcaa
open Go.RowKit

/-- One byte, as a string. -/
theorem conv_one (b : UInt8) (w : World) : (convert 42 9 (.slice (some ⟨w.heap.size, 0, none⟩) 1 1)).run Try.prog (w.alloc (.cells #[.int .u8 (b.toNat : Int)] 5)) =
    .ok (.string ⟨#[b]⟩) (w.alloc (.cells #[.int .u8 (b.toNat : Int)] 5)) := by
  refine run_convert_bytes_back (w.alloc (.cells #[.int .u8 (b.toNat : Int)] 5)) 42 9 5 ⟨w.heap.size, 0, none⟩ 1 [b] Try.underlying42 Try.underlying5 Try.underlying9 ?_
  intro j hj
  obtain rfl : j = 0 := by simpa using hj
  exact cell_new w (k := 0) rfl

set_option maxRecDepth 100000 in
set_option maxHeartbeats 1000000 in
theorem printByte_core (m : Int) (c : UInt8) (s : ByteArray) (w : World) (p q x y : Nat) (hs : s.size ≤ 600)
    (o0 : Ans2 29 #[.int .i64 256, .string ⟨#[97]⟩] (.int .i64 97) (.int .i64 0))
    (o1 : Ans2 29 #[.int .i64 m, .string s] (.int .i64 p) (.int .i64 0))
    (o2 : Ans2 29 #[.int .i64 m, .string (s ++ ⟨#[c]⟩)] (.int .i64 q) (.int .i64 0))
    (m1 : Ans2 33 #[.int .i64 p, .int .i64 256, .int .i64 m] (.int .i64 x) (.int .i64 0))
    (m2 : Ans2 33 #[.int .i64 (c.toNat : Int), .int .i64 1, .int .i64 m] (.int .i64 y) (.int .i64 0))
    (bx : bits .xor .i64 (x : Int) (y : Int) = (q : Int)) :
    Calls Try.prog 12 #[.int .i64 m, .string s, .int .u8 (c.toNat : Int)] w fun e w' => e = .returned (.bool true) ∧ Grown w w' := by
  have hc0 : (c.toNat : Int) ≤ 255 := by have := c.toNat_lt; omega
  have hz : (⟨#[c]⟩ : ByteArray).size = 1 := rfl
  have cv := conv_one c
  generalize (⟨#[c]⟩ : ByteArray) = d at *
  have hd : d.size ≤ 1 := by omega
  clear hz
  generalize c.toNat = C at *
  go_enter Try.func12, Try.ntmps12
  go_wp2_with fail
  with_reducible refine o0.use ?_
  rintro e w' ⟨rfl, rfl⟩
  go_wp2_with fail
  with_reducible refine o1.use ?_
  rintro e w' ⟨rfl, rfl⟩
  go_wp2_with fail
  with_reducible refine o2.use ?_
  rintro e w' ⟨rfl, rfl⟩
  go_wp2_with fail
  with_reducible refine m1.use ?_
  rintro e w' ⟨rfl, rfl⟩
  go_wp2_with fail
  with_reducible refine m2.use ?_
  rintro e w' ⟨rfl, rfl⟩
  go_wp2_with fail
  go_ret
  exact ⟨rfl, (Grown.refl w).alloc _ _⟩

set_option maxRecDepth 100000 in
set_option maxHeartbeats 1000000 in
theorem printByte_err (m : Int) (c : UInt8) (s : ByteArray) (w : World) (p q e1 e2 : Int) (hs : s.size ≤ 140737488351232)
    (o0 : Ans2 29 #[.int .i64 256, .string ⟨#[97]⟩] (.int .i64 97) (.int .i64 0))
    (o1 : Ans2 29 #[.int .i64 m, .string s] (.int .i64 p) (.int .i64 e1))
    (o2 : Ans2 29 #[.int .i64 m, .string (s ++ ⟨#[c]⟩)] (.int .i64 q) (.int .i64 e2))
    (h : e1 = 0 ∧ e2 = 2 ∨ (e1 = 1 ∨ e1 = 2) ∧ p = 0) :
    Calls Try.prog 12 #[.int .i64 m, .string s, .int .u8 (c.toNat : Int)] w fun e w' => e = .returned (.bool true) ∧ Grown w w' := by
  have hc0 : (c.toNat : Int) ≤ 255 := by have := c.toNat_lt; omega
  have hz : (⟨#[c]⟩ : ByteArray).size = 1 := rfl
  have cv := conv_one c
  generalize (⟨#[c]⟩ : ByteArray) = d at *
  have hd : d.size ≤ 1 := by omega
  clear hz
  generalize c.toNat = C at *
  rcases h with ⟨rfl, rfl⟩ | ⟨rfl | rfl, rfl⟩
  all_goals
    go_enter Try.func12, Try.ntmps12
    go_wp2_with fail
    with_reducible refine o0.use ?_
    rintro e w' ⟨rfl, rfl⟩
    go_wp2_with fail
    with_reducible refine o1.use ?_
    rintro e w' ⟨rfl, rfl⟩
    go_wp2_with fail
    with_reducible refine o2.use ?_
    rintro e w' ⟨rfl, rfl⟩
    go_wp2_with fail
    go_ret
    exact ⟨rfl, (Grown.refl w).alloc _ _⟩

theorem append_data' (s t : ByteArray) : (s ++ t).data.toList = s.data.toList ++ t.data.toList := by
  rw [ByteArray.data_append, Array.toList_append]

theorem printByte_walk (a0 : Int) (a1 : ByteArray) (a2 : Int) (_ : (Lit.int .i64 a0).wf = true) (w1 : a1.size ≤ 140737488351232) (w2 : (Lit.int .u8 a2).wf = true) (w : World) :
    Calls Try.prog 12 #[.int .i64 a0, .string a1, .int .u8 a2] w fun e w' => e = .returned (.bool true) ∧ Grown w w' := by
  have hb := Go.bounds_u8 w2
  obtain ⟨c, hc⟩ : ∃ c : UInt8, a2 = (c.toNat : Int) := by
    refine ⟨UInt8.ofNat a2.toNat, ?_⟩
    rw [UInt8.toNat_ofNat']; omega
  subst hc
  have o0 := Of_is (m := 256) (s := ⟨#[97]⟩) (x := 97) (by omega) (by omega) (by decide) (by decide +kernel)
  have hz : (⟨#[c]⟩ : ByteArray).size = 1 := rfl
  have hsz : (a1 ++ ⟨#[c]⟩).size = a1.size + 1 := ByteArray.size_append
  by_cases hm : 2 ≤ a0 ∧ a0 ≤ 2147483647
  · obtain ⟨m, rfl⟩ := Int.eq_ofNat_of_zero_le (show 0 ≤ a0 by omega)
    have h2 : 2 ≤ m := by omega
    have hm2 : m ≤ 2147483647 := by omega
    have h0 : m ≠ 0 := by omega
    by_cases hs : a1.size ≤ 600
    · have o1 := Of_is (m := m) h2 hm2 hs rfl
      by_cases hst : (a1 ++ ⟨#[c]⟩).size ≤ 600
      · have o2 := Of_is (m := m) h2 hm2 hst rfl
        have l1 := G.L_lt (G.print_lt a1.data.toList h0)
        have hx : G.md (G.mul (G.print m a1.data.toList) 256) m ≤ 2147483647 := md_le h0 hm2
        have hy : G.md c.toNat m ≤ 2147483647 := md_le h0 hm2
        have hcl := c.toNat_lt
        refine printByte_core m c a1 w _ _ _ _ hs o0 o1 o2 (ModMul_is (b := 256) (by omega) (by omega) hm2 h0 rfl) (ModMul_is (b := 1) (by omega) (by omega) hm2 h0 (by rw [G.mul_one])) ?_
        rw [i64_xor_nat _ _ (by omega) (by omega), append_data', G.print_V _ h0, G.print_V _ h0, show (⟨#[c]⟩ : ByteArray).data.toList = [c] from rfl, G.V_snoc, G.md_mul_left _ _ h0, ← G.md_xor _ _ h0, G.mul_256]
      · exact printByte_err m c a1 w _ _ 0 2 w1 o0 o1 (fun w => Of_large m _ w h2 hm2 (by omega) (by omega)) (Or.inl ⟨rfl, rfl⟩)
    · exact printByte_err m c a1 w _ _ 2 2 w1 o0 (fun w => Of_large m _ w h2 hm2 (by omega) (by omega)) (fun w => Of_large m _ w h2 hm2 (by omega) (by omega)) (Or.inr ⟨Or.inr rfl, rfl⟩)
  · exact printByte_err a0 c a1 w _ _ 1 1 w1 o0 (fun w => Of_bad a0 _ w (by omega)) (fun w => Of_bad a0 _ w (by omega)) (Or.inr ⟨Or.inl rfl, rfl⟩)

end Go.Proofs.Ytabdchehbgchcaa
