/- PrintLinear: the prints of three texts of one length, added, are that of the texts, added; for every input within the form's reach; what was there stands below. -/
import Derived.Test.YtabdchehbgchcaaXorW
import Derived.Test.YtabdchehbgchcaaAns
import Derived.Test.YtabdchehbgchcaaShut
namespace Go.Proofs.Ytabdchehbgchcaa
open Go.RowKit

namespace G
theorem V_xor3 (l m n : List UInt8) (k : Nat) (h1 : k ≤ l.length) (h2 : k ≤ m.length) (h3 : k ≤ n.length) :
    V 1 (xor3 l m n k) = V 1 (l.take k) ^^^ V 1 (m.take k) ^^^ V 1 (n.take k) := by
  induction k with
  | zero => simp [xor3, V]
  | succ k ih =>
    have g1 : l.getD k 0 = l[k] := by simp [List.getD, List.getElem?_eq_getElem (show k < l.length from h1)]
    have g2 : m.getD k 0 = m[k] := by simp [List.getD, List.getElem?_eq_getElem (show k < m.length from h2)]
    have g3 : n.getD k 0 = n[k] := by simp [List.getD, List.getElem?_eq_getElem (show k < n.length from h3)]
    rw [xor3_succ, take_one l k h1, take_one m k h2, take_one n k h3, V_snoc, V_snoc, V_snoc, V_snoc, ih (by omega) (by omega) (by omega), g1, g2, g3, UInt8.toNat_xor, UInt8.toNat_xor]
    simp only [← mul_256, xor_mul]
    ac_rfl

theorem print_xor3 (l m n : List UInt8) (k : Nat) {q : Nat} (hq : q ≠ 0) (h1 : l.length = k) (h2 : m.length = k) (h3 : n.length = k) :
    print q l ^^^ print q m ^^^ print q n = print q (xor3 l m n k) := by
  rw [print_V _ hq, print_V _ hq, print_V _ hq, print_V _ hq, V_xor3 l m n k (by omega) (by omega) (by omega), md_xor _ _ hq, md_xor _ _ hq,
    List.take_of_length_le (by omega), List.take_of_length_le (by omega), List.take_of_length_le (by omega)]
end G

theorem sl_to' {P : Program} {t : TypeId} (hu : P.underlying t = some .string) {s : ByteArray} {y : Int} {b : Nat} (hy : y = b) (hb : b ≤ s.size) :
    ∀ w, (Instr.slice t (.string s) none (some (.int .i64 y)) none).run P w = .ok (.string (s.extract 0 b)) w := by
  intro w
  subst hy
  have := run_slice_string_to_if w t s .i64 (b : Int) hu
  rw [this, if_pos (by omega), Int.toNat_natCast]

theorem below_drewN {w w' : World} {n : Nat} (h : Below (w.drewN n).heap.size (w.drewN n) w') : Below w.heap.size w w' := ⟨h.os, h.tape, h.output, h.size, h.block⟩

set_option maxRecDepth 100000 in
set_option maxHeartbeats 1000000 in
theorem printLinear_core (m : Int) (s t u s' t' u' : ByteArray) (n q : Nat) (w : World) (a b c d x y ea : Nat)
    (hn : n ≤ 140737488351232) (hq : (if t.size < s.size then (t.size : Int) else (s.size : Int)) = q) (hmin : (if u.size < q then (u.size : Int) else (q : Int)) = n)
    (z1 : s'.size = n) (z2 : t'.size = n) (z3 : u'.size = n)
    (c1 : ∀ w, (Instr.slice 9 (.string s) none (some (.int .i64 n)) none).run Try.prog w = .ok (.string s') w)
    (c2 : ∀ w, (Instr.slice 9 (.string t) none (some (.int .i64 n)) none).run Try.prog w = .ok (.string t') w)
    (c3 : ∀ w, (Instr.slice 9 (.string u) none (some (.int .i64 n)) none).run Try.prog w = .ok (.string u') w)
    (o0 : Ans2 29 #[.int .i64 4, .string ⟨#[97]⟩] (.int .i64 1) (.int .i64 0))
    (o1 : Ans2 29 #[.int .i64 m, .string s'] (.int .i64 a) (.int .i64 ea))
    (o2 : Ans2 29 #[.int .i64 m, .string t'] (.int .i64 b) (.int .i64 ea))
    (o3 : Ans2 29 #[.int .i64 m, .string u'] (.int .i64 c) (.int .i64 ea))
    (o4 : Ans2 29 #[.int .i64 m, .string ⟨(xor3 s'.data.toList t'.data.toList u'.data.toList n).toArray⟩] (.int .i64 d) (.int .i64 ea))
    (hea : ea = 0 ∨ ea = 1 ∨ ea = 2)
    (bx : bits .xor .i64 (a : Int) (b : Int) = (x : Int)) (by' : bits .xor .i64 (x : Int) (c : Int) = (y : Int)) (hd : ea = 0 → y = d) :
    Calls Try.prog 5 #[.int .i64 m, .string s, .string t, .string u] w fun e w' => e = .returned (.bool true) ∧ Below w.heap.size w w' := by
  have hx : ∀ w, Calls Try.prog 30 #[.string s', .string t', .string u'] w fun e w' => e = .returned (.string ⟨(xor3 s'.data.toList t'.data.toList u'.data.toList n).toArray⟩) ∧ Below w.heap.size w w' := by
    intro w
    have := xor_any s' t' u' w (by omega) (by omega) (by omega)
    rw [z1] at this
    exact this
  generalize (⟨(xor3 s'.data.toList t'.data.toList u'.data.toList n).toArray⟩ : ByteArray) = X at *
  rcases hea with rfl | rfl | rfl
  · obtain rfl := hd rfl
    go_enter Try.func5, Try.ntmps5
    go_wp2_with fail
    with_reducible refine o0.use ?_
    rintro e w' ⟨rfl, rfl⟩
    go_wp2_with fail
    go_quiet (fail)
    go_wp2_with fail
    with_reducible refine o1.use ?_
    rintro e w' ⟨rfl, rfl⟩
    go_wp2_with fail
    with_reducible refine o2.use ?_
    rintro e w' ⟨rfl, rfl⟩
    go_wp2_with fail
    with_reducible refine o3.use ?_
    rintro e w' ⟨rfl, rfl⟩
    go_wp2_with fail
    with_reducible refine (hx _).mono ?_
    intro e w' ⟨he, hb⟩
    subst he
    go_wp2_with fail
    with_reducible refine o4.use ?_
    rintro e w' ⟨rfl, rfl⟩
    go_wp2_with fail
    go_ret
    exact ⟨rfl, below_drewN hb⟩
  · clear hd
    go_enter Try.func5, Try.ntmps5
    go_wp2_with fail
    with_reducible refine o0.use ?_
    rintro e w' ⟨rfl, rfl⟩
    go_wp2_with fail
    go_quiet (fail)
    go_wp2_with fail
    with_reducible refine o1.use ?_
    rintro e w' ⟨rfl, rfl⟩
    go_wp2_with fail
    with_reducible refine o2.use ?_
    rintro e w' ⟨rfl, rfl⟩
    go_wp2_with fail
    with_reducible refine o3.use ?_
    rintro e w' ⟨rfl, rfl⟩
    go_wp2_with fail
    with_reducible refine (hx _).mono ?_
    intro e w' ⟨he, hb⟩
    subst he
    go_wp2_with fail
    with_reducible refine o4.use ?_
    rintro e w' ⟨rfl, rfl⟩
    go_wp2_with fail
    go_ret
    exact ⟨rfl, below_drewN hb⟩
  · clear hd
    go_enter Try.func5, Try.ntmps5
    go_wp2_with fail
    with_reducible refine o0.use ?_
    rintro e w' ⟨rfl, rfl⟩
    go_wp2_with fail
    go_quiet (fail)
    go_wp2_with fail
    with_reducible refine o1.use ?_
    rintro e w' ⟨rfl, rfl⟩
    go_wp2_with fail
    with_reducible refine o2.use ?_
    rintro e w' ⟨rfl, rfl⟩
    go_wp2_with fail
    with_reducible refine o3.use ?_
    rintro e w' ⟨rfl, rfl⟩
    go_wp2_with fail
    with_reducible refine (hx _).mono ?_
    intro e w' ⟨he, hb⟩
    subst he
    go_wp2_with fail
    with_reducible refine o4.use ?_
    rintro e w' ⟨rfl, rfl⟩
    go_wp2_with fail
    go_ret
    exact ⟨rfl, below_drewN hb⟩

theorem printLinear_walk (a0 : Int) (a1 : ByteArray) (a2 : ByteArray) (a3 : ByteArray) (_ : (Lit.int .i64 a0).wf = true) (w1 : a1.size ≤ 140737488351232) (w2 : a2.size ≤ 140737488351232) (w3 : a3.size ≤ 140737488351232) (w : World) :
    Calls Try.prog 5 #[.int .i64 a0, .string a1, .string a2, .string a3] w fun e w' => e = .returned (.bool true) ∧ Below w.heap.size w w' := by
  have o0 := Of_is (m := 4) (s := ⟨#[97]⟩) (x := 1) (by omega) (by omega) (by decide) (by decide +kernel)
  obtain ⟨q, hq⟩ : ∃ q : Nat, q = min a1.size a2.size := ⟨_, rfl⟩
  obtain ⟨n, hn⟩ : ∃ n : Nat, n = min q a3.size := ⟨_, rfl⟩
  have hq' : (if a2.size < a1.size then (a2.size : Int) else (a1.size : Int)) = q := by split <;> omega
  have hn' : (if a3.size < q then (a3.size : Int) else (q : Int)) = n := by split <;> omega
  have z1 : (a1.extract 0 n).size = n := by rw [ByteArray.size_extract]; omega
  have z2 : (a2.extract 0 n).size = n := by rw [ByteArray.size_extract]; omega
  have z3 : (a3.extract 0 n).size = n := by rw [ByteArray.size_extract]; omega
  have c1 := sl_to' Try.underlying9 (s := a1) (y := (n : Int)) (b := n) rfl (by omega)
  have c2 := sl_to' Try.underlying9 (s := a2) (y := (n : Int)) (b := n) rfl (by omega)
  have c3 := sl_to' Try.underlying9 (s := a3) (y := (n : Int)) (b := n) rfl (by omega)
  have hnb : n ≤ 140737488351232 := by omega
  generalize a1.extract 0 n = s' at *
  generalize a2.extract 0 n = t' at *
  generalize a3.extract 0 n = u' at *
  obtain ⟨X, hX⟩ : ∃ X : ByteArray, X = ⟨(xor3 s'.data.toList t'.data.toList u'.data.toList n).toArray⟩ := ⟨_, rfl⟩
  have zX : X.size = n := by rw [hX]; show (List.toArray _).size = n; rw [List.size_toArray, xor3_length]
  by_cases hg : 2 ≤ a0 ∧ a0 ≤ 2147483647 ∧ n ≤ 600
  · obtain ⟨m, rfl⟩ := Int.eq_ofNat_of_zero_le (show 0 ≤ a0 by omega)
    have h2 : 2 ≤ m := by omega
    have hm2 : m ≤ 2147483647 := by omega
    have h0 : m ≠ 0 := by omega
    have o1 := Of_is (m := m) (s := s') h2 hm2 (by omega) rfl
    have o2 := Of_is (m := m) (s := t') h2 hm2 (by omega) rfl
    have o3 := Of_is (m := m) (s := u') h2 hm2 (by omega) rfl
    have o4 := Of_is (m := m) (s := X) h2 hm2 (by omega) rfl
    have l1 := G.L_lt (G.print_lt s'.data.toList h0)
    have l2 := G.L_lt (G.print_lt t'.data.toList h0)
    have l3 := G.L_lt (G.print_lt u'.data.toList h0)
    have key := G.print_xor3 s'.data.toList t'.data.toList u'.data.toList n h0 z1 z2 z3
    rw [hX] at o4
    have hlx : G.print m s'.data.toList ^^^ G.print m t'.data.toList < 2 ^ 31 := Nat.xor_lt_two_pow (by omega) (by omega)
    exact printLinear_core m a1 a2 a3 s' t' u' n q w _ _ _ _ _ _ 0 hnb hq' hn' z1 z2 z3 c1 c2 c3 o0 o1 o2 o3 o4 (Or.inl rfl)
      (i64_xor_nat _ _ (by omega) (by omega)) (i64_xor_nat _ _ (by omega) (by omega)) (fun _ => key)
  · obtain ⟨ea, hea, bad⟩ : ∃ ea : Nat, (ea = 1 ∨ ea = 2) ∧ ∀ s : ByteArray, s.size = n → Ans2 29 #[.int .i64 a0, .string s] (.int .i64 (0 : Nat)) (.int .i64 ea) := by
      by_cases hm : 2 ≤ a0 ∧ a0 ≤ 2147483647
      · obtain ⟨m, rfl⟩ := Int.eq_ofNat_of_zero_le (show 0 ≤ a0 by omega)
        exact ⟨2, Or.inr rfl, fun s hs w => Of_large m s w (by omega) (by omega) (by omega) (by omega)⟩
      · exact ⟨1, Or.inl rfl, fun s _ w => Of_bad a0 s w (by omega)⟩
    have o4 := bad X zX
    rw [hX] at o4
    exact printLinear_core a0 a1 a2 a3 s' t' u' n q w 0 0 0 0 0 0 ea hnb hq' hn' z1 z2 z3 c1 c2 c3 o0 (bad _ z1) (bad _ z2) (bad _ z3) o4 (Or.inr hea)
      (by decide) (by decide) (fun _ => rfl)

end Go.Proofs.Ytabdchehbgchcaa
