import Derived.Test.YtnbdceigenndfaaBase
import Derived.Test.YtnbdceigenndfaaShelf
import Derived.Test.YtnbdceigenndfaaG3
import Derived.Test.YtnbdceigenndfaaUse
/- Bitwise operations of the model on natural numbers that fit. -/
namespace Go.Proofs.Ytnbdceigenndfaa
open Go.RowKit

theorem ofInt64 (a : Nat) (ha : a < 18446744073709551616) : (BitVec.ofInt 64 (a : Int)).toNat = a := by
  rw [BitVec.toNat_ofInt]; omega

theorem i64_xor_nat (a b : Nat) (ha : a < 9223372036854775808) (hb : b < 9223372036854775808) : bits .xor .i64 (a : Int) (b : Int) = ((a ^^^ b : Nat) : Int) := by
  have hx : a ^^^ b < 2 ^ 63 := Nat.xor_lt_two_pow ha hb
  show IntKind.i64.wrap ((BitVec.ofInt 64 (a : Int) ^^^ BitVec.ofInt 64 (b : Int)).toNat : Int) = _
  rw [BitVec.toNat_xor, ofInt64 a (by omega), ofInt64 b (by omega), IntKind.wrap_i64]
  omega

theorem i64_and_nat (a b : Nat) (ha : a < 9223372036854775808) (hb : b < 9223372036854775808) : bits .and .i64 (a : Int) (b : Int) = ((a &&& b : Nat) : Int) := by
  have hx : a &&& b < 2 ^ 63 := Nat.and_lt_two_pow a hb
  show IntKind.i64.wrap ((BitVec.ofInt 64 (a : Int) &&& BitVec.ofInt 64 (b : Int)).toNat : Int) = _
  rw [BitVec.toNat_and, ofInt64 a (by omega), ofInt64 b (by omega), IntKind.wrap_i64]
  omega

theorem i64_or_nat (a b : Nat) (ha : a < 9223372036854775808) (hb : b < 9223372036854775808) : bits .or .i64 (a : Int) (b : Int) = ((a ||| b : Nat) : Int) := by
  have hx : a ||| b < 2 ^ 63 := Nat.or_lt_two_pow ha hb
  show IntKind.i64.wrap ((BitVec.ofInt 64 (a : Int) ||| BitVec.ofInt 64 (b : Int)).toNat : Int) = _
  rw [BitVec.toNat_or, ofInt64 a (by omega), ofInt64 b (by omega), IntKind.wrap_i64]
  omega

theorem i64_and_one (a : Nat) (ha : a < 9223372036854775808) : bits .and .i64 (a : Int) 1 = ((a % 2 : Nat) : Int) := by
  rw [show (1 : Int) = ((1 : Nat) : Int) from rfl, i64_and_nat a 1 ha (by omega), Nat.and_one_is_mod]

theorem shr_nat (b k : Nat) : (b : Int) / 2 ^ k = ((b / 2 ^ k : Nat) : Int) := by
  rw [Int.natCast_ediv, Int.natCast_pow]; rfl

theorem shl_nat (b k : Nat) : (b : Int) * 2 ^ k = ((b * 2 ^ k : Nat) : Int) := by
  rw [Int.natCast_mul, Int.natCast_pow]; rfl

theorem u64_in (n : Nat) (h : n < 18446744073709551616) : IntKind.u64.wrap (n : Int) = n := by
  rw [IntKind.wrap_u64]; omega

end Go.Proofs.Ytnbdceigenndfaa

/- The walks of poly.deg and poly.Over: what they compute, said by plain functions. -/
namespace Go.Proofs.Ytnbdceigenndfaa
open Go.RowKit

theorem bitLen_L (x : Nat) (h : x < 18446744073709551616) : Lib.bitLen x = G.L x := by
  have : ∀ f x, x < 2 ^ f → Lib.bitLenAux f x = G.L x := by
    intro f
    induction f with
    | zero => intro x hx; obtain rfl : x = 0 := by simpa using hx
              rfl
    | succ f ih =>
      intro x hx
      rw [Lib.bitLenAux]
      by_cases h0 : x = 0
      · subst h0; rfl
      · rw [if_neg h0, ih (x / 2) (by rw [Nat.pow_succ] at hx; omega), G.L_half h0, Nat.add_comm]
  exact this 64 x h

set_option maxHeartbeats 400000 in
theorem deg_any (a : Nat) (w : World) (h : a < 18446744073709551616) :
    Calls Try.prog 37 #[.int .u64 a] w fun e w' => e = .returned (.int .i64 ((G.L a : Int) - 1)) ∧ w = w' := by
  have hl : G.L a ≤ 64 := G.L_le.2 h
  have hb := bitLen_L a h
  have HB := Lib.hid hb; clear hb
  have HA : Hid ((a : Int) ≤ 18446744073709551615) := Lib.hid (by omega)
  clear h
  go_enter Try.func37, Try.ntmps37
  go_wp2_with fail
  refine (Try.bits_Len64 a _ (by omega) HA.out).mono ?_
  rintro e w' ⟨rfl, rfl⟩
  rw [Int.toNat_natCast, HB.out]
  go_wp2_with fail
  go_ret
  exact ⟨rfl, rfl⟩

theorem over_s {A b : Nat} (hA : A < 9223372036854775808) (hb : b ≠ 0) (hc : G.L b ≤ G.L A) : 2 ^ (G.L A - G.L b) * b < 9223372036854775808 ∧ 2 ^ (G.L A - G.L b) < 9223372036854775808 := by
  have hl : G.L A ≤ 63 := G.L_le.2 hA
  have hp := G.L_pos.2 hb
  have h1 : 2 ^ (G.L A - G.L b) * b < 2 ^ 63 := G.L_le.1 (by rw [G.L_pow_mul _ _ hb]; omega)
  have h2 : 2 ^ (G.L A - G.L b) < 2 ^ 63 := G.L_le.1 (by rw [G.L_pow]; omega)
  exact ⟨h1, h2⟩

theorem over_a {A b : Nat} (hA : A < 9223372036854775808) (hb : b ≠ 0) (hc : G.L b ≤ G.L A) : A ^^^ 2 ^ (G.L A - G.L b) * b < 9223372036854775808 :=
  Nat.xor_lt_two_pow (n := 63) hA (over_s hA hb hc).1

theorem over_q {A Q b : Nat} (hA : A < 9223372036854775808) (hQ : Q < 9223372036854775808) (hb : b ≠ 0) (hc : G.L b ≤ G.L A) : Q ||| 2 ^ (G.L A - G.L b) < 9223372036854775808 :=
  Nat.or_lt_two_pow (n := 63) hQ (over_s hA hb hc).2

theorem over_na {A b : Nat} (hA : A < 9223372036854775808) (hb : b ≠ 0) (hc : G.L b ≤ G.L A) :
    bits .xor .u64 (A : Int) (IntKind.u64.wrap ((b : Int) * 2 ^ (G.L A - 1 - (G.L b - 1)))) = ((A ^^^ 2 ^ (G.L A - G.L b) * b : Nat) : Int) := by
  have hp := G.L_pos.2 hb
  have h := over_s hA hb hc
  rw [show G.L A - 1 - (G.L b - 1) = G.L A - G.L b from by omega, shl_nat, Nat.mul_comm b, u64_in _ (by omega), bits_xor_u64_nat _ _ (by omega) (by omega)]

theorem over_nq {A Q b : Nat} (hA : A < 9223372036854775808) (hQ : Q < 9223372036854775808) (hb : b ≠ 0) (hc : G.L b ≤ G.L A) :
    bits .or .u64 (Q : Int) (IntKind.u64.wrap ((2 : Int) ^ (G.L A - 1 - (G.L b - 1)))) = ((Q ||| 2 ^ (G.L A - G.L b) : Nat) : Int) := by
  have hp := G.L_pos.2 hb
  have h := over_s hA hb hc
  have e : (2 : Int) ^ (G.L A - G.L b) = ((2 ^ (G.L A - G.L b) : Nat) : Int) := by rw [Int.natCast_pow]; rfl
  rw [show G.L A - 1 - (G.L b - 1) = G.L A - G.L b from by omega, e, u64_in _ (by omega), bits_or_u64_nat _ _ (by omega) (by omega)]

set_option maxHeartbeats 1000000 in
theorem over_any (a b : Nat) (w : World) (ha : a < 9223372036854775808) (hb0 : b ≠ 0) (hb : b ≤ 2147483647) :
    Calls Try.prog 39 #[.int .u64 a, .int .i64 b] w fun e w' => e = .returned (.tuple #[.int .u64 (G.qt a b), .int .u64 (G.md a b)]) ∧ w = w' := by
  have hp : 0 < G.L b := G.L_pos.2 hb0
  have hlb : G.L b ≤ 31 := G.L_le.2 (by omega)
  have HA := Lib.hid ha; clear ha
  have HB := Lib.hid hb0; clear hb0
  go_enter Try.func39, Try.ntmps39
  go_wp2_with fail
  refine (deg_any b _ (by omega)).mono ?_
  rintro e w' ⟨rfl, rfl⟩
  go_wp2_with fail
  go_loop [0, 6, 8] (fun x q _ => ∃ A Q : Nat, Hid (A < 9223372036854775808) ∧ Hid (Q < 9223372036854775808) ∧ x = .int .u64 A ∧ q = .int .u64 Q ∧ Hid (G.overF b (G.L A) Q A = G.over a b)) (fun x _ _ => G.L (intOf x).toNat)
  case atStart => exact ⟨a, 0, HA, Lib.hid (by omega), rfl, rfl, Lib.hid rfl⟩
  case round =>
    obtain ⟨A, Q, hA, hQ, rfl, rfl, hO⟩ := hrel
    have hlA : G.L A ≤ 63 := G.L_le.2 hA.out
    by_cases hc : G.L b ≤ G.L A
    · have N1 := Lib.hid (over_a hA.out HB.out hc)
      have N2 := Lib.hid (over_q (Q := Q) hA.out hQ.out HB.out hc)
      have N3 := Lib.hid (over_na hA.out HB.out hc)
      have N4 := Lib.hid (over_nq (Q := Q) hA.out hQ.out HB.out hc)
      have N5 := Lib.hid ((G.overF_step b Q A HB.out hc).symm.trans hO.out)
      have N6 := Lib.hid (G.step_L HB.out hc)
      go_wp2_with fail
      refine (deg_any A _ (by have := hA.out; omega)).mono ?_
      rintro e w' ⟨rfl, rfl⟩
      go_wp2_with fail
      refine (deg_any A _ (by have := hA.out; omega)).mono ?_
      rintro e w' ⟨rfl, rfl⟩
      go_wp2_with fail
      go_round
      case rel => exact ⟨_, _, N1, N2, congrArg (Value.int .u64) N3.out, congrArg (Value.int .u64) N4.out, N5⟩
      case measure => rw [N3.out]; exact N6.out
    · go_wp2_with fail
      refine (deg_any A _ (by have := hA.out; omega)).mono ?_
      rintro e w' ⟨rfl, rfl⟩
      go_wp2_with fail
      go_ret2
      have h := hO.out
      rw [G.overF_end _ _ _ hc] at h
      unfold G.qt G.md
      rw [← h]
      exact ⟨rfl, rfl⟩

theorem md_le {a m : Nat} (h0 : m ≠ 0) (hm : m ≤ 2147483647) : G.md a m ≤ 2147483647 := by
  have h1 := G.L_md a h0
  have h2 : G.L m ≤ 31 := G.L_le.2 (by omega)
  have h3 : G.md a m < 2 ^ 31 := G.L_le.1 (by omega)
  omega

/-- A quotient is no longer than what is divided. -/
theorem qt_le {a b k : Nat} (h0 : b ≠ 0) (ha : a < 2 ^ k) : G.qt a b < 2 ^ k := by
  have h1 := G.qt_md a h0
  have h2 := G.L_md a h0
  by_cases hq : G.qt a b = 0
  · rw [hq]; exact Nat.two_pow_pos k
  · have h3 := G.L_mul _ _ hq h0
    have hp := G.L_pos.2 h0
    have h4 : G.L (G.md a b) < G.L (G.mul (G.qt a b) b) := by have := G.L_pos.2 hq; omega
    have h5 := G.L_xor_of_gt h4
    rw [h1] at h5
    have h6 : G.L a ≤ k := G.L_le.2 ha
    exact G.L_le.1 (by omega)

end Go.Proofs.Ytnbdceigenndfaa

/- Prints of texts, plain facts: a text as a polynomial, its rest by a modulus. No program in sight. -/
namespace Go.Proofs.Ytnbdceigenndfaa.G

/-- Bytes pushed, the rest taken at once. -/
def psh (m p : Nat) (l : List UInt8) : Nat := l.foldl (fun p c => md (256 * p ^^^ c.toNat) m) p
/-- .. no rest taken. -/
def V (p : Nat) (l : List UInt8) : Nat := l.foldl (fun p c => 256 * p ^^^ c.toNat) p
/-- The print. -/
def print (m : Nat) (l : List UInt8) : Nat := psh m (md 1 m) l

theorem psh_nil (m p : Nat) : psh m p [] = p := rfl
theorem psh_cons (m p : Nat) (c : UInt8) (l : List UInt8) : psh m p (c :: l) = psh m (md (256 * p ^^^ c.toNat) m) l := rfl
theorem psh_snoc (m p : Nat) (l : List UInt8) (c : UInt8) : psh m p (l ++ [c]) = md (256 * psh m p l ^^^ c.toNat) m := by
  unfold psh; rw [List.foldl_append]; rfl
theorem V_cons (p : Nat) (c : UInt8) (l : List UInt8) : V p (c :: l) = V (256 * p ^^^ c.toNat) l := rfl
theorem V_append (p : Nat) (l k : List UInt8) : V p (l ++ k) = V (V p l) k := by unfold V; rw [List.foldl_append]
theorem V_snoc (p : Nat) (l : List UInt8) (c : UInt8) : V p (l ++ [c]) = 256 * V p l ^^^ c.toNat := by rw [V_append]; rfl

theorem mul_256 (p : Nat) : mul p 256 = 256 * p := mul_pow p 8

theorem md_step (p c : Nat) {m : Nat} (hm : m ≠ 0) : md (256 * md p m ^^^ c) m = md (256 * p ^^^ c) m := by
  rw [md_xor _ _ hm, md_xor _ _ hm, ← mul_256, ← mul_256, md_mul_left _ _ hm]

theorem psh_V (l : List UInt8) (p : Nat) {m : Nat} (hm : m ≠ 0) : psh m (md p m) l = md (V p l) m := by
  induction l generalizing p with
  | nil => rfl
  | cons c l ih => rw [psh_cons, V_cons, md_step _ _ hm, ih]

theorem print_V (l : List UInt8) {m : Nat} (hm : m ≠ 0) : print m l = md (V 1 l) m := psh_V l 1 hm

theorem print_append (l k : List UInt8) {m : Nat} (hm : m ≠ 0) : print m (l ++ k) = md (V (V 1 l) k) m := by
  rw [print_V _ hm, V_append]

theorem V_lin (l : List UInt8) (p q : Nat) : V (p ^^^ q) l = V p l ^^^ 2 ^ (8 * l.length) * q := by
  induction l generalizing p q with
  | nil => show p ^^^ q = p ^^^ 2 ^ 0 * q; rw [Nat.pow_zero, Nat.one_mul]
  | cons c l ih =>
    rw [V_cons, V_cons, List.length_cons]
    have e : 256 * (p ^^^ q) ^^^ c.toNat = (256 * p ^^^ c.toNat) ^^^ 256 * q := by
      have := pow_xor 8 p q
      rw [show (2 : Nat) ^ 8 = 256 from rfl] at this
      rw [this, Nat.xor_assoc, Nat.xor_comm (256 * q), ← Nat.xor_assoc]
    rw [e, ih, show 8 * (l.length + 1) = 8 * l.length + 8 from by omega, Nat.pow_add, Nat.mul_assoc]

theorem V_split (l : List UInt8) (p : Nat) : V p l = 2 ^ (8 * l.length) * p ^^^ V 0 l := by
  have := V_lin l 0 p
  rw [Nat.zero_xor] at this
  rw [this, Nat.xor_comm]

theorem V0_lt (l : List UInt8) : V 0 l < 2 ^ (8 * l.length) := by
  have : ∀ (l : List UInt8) (p k : Nat), p < 2 ^ k → V p l < 2 ^ (k + 8 * l.length) := by
    intro l
    induction l with
    | nil => intro p k h; exact h
    | cons c l ih =>
      intro p k h
      rw [V_cons, List.length_cons]
      have h1 : 256 * p < 2 ^ (k + 8) := by rw [Nat.pow_add]; omega
      have h2 : c.toNat < 2 ^ (k + 8) := Nat.lt_of_lt_of_le c.toNat_lt (Nat.pow_le_pow_right (n := 2) (i := 8) (by omega) (by omega))
      have := ih (256 * p ^^^ c.toNat) (k + 8) (Nat.xor_lt_two_pow h1 h2)
      rw [show k + 8 * (l.length + 1) = k + 8 + 8 * l.length from by omega]
      exact this
  have := this l 0 0 (by simp)
  rwa [Nat.zero_add] at this

/-- x, 8 n times. -/
theorem pw_two_eq (n : Nat) : pw 2 n = 2 ^ n := by
  induction n with
  | zero => rfl
  | succ n ih =>
    show mul (pw 2 n) 2 = _
    have h := mul_pow (2 ^ n) 1
    rw [Nat.pow_one] at h
    rw [ih, h, Nat.pow_succ, Nat.mul_comm]

/-- Joined: the print of two texts out of their prints and the second's length. -/
theorem print_join (s t : List UInt8) {m : Nat} (hm : m ≠ 0) :
    print m (s ++ t) = md (mul (print m s) (md (pw 2 (8 * t.length)) m)) m ^^^ print m t ^^^ md (pw 2 (8 * t.length)) m := by
  rw [print_append _ _ hm, V_split t (V 1 s), md_xor _ _ hm, print_V s hm, md_mul_both _ _ hm, pw_two_eq, mul_pow, print_V t hm, V_split t 1, Nat.mul_one, md_xor _ _ hm]
  generalize md (2 ^ (8 * t.length) * V 1 s) m = x; generalize md (V 0 t) m = y; generalize md (2 ^ (8 * t.length)) m = z
  rw [Nat.xor_assoc, Nat.xor_comm (z ^^^ y), xor_cancel]

theorem print_lt (l : List UInt8) {m : Nat} (hm : m ≠ 0) : L (print m l) < L m := by
  rw [print_V l hm]; exact L_md _ hm

end Go.Proofs.Ytnbdceigenndfaa.G

/- The walks of print.push and print.Plain. -/
namespace Go.Proofs.Ytnbdceigenndfaa
open Go.RowKit

theorem take_one (l : List UInt8) (k : Nat) (h : k < l.length) : l.take (k + 1) = l.take k ++ [l[k]] := by
  rw [List.take_succ_eq_append_getElem h]

theorem bt_get (l : List UInt8) (k : Nat) (h : k < l.length) : bt l k = ((l[k]).toNat : Int) := by
  unfold bt; rw [getD_in _ _ _ h]

theorem or_xor (p c : Nat) (hc : c < 256) : p * 256 ||| c = 256 * p ^^^ c := by
  rw [Nat.mul_comm p 256]
  apply Nat.eq_of_testBit_eq
  intro i
  rw [Nat.testBit_or, Nat.testBit_xor]
  by_cases hi : i < 8
  · have : (2 ^ 8 * p).testBit i = false := by
      rw [Nat.testBit_two_pow_mul, decide_eq_false (by omega)]; rfl
    have h : (256 * p).testBit i = false := this
    rw [h]; simp
  · have : c.testBit i = false := Nat.testBit_lt_two_pow (Nat.lt_of_lt_of_le hc (Nat.pow_le_pow_right (n := 2) (i := 8) (by omega) (by omega)))
    rw [this]; simp

set_option maxHeartbeats 1000000 in
theorem push_any (p m : Nat) (s : ByteArray) (w : World) (hp : p ≤ 2147483647) (hm : m ≤ 2147483647) (h0 : m ≠ 0) (hs : s.size ≤ maxLen) :
    Calls Try.prog 40 #[.int .i64 p, .string s, .int .i64 m] w fun e w' => e = .returned (.int .i64 (G.psh m p s.data.toList)) ∧ w = w' := by
  unfold maxLen at hs
  have H := Lib.hid h0; clear h0
  have hl : s.data.toList.length = s.size := by simp
  have HL := Lib.hid hl; clear hl
  go_enter Try.func40, Try.ntmps40
  go_wp2_with fail
  go_loop [0, 12] (fun x i => ∃ k P : Nat, k ≤ s.size ∧ P ≤ 2147483647 ∧ i = .int .i64 k ∧ x = .int .i64 P ∧ Hid (P = G.psh m p (s.data.toList.take k))) (fun _ i => s.size - (intOf i).toNat)
  case atStart => exact ⟨0, p, by omega, hp, rfl, rfl, Lib.hid rfl⟩
  case round =>
    obtain ⟨k, P, hk, hP, rfl, rfl, hH⟩ := hrel
    by_cases hlt : k < s.size
    · have x1 := idx_str Try.underlying9 (s := s) (x := (k : Int)) (k := k) rfl hlt
      have hkl : k < s.data.toList.length := by rw [HL.out]; exact hlt
      have hb := bt_get s.data.toList k hkl
      have hlt256 : (s.data.toList[k]).toNat < 256 := UInt8.toNat_lt _
      have HN : Hid (G.md (256 * P ^^^ (s.data.toList[k]).toNat) m = G.psh m p (s.data.toList.take (k + 1))) := Lib.hid (by rw [take_one _ _ hkl, G.psh_snoc, ← hH.out])
      generalize (s.data.toList[k]).toNat = c at *
      rw [hb] at x1
      have hor : bits .or .u64 ((P : Int) * 256) (c : Int) = ((256 * P ^^^ c : Nat) : Int) := by
        rw [show (P : Int) * 256 = ((P * 256 : Nat) : Int) from by omega, bits_or_u64_nat _ _ (by omega) (by omega), or_xor P c hlt256]
      have hov : 256 * P ^^^ c < 2 ^ 40 := Nat.xor_lt_two_pow (by omega) (by omega)
      have hR : G.md (256 * P ^^^ c) m ≤ 2147483647 := md_le H.out hm
      have OV : ∀ w, Calls Try.prog 39 #[.int .u64 (256 * P ^^^ c : Nat), .int .i64 m] w fun e w' => e = .returned (.tuple #[.int .u64 (G.qt (256 * P ^^^ c) m), .int .u64 (G.md (256 * P ^^^ c) m)]) ∧ w = w' :=
        fun w => over_any _ m w (by omega) H.out (by omega)
      have HOV := Lib.hid OV; clear OV
      generalize G.qt (256 * P ^^^ c) m = q at *
      generalize G.md (256 * P ^^^ c) m = r at *
      generalize 256 * P ^^^ c = y at *
      clear hb hkl
      go_wp2_with fail
      refine (HOV.out _).mono ?_
      rintro e w' ⟨rfl, rfl⟩
      go_wp2_with fail
      go_round
      case rel => exact ⟨k + 1, r, by omega, by omega, by go_num, rfl, HN⟩
      case measure => simp [intOf]; omega
    · obtain rfl : k = s.size := by omega
      go_wp2_with fail
      go_ret
      exact ⟨by have h := hH.out; rw [List.take_of_length_le (by rw [HL.out]; omega)] at h; rw [← h]; rfl, rfl⟩

set_option maxHeartbeats 400000 in
theorem Plain_any (m : Nat) (s : ByteArray) (w : World) (hm : m ≤ 2147483647) (h0 : m ≠ 0) (hs : s.size ≤ maxLen) :
    Calls Try.prog 31 #[.int .i64 m, .string s] w fun e w' => e = .returned (.int .i64 (G.print m s.data.toList)) ∧ w = w' := by
  have h1 : G.md 1 m ≤ 2147483647 := md_le h0 hm
  have H := Lib.hid h0; clear h0
  have HS := Lib.hid hs; clear hs
  have OV : Hid (∀ w, Calls Try.prog 39 #[.int .u64 1, .int .i64 m] w fun e w' => e = .returned (.tuple #[.int .u64 (G.qt 1 m), .int .u64 (G.md 1 m)]) ∧ w = w') :=
    Lib.hid (fun w => over_any 1 m w (by omega) H.out hm)
  go_enter Try.func31, Try.ntmps31
  go_wp2_with fail
  refine (OV.out _).mono ?_
  rintro e w' ⟨rfl, rfl⟩
  go_wp2_with fail
  refine (push_any (G.md 1 m) m s _ h1 hm H.out HS.out).mono ?_
  rintro e w' ⟨rfl, rfl⟩
  go_wp2_with fail
  go_ret
  exact ⟨rfl, rfl⟩

end Go.Proofs.Ytnbdceigenndfaa
