/- BoxRuns: a text that repeats itself is short; what was there stands below. -/
import Derived.Test.YtdmfgdhfkceihaaDoorBoxW2
import Derived.Test.YtdmfgdhfkceihaaDoorShut
namespace Go.Proofs.YtdmfgdhfkceihaaDoor
open Go.RowKit Go.Shelf

theorem per_rep {l : List UInt8} : ∀ n, Bx.Per (Lib.repeatL l n) l.length
  | 0 => fun i _ h => absurd h (by show ¬ (i < 0); omega)
  | n + 1 => fun i h1 h2 => by
    have ih := per_rep (l := l) n
    have e : Lib.repeatL l (n + 1) = l ++ Lib.repeatL l n := rfl
    rw [e] at h2 ⊢
    rw [List.length_append] at h2
    rw [List.getElem?_append_right h1]
    by_cases h3 : i - l.length < l.length
    · rw [List.getElem?_append_left h3]
      cases n with
      | zero => have : (Lib.repeatL l 0).length = 0 := rfl; omega
      | succ n =>
        rw [show Lib.repeatL l (n + 1) = l ++ Lib.repeatL l n from rfl, List.getElem?_append_left h3]
    · rw [List.getElem?_append_right (by omega)]
      exact ih (i - l.length) (by omega) (by omega)

theorem Shut_e (w : World) : Calls Tryd.prog 14 #[.string ⟨#[]⟩] w fun e w' => e = .returned (.tuple #[.string ⟨#[0]⟩, .int .i64 0]) ∧ Below w.heap.size w w' :=
  Shut_ok ⟨#[]⟩ ⟨#[0]⟩ w (by decide) (by kernel_rfl)

set_option maxRecDepth 100000 in
set_option maxHeartbeats 4000000 in
theorem bruns_core (s S : ByteArray) (x : Int) (p k n m P8 Q8 M64 : Nat) (R Z : ByteArray) (w : World)
    (hmin : min (s.size : Int) 8 = p) (hp8 : p ≤ 8)
    (hsl : ∀ w, (Instr.slice 9 (.string s) none (some (.int .i64 p)) none).run Tryd.prog w = .ok (.string S) w) (hSs : S.size = p)
    (hk : wi x 60 = k) (hk60 : k < 60) (hn : (1 : Int) + k = n)
    (R1 : ∀ w, Calls Tryd.prog 16 #[.string S, .int .i64 n] w fun e w' => e = .returned (.string R) ∧ Below w.heap.size w w')
    (S1 : ∀ w, Calls Tryd.prog 14 #[.string R] w fun e w' => e = .returned (.tuple #[.string Z, .int .i64 0]) ∧ Below w.heap.size w w')
    (h9 : (p : Int) * 9 = P8) (h9q : Int.tdiv (P8 : Int) 8 = Q8) (hm : (p : Int) * n = m) (hmq : Int.tdiv (m : Int) 64 = M64) (hZ : Z.size ≤ 1 + Q8 + 2 + 4 * (1 + M64)) (hq : Q8 ≤ 1000) (hq2 : M64 ≤ 1000) (hm5 : m ≤ 1000) :
    Calls Tryd.prog 4 #[.string s, .int .i64 x] w fun e w' => e = .returned (.bool true) ∧ Below w.heap.size w w' := by
  have W1 : ∀ w, Calls Tryd.prog 15 #[.int .i64 x, .int .i64 60] w fun e w' => e = .returned (.int .i64 (k : Int)) ∧ w = w' := fun w => by
    have := within_any x 60 60 w rfl (by omega) (by omega)
    rwa [hk] at this
  clear hk
  go_enter Tryd.func4, Tryd.ntmps4
  go_wp2_with fail
  with_reducible refine (Shut_e _).mono ?_
  rintro e w1 ⟨rfl, hb1⟩
  have HB1 := Lib.hid hb1
  clear hb1
  go_wp2_with fail
  with_reducible refine (W1 _).mono ?_
  rintro e w2 ⟨rfl, rfl⟩
  clear W1
  go_wp2_with fail
  with_reducible refine (R1 _).mono ?_
  rintro e w3 ⟨rfl, hb3⟩
  have HB3 := Lib.hid (HB1.out.trans (hb3.mono HB1.out.size))
  clear hb3 HB1 R1
  go_wp2_with fail
  with_reducible refine (S1 _).mono ?_
  rintro e w4 ⟨rfl, hb4⟩
  have HB4 := Lib.hid (HB3.out.trans (hb4.mono HB3.out.size))
  clear hb4 HB3 S1
  go_wp2_with fail
  go_ret
  exact ⟨by first | rfl | (simp; done) | (simp; omega), HB4.out⟩

theorem boxRuns_walk (s : ByteArray) (x : Int) (_ : s.size ≤ maxLen) (_ : (Lit.int .i64 x).wf = true) (w : World) :
    Calls Tryd.prog 4 #[.string s, .int .i64 x] w fun e w' => e = .returned (.bool true) ∧ Below w.heap.size w w' := by
  obtain ⟨p, hp⟩ : ∃ p, p = min s.size 8 := ⟨_, rfl⟩
  have hk60 := wi_lt x 60 (by omega)
  have hSs : (s.extract 0 p).size = p := by rw [ByteArray.size_extract]; omega
  have hSl : (s.extract 0 p).data.toList.length = p := by rw [Array.length_toList]; exact hSs
  have hm480 : p * (1 + wi x 60) ≤ 8 * 60 := Nat.mul_le_mul (by omega) (by omega)
  have hRl : (Lib.repeatL (s.extract 0 p).data.toList (1 + wi x 60)).length = p * (1 + wi x 60) := by rw [Lib.repeatL_length, hSl, Nat.mul_comm]
  obtain ⟨R, hR⟩ : ∃ R : ByteArray, R = ⟨(Lib.repeatL (s.extract 0 p).data.toList (1 + wi x 60)).toArray⟩ := ⟨_, rfl⟩
  have hRd : R.data.toList = Lib.repeatL (s.extract 0 p).data.toList (1 + wi x 60) := by rw [hR]
  have hRs : R.size = p * (1 + wi x 60) := by rw [size_of_list hRd, hRl]
  obtain ⟨Z, hZ⟩ : ∃ Z : ByteArray, Z.data.toList = Bx.sh R.data.toList := ⟨⟨(Bx.sh R.data.toList).toArray⟩, by simp⟩
  have hper := per_rep (l := (s.extract 0 p).data.toList) (1 + wi x 60)
  rw [hSl] at hper
  have hb := Bx.sh_per (p := p) (n := 1 + wi x 60) hper (by omega) (by omega) hRl (by omega)
  rw [← hRd, ← size_of_list hZ] at hb
  have h1 : p * 9 / 8 ≤ 9 := by omega
  have h2 : p * (1 + wi x 60) / 64 ≤ 480 := by omega
  have hS1 := fun w => Shut_ok R Z w (by omega) hZ
  have hR1 : ∀ w, Calls Tryd.prog 16 #[.string (s.extract 0 p), .int .i64 ((1 + wi x 60 : Nat) : Int)] w fun e w' => e = .returned (.string R) ∧ Below w.heap.size w w' := fun w => by
    have := Tryd.strings_Repeat (s.extract 0 p) (1 + wi x 60) w (by omega) (by rw [hSs]; omega)
    rwa [← hR] at this
  exact bruns_core s (s.extract 0 p) x p (wi x 60) (1 + wi x 60) (p * (1 + wi x 60)) (p * 9) (p * 9 / 8) (p * (1 + wi x 60) / 64) R Z w
    (by omega) (by omega) (sl_toP Tryd.underlying9 rfl (by omega)) hSs rfl hk60 (by omega) hR1 hS1 (by omega)
    (by rw [Int.tdiv_eq_ediv_of_nonneg (by omega)]; omega) (Int.natCast_mul _ _).symm (by rw [Int.tdiv_eq_ediv_of_nonneg (by omega)]; omega) hb (by omega) (by omega) (by omega)

end Go.Proofs.YtdmfgdhfkceihaaDoor
