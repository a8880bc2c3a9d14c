/- The walk of tree.Verify, whatever the steps are. -/
import Derived.Test.YtenkdpogdfcbgaaBindsP
import Derived.Test.YtenkdpogdfcbgaaTreeW4
namespace Go.Proofs.Ytenkdpogdfcbgaa
open Go.RowKit

/-- Steps lie there, whatever they say. -/
def StepsZ (w : World) : Option Addr → List (Bool × Int) → Prop
  | _, [] => True
  | a, (b, s) :: r => ∃ g o sp, a = some ⟨g, o, sp⟩ ∧ w.cell? ⟨g, o, sp⟩ = some (.bool b) ∧ w.cell? ⟨g, o + 1, none⟩ = some (.int .i64 s) ∧ StepsZ w (some ⟨g, o + 2, none⟩) r

theorem StepsZ.keep {w w' : World} (hb : Below w.heap.size w w') : ∀ {st : List (Bool × Int)} {a : Option Addr}, StepsZ w a st → StepsZ w' a st
  | [], _, _ => trivial
  | (b, s) :: r, a, ⟨g, o, sp, ha, h1, h2, h3⟩ => ⟨g, o, sp, ha, by rw [hb.cell (World.block_lt_of_cell? w _ h1)]; exact h1, by rw [hb.cell (World.block_lt_of_cell? w _ h2)]; exact h2, StepsZ.keep hb h3⟩

/-- Steps that are prints' ones. -/
def stz (l : List (Bool × Nat)) : List (Bool × Int) := l.map fun t => (t.1, (t.2 : Int))

/-- Steps, as they came, are a right way. -/
def WayZ (r n i p : Nat) (st : List (Bool × Int)) : Prop := ∃ l, st = stz l ∧ Bn.Way r n i p l

theorem wayZ_one {r n i : Nat} (h : n ≤ 1) : WayZ r n i r [] := ⟨[], rfl, by rw [Bn.sides_one h]; rfl, (fun t ht => nomatch ht), rfl⟩

theorem wayZ_in {r n i p x : Nat} {b : Bool} {st : List (Bool × Int)} (hn : 1 < n) (hs : Tr.sib i < n) (hb : b = decide (Tr.sib i < i)) (hx : x ≤ 2147483647) (h : WayZ r ((n + 1) / 2) (i / 2) (Tr.pr (Bn.str b x p)) st) : WayZ r n i p ((b, (x : Int)) :: st) := by
  obtain ⟨l, rfl, h1, h2, h3⟩ := h
  refine ⟨(b, x) :: l, rfl, ?_, ?_, h3⟩
  · rw [Bn.sides_in hn hs, List.map_cons, h1, hb]
  · intro t ht
    rcases List.mem_cons.1 ht with rfl | ht
    · exact hx
    · exact h2 t ht

theorem wayZ_out {r n i p : Nat} {st : List (Bool × Int)} (hn : 1 < n) (hs : ¬ Tr.sib i < n) (h : WayZ r ((n + 1) / 2) (i / 2) p st) : WayZ r n i p st := by
  obtain ⟨l, rfl, h1, h2, h3⟩ := h
  exact ⟨l, rfl, by rw [Bn.sides_out hn hs, h1], h2, h3⟩

/-- What Verify leaves. -/
def VerTo (w : World) (r n i p : Nat) (st : List (Bool × Int)) (e : Ending) (w' : World) : Prop := ∃ v, e = .returned (.tuple #[.bool v, .int .i64 0]) ∧ (v = true → WayZ r n i p st) ∧ Below w.heap.size w w'

theorem verTo_no {w w' : World} {r n i p : Nat} {st : List (Bool × Int)} (hb : Below w.heap.size w w') : VerTo w r n i p st (.returned (.tuple #[.bool false, .int .i64 0])) w' := ⟨false, rfl, (fun h => nomatch h), hb⟩
theorem verTo_yes {w w' : World} {r n i p : Nat} {st : List (Bool × Int)} (h : WayZ r n i p st) (hb : Below w.heap.size w w') : VerTo w r n i p st (.returned (.tuple #[.bool true, .int .i64 0])) w' := ⟨true, rfl, fun _ => h, hb⟩

set_option maxRecDepth 100000 in
set_option maxHeartbeats 8000000 in
theorem Verify_any (r n0 i0 : Nat) (s : ByteArray) (st0 : List (Bool × Int)) (a0 : Option Addr) (m0 c0 : Nat) (w : World) (hn1 : 1 ≤ n0) (hn0 : n0 ≤ 32) (hi0 : i0 < n0) (hs : s.size ≤ 64) (hm0 : st0.length = m0) (hc0 : m0 ≤ c0) (hcm : c0 ≤ maxLen) (hst : StepsZ w a0 st0) :
    Calls Try.prog 29 #[.int .i64 r, .int .i64 n0, .int .i64 i0, .string s, .slice a0 m0 c0] w (VerTo w r n0 i0 (Tr.leaf s.data.toList) st0) := by
  unfold maxLen at hcm
  obtain ⟨S, hS⟩ : ∃ S, S = (⟨#[108]⟩ : ByteArray) ++ s := ⟨_, rfl⟩
  have hSl : S.data.toList = 108 :: s.data.toList := by rw [hS]; simp
  have hSs : S.size = 1 + s.size := by rw [hS, ByteArray.size_append]; rfl
  obtain ⟨p0, hp0⟩ : ∃ p0, Tr.leaf s.data.toList = p0 := ⟨_, rfl⟩
  have PL : Ans1 101 #[.int .i64 1073741907, .string S] (.int .i64 p0) := fun w => by
    rw [← hp0]
    have := Plain_any 1073741907 S w (by omega) (by omega) (by rw [hSs]; unfold maxLen; omega)
    rw [hSl] at this
    exact this
  have hple : p0 ≤ 2147483647 := by rw [← hp0]; exact pr_le _
  rw [hp0]
  rw [hS] at PL
  have HM0 := Lib.hid hm0; have HST := Lib.hid hst
  have d1 : decide ((n0 : Int) < 1) = false := decide_eq_false (by omega)
  have d2 : decide ((32 : Int) < (n0 : Int)) = false := decide_eq_false (by omega)
  have d3 : decide ((i0 : Int) < 0) = false := decide_eq_false (by omega)
  have d4 : decide ((n0 : Int) ≤ (i0 : Int)) = false := decide_eq_false (by omega)
  have d5 : decide ((64 : Int) < (s.size : Int)) = false := decide_eq_false (by omega)
  clear hm0 hst hS hSl hSs hp0
  go_enter Try.func29, Try.ntmps29
  go_wp2_with fail
  with_reducible refine PL.use ?_
  rintro e w' ⟨rfl, rfl⟩
  go_wp2_with fail
  go_loopw [1, 2, 4, 12] (fun vn vi vp vq wr => ∃ (p n i m c : Nat) (st : List (Bool × Int)) (a : Option Addr), vn = .int .i64 n ∧ vi = .int .i64 i ∧ vp = .slice a m c ∧ vq = .int .i64 p ∧ 1 ≤ n ∧ n ≤ 32 ∧ i < n ∧ p ≤ 2147483647 ∧ Hid (st.length = m) ∧ m ≤ c ∧ c ≤ c0 ∧
      Hid (StepsZ w a st) ∧ Hid (WayZ r n i p st → WayZ r n0 i0 p0 st0) ∧ Hid (Below w.heap.size w wr)) (fun vn _ _ _ _ => (intOf vn).toNat)
  case atStart => exact ⟨p0, n0, i0, m0, c0, st0, a0, rfl, rfl, rfl, rfl, hn1, hn0, hi0, hple, HM0, hc0, Nat.le_refl _, HST, Lib.hid fun h => h, Lib.hid (Below.refl _ _)⟩
  case round =>
    obtain ⟨p, n, i, m, c, st, a, rfl, rfl, rfl, rfl, hnn, hn, hi, hp, hm, hmc, hcc, hst, hW, hB⟩ := hrel
    by_cases hgo : 1 < n
    · have hx := sib_xor i (by omega)
      have hsib := Tr.sib_le i
      obtain ⟨i', hi'⟩ : ∃ i', i' = i / 2 := ⟨_, rfl⟩
      obtain ⟨n', hn'⟩ : ∃ n', n' = (n + 1) / 2 := ⟨_, rfl⟩
      have t1 : Int.tdiv (i : Int) 2 = (i' : Int) := by rw [Int.tdiv_eq_ediv_of_nonneg (by omega)]; omega
      have t2 : (i : Int) / 2 = (i' : Int) := by omega
      have t3 : Int.tdiv ((n : Int) + 1) 2 = (n' : Int) := by rw [Int.tdiv_eq_ediv_of_nonneg (by omega)]; omega
      have t4 : ((n : Int) + 1) / 2 = (n' : Int) := by omega
      have hin' : i' < n' ∧ n' ≤ 32 ∧ n' < n ∧ 1 ≤ n' := by omega
      obtain ⟨hin1, hin2, hin3, hin4⟩ := hin'
      have HI := Lib.hid hi'; have HN := Lib.hid hn'
      obtain ⟨z, hz⟩ : ∃ z, z = Tr.sib i := ⟨_, rfl⟩
      rw [← hz] at hx hsib
      have HZ := Lib.hid hz
      have hbsz := hB.out.size
      clear hi' hn' hz
      by_cases hzin : z < n
      · rcases st with _ | ⟨⟨b, sm⟩, rest⟩
        · obtain rfl : m = 0 := by rw [← hm.out]; rfl
          clear hx
          have hx := sib_xor i (by omega)
          rw [← HZ.out] at hx
          go_wp2_with fail
          go_ret2
          exact verTo_no hB.out
        · obtain ⟨g, o, sp, rfl, k1, k2, htl⟩ := hst.out
          obtain ⟨m', rfl⟩ : ∃ m', m = m' + 1 := ⟨rest.length, by rw [← hm.out]; rfl⟩
          have hm' : Hid (rest.length = m') := Lib.hid (by have := hm.out; rw [List.length_cons] at this; omega)
          have C1 := (hB.out.cell (World.block_lt_of_cell? w _ k1)).trans k1
          have C2 := (hB.out.cell (World.block_lt_of_cell? w _ k2)).trans k2
          have HTL : Hid (StepsZ w (if c = 1 then some ⟨g, o, sp⟩ else some ⟨g, o + 2, none⟩) rest) := Lib.hid (by
            split
            · have h0 : rest = [] := List.length_eq_zero_iff.1 (by have := hm'.out; omega)
              rw [h0]; exact trivial
            · exact htl)
          have q0 : ((m' : Int) + 1 == 0) = false := beq_eq_false_iff_ne.2 (by omega)
          have hcap1 : m' ≤ c - 1 := by omega
          have hcap2 : c - 1 ≤ c0 := by omega
          clear k1 k2 htl hst
          by_cases hzi : z < i
          · have hdi : decide ((z : Int) < (i : Int)) = true := decide_eq_true (by omega)
            have hdn : decide (z < i) = true := decide_eq_true hzi
            obtain rfl | rfl : b = false ∨ b = true := by cases b <;> simp
            · go_wp2_with fail
              go_ret2
              exact verTo_no hB.out
            · by_cases hs0 : sm < 0
              · have e0 : decide (sm < 0) = true := decide_eq_true hs0
                go_wp2_with fail
                go_ret2
                exact verTo_no hB.out
              · have e0 : decide (sm < 0) = false := decide_eq_false hs0
                by_cases hs1 : 2147483647 < sm
                · have e1 : decide (2147483647 < sm) = true := decide_eq_true hs1
                  go_wp2_with fail
                  go_ret2
                  exact verTo_no hB.out
                have e1 : decide (2147483647 < sm) = false := decide_eq_false hs1
                obtain ⟨x, rfl⟩ : ∃ x : Nat, sm = (x : Int) := ⟨sm.toNat, by omega⟩
                have hxb : x ≤ 2147483647 := by omega
                obtain ⟨p2, hp2⟩ : ∃ p2, Tr.pr (Bn.str true x p) = p2 := ⟨_, rfl⟩
                have hp2b : p2 ≤ 2147483647 := by rw [← hp2]; exact pr_le _
                have S1 := fun w => said_open x p w (by omega) (by omega)
                have P2 : Ans1 101 #[.int .i64 1073741907, .string (sb x p)] (.int .i64 p2) := fun w => by
                  have := Plain_any 1073741907 (sb x p) w (by omega) (by omega) (by rw [sb_size]; unfold maxLen; omega)
                  rw [sb_data] at this
                  rw [← hp2]
                  exact this
                have HWI : Hid (WayZ r n' i' p2 rest → WayZ r n0 i0 p0 st0) := Lib.hid fun h => hW.out (wayZ_in hgo (by rw [← HZ.out]; exact hzin) (by rw [← HZ.out]; exact (decide_eq_true hzi).symm) hxb (by rw [hp2, ← HN.out, ← HI.out]; exact h))
                clear hp2
                go_wp2_with fail
                with_reducible refine (S1 _).mono ?_
                rintro e w2 ⟨rfl, hb2⟩
                have HB2 := Lib.hid (hB.out.trans (hb2.mono hbsz))
                clear hb2 S1
                go_wp2_with fail
                with_reducible refine P2.use ?_
                rintro e w' ⟨rfl, rfl⟩
                go_wp2_with fail
                go_roundw
                case rel => exact ⟨p2, n', i', m', c - 1, rest, (if c = 1 then some ⟨g, o, sp⟩ else some ⟨g, o + 2, none⟩), rfl, rfl, rfl, rfl, hin4, hin2, hin1, hp2b, hm', hcap1, hcap2, HTL, HWI, HB2⟩
                case measure => simp [intOf]; omega
          · have hdi : decide ((z : Int) < (i : Int)) = false := decide_eq_false (by omega)
            have hdn : decide (z < i) = false := decide_eq_false (by omega)
            obtain rfl | rfl : b = true ∨ b = false := by cases b <;> simp
            · go_wp2_with fail
              go_ret2
              exact verTo_no hB.out
            · by_cases hs0 : sm < 0
              · have e0 : decide (sm < 0) = true := decide_eq_true hs0
                go_wp2_with fail
                go_ret2
                exact verTo_no hB.out
              · have e0 : decide (sm < 0) = false := decide_eq_false hs0
                by_cases hs1 : 2147483647 < sm
                · have e1 : decide (2147483647 < sm) = true := decide_eq_true hs1
                  go_wp2_with fail
                  go_ret2
                  exact verTo_no hB.out
                have e1 : decide (2147483647 < sm) = false := decide_eq_false hs1
                obtain ⟨x, rfl⟩ : ∃ x : Nat, sm = (x : Int) := ⟨sm.toNat, by omega⟩
                have hxb : x ≤ 2147483647 := by omega
                obtain ⟨p2, hp2⟩ : ∃ p2, Tr.pr (Bn.str false x p) = p2 := ⟨_, rfl⟩
                have hp2b : p2 ≤ 2147483647 := by rw [← hp2]; exact pr_le _
                have S1 := fun w => said_open p x w (by omega) (by omega)
                have P2 : Ans1 101 #[.int .i64 1073741907, .string (sb p x)] (.int .i64 p2) := fun w => by
                  have := Plain_any 1073741907 (sb p x) w (by omega) (by omega) (by rw [sb_size]; unfold maxLen; omega)
                  rw [sb_data] at this
                  rw [← hp2]
                  exact this
                have HWI : Hid (WayZ r n' i' p2 rest → WayZ r n0 i0 p0 st0) := Lib.hid fun h => hW.out (wayZ_in hgo (by rw [← HZ.out]; exact hzin) (by rw [← HZ.out]; exact (decide_eq_false hzi).symm) hxb (by rw [hp2, ← HN.out, ← HI.out]; exact h))
                clear hp2
                go_wp2_with fail
                with_reducible refine (S1 _).mono ?_
                rintro e w2 ⟨rfl, hb2⟩
                have HB2 := Lib.hid (hB.out.trans (hb2.mono hbsz))
                clear hb2 S1
                go_wp2_with fail
                with_reducible refine P2.use ?_
                rintro e w' ⟨rfl, rfl⟩
                go_wp2_with fail
                go_roundw
                case rel => exact ⟨p2, n', i', m', c - 1, rest, (if c = 1 then some ⟨g, o, sp⟩ else some ⟨g, o + 2, none⟩), rfl, rfl, rfl, rfl, hin4, hin2, hin1, hp2b, hm', hcap1, hcap2, HTL, HWI, HB2⟩
                case measure => simp [intOf]; omega
      · have HWO : Hid (WayZ r n' i' p st → WayZ r n0 i0 p0 st0) := Lib.hid fun h => hW.out (wayZ_out hgo (by rw [← HZ.out]; exact hzin) (by rw [← HN.out, ← HI.out]; exact h))
        go_wp2_with fail
        go_roundw
        case rel => exact ⟨p, n', i', m, c, st, a, rfl, rfl, rfl, rfl, hin4, hin2, hin1, hp, hm, hmc, hcc, hst, HWO, hB⟩
        case measure => simp [intOf]; omega
    · have hn1' : n = 1 := by omega
      have hi0' : i = 0 := by omega
      subst hn1'
      subst hi0'
      rcases st with _ | ⟨t, rest⟩
      · obtain rfl : m = 0 := by rw [← hm.out]; rfl
        by_cases hpr : p = r
        · subst hpr
          have epp : ((p : Int) == (p : Int)) = true := by simp
          go_wp2_with fail
          go_ret2
          exact verTo_yes (hW.out (wayZ_one (Nat.le_refl _))) hB.out
        · have epp : ((p : Int) == (r : Int)) = false := beq_eq_false_iff_ne.2 (by omega)
          go_wp2_with fail
          go_ret2
          exact verTo_no hB.out
      · have hm1 : 1 ≤ m := by rw [← hm.out]; exact Nat.le_add_left _ _
        have q0 : ((m : Int) == 0) = false := beq_eq_false_iff_ne.2 (by omega)
        go_wp2_with fail
        go_ret2
        exact verTo_no hB.out

end Go.Proofs.Ytenkdpogdfcbgaa
