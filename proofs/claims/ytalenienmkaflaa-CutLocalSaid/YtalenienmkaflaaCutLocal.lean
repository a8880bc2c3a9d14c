/- CutLocal: behind a cut it goes on as if the text began there; for every input; what was there stands below. -/
import Derived.Test.YtalenienmkaflaaCutK
namespace Go.Proofs.Ytalenienmkaflaa
open Go.RowKit

theorem cutLocal_test : EndsAns ⟨#[97, 98, 99, 100, 101, 102, 103, 104]⟩ 3 3 65535 [3, 6, 8] 3 :=
  endsAns (le := 3) (mo := 3) (mk := 65535) (by decide) (by decide) (by decide) (by decide) (by decide) (by decide +kernel) rfl

set_option maxRecDepth 100000 in
set_option maxHeartbeats 2000000 in
theorem cutLocal_bad (s : ByteArray) (le mo mk i : Int) (k : Nat) (w : World) (hk : k = 1 ∨ k = 2) (h : EndsBad s le mo mk k) :
    Calls Try.prog 3 #[.string s, .int .i64 le, .int .i64 mo, .int .i64 mk, .int .i64 i] w fun e w' => e = .returned (.bool true) ∧ Below w.heap.size w w' := by
  have T1 := cutLocal_test
  rcases hk with rfl | rfl
  all_goals
    go_enter Try.func3, Try.ntmps3
    go_wp2_with fail
    with_reducible refine T1.use ?_
    rintro e w1 ⟨a1, c1, rfl, hb1, -⟩
    go_wp2_with fail
    with_reducible refine Ans2.use h ?_
    rintro e w' ⟨rfl, rfl⟩
    go_wp2_with fail
    go_ret
    exact ⟨rfl, hb1⟩

set_option maxRecDepth 100000 in
set_option maxHeartbeats 2000000 in
theorem cutLocal_none (s : ByteArray) (le mo mk i : Int) (w : World) (hs : s = ⟨#[]⟩) (h : EndsAns s le mo mk [] 0) :
    Calls Try.prog 3 #[.string s, .int .i64 le, .int .i64 mo, .int .i64 mk, .int .i64 i] w fun e w' => e = .returned (.bool true) ∧ Below w.heap.size w w' := by
  have T1 := cutLocal_test
  subst hs
  go_enter Try.func3, Try.ntmps3
  go_wp2_with fail
  with_reducible refine T1.use ?_
  rintro e w1 ⟨a1, c1, rfl, hb1, -⟩
  go_wp2_with fail
  with_reducible refine h.use ?_
  rintro e w2 ⟨a2, c2, rfl, hb2, -⟩
  have hB := hb1.trans (hb2.mono hb1.size)
  go_wp2_with fail
  go_ret
  exact ⟨rfl, hB⟩

set_option maxRecDepth 100000 in
set_option maxHeartbeats 4000000 in
theorem cutLocal_core (s t : ByteArray) (le mo mk i : Int) (l m : List Nat) (n j x : Nat) (w : World) (hs : s.size ≤ 600) (hj : j < n) (hn : n ≤ 600)
    (hw : Ans1 21 #[.int .i64 i, .int .i64 n] (.int .i64 j)) (hx : l[j]? = some x) (hxs : x ≤ s.size) (ht : t = s.extract x s.size)
    (h : EndsAns s le mo mk l n) (h2 : EndsAns t le mo mk m (n - j - 1)) (hl : l.length = n) (hm : ∀ k, k < n - j - 1 → ∃ y, y ≤ 600 ∧ m[k]? = some y ∧ l[j + 1 + k]? = some (y + x)) :
    Calls Try.prog 3 #[.string s, .int .i64 le, .int .i64 mo, .int .i64 mk, .int .i64 i] w fun e w' => e = .returned (.bool true) ∧ Below w.heap.size w w' := by
  have T1 := cutLocal_test
  have x1 := sl_from Try.underlying9 (s := s) (x := (x : Int)) (a := x) rfl hxs
  rw [← ht] at x1
  have HX := Lib.hid hx; have HL := Lib.hid hl; have HM := Lib.hid hm; have HT := Lib.hid ht
  clear hx hl hm ht
  obtain ⟨r, hr⟩ : ∃ r, r = n - j - 1 := ⟨_, rfl⟩
  rw [← hr] at h2 HM
  have hr0 : (r : Int) = (n : Int) - (j : Int) - 1 := by omega
  have hrn : r < n := by omega
  have e0 : ((n : Int) == 0) = false := beq_eq_false_iff_ne.2 (by omega)
  have e1 : decide ((x : Int) < 0) = false := decide_eq_false (by omega)
  have e2 : decide ((s.size : Int) < (x : Int)) = false := decide_eq_false (by omega)
  have e3 : ((r : Int) != (n : Int) - (j : Int) - 1) = false := by rw [bne_eq_false_iff_eq]; omega
  have HR0 := Lib.hid hr0
  clear hr hr0
  go_enter Try.func3, Try.ntmps3
  go_wp2_with fail
  with_reducible refine T1.use ?_
  rintro e w1 ⟨a1, c1, rfl, hb1, -⟩
  go_wp2_with fail
  with_reducible refine h.use ?_
  rintro e w2 ⟨a2, c2, rfl, hb2, hr2⟩
  obtain ⟨g2, rfl, hR2⟩ := hr2 (by omega)
  have HB := Lib.hid (hb1.trans (hb2.mono hb1.size))
  have g1 := hR2.at HX.out
  clear hb1 hb2 T1
  go_wp2_with fail
  with_reducible refine hw.use ?_
  rintro e w' ⟨rfl, rfl⟩
  go_wp2_with fail
  with_reducible refine h2.use ?_
  rintro e w3 ⟨a3, c3, rfl, hb3, hr3⟩
  have HB3 := Lib.hid (HB.out.trans (hb3.mono HB.out.size))
  have hR3 := hR2.keep hb3
  have HC : Hid (∀ k, k < r → ∃ (g3 y : Nat), a3 = some ⟨g3, 0, none⟩ ∧ y ≤ 600 ∧ w3.cell? ⟨g3, k, none⟩ = some (.int .i64 (y : Int)) ∧ w3.cell? ⟨g2, j + 1 + k, none⟩ = some (.int .i64 ((y : Int) + (x : Int)))) := Lib.hid fun k hk => by
    obtain ⟨g3, rfl, hR4⟩ := hr3 (by omega)
    obtain ⟨y, hy1, hy2, hy3⟩ := HM.out k hk
    exact ⟨g3, y, rfl, hy1, hR4.at hy2, by have := hR3.at hy3; rw [this]; rfl⟩
  have G1 := Lib.hid (hR3.at HX.out)
  clear hR2 hb3 hr3 g1 HB hR3
  go_wp2_with fail
  go_loopw [94] (fun k wr => ∃ q : Nat, q ≤ r ∧ k = .int .i64 q ∧ ∃ z, wr = w3.drewN z) (fun k _ => r - (intOf k).toNat)
  case atStart => exact ⟨0, by omega, rfl, 0, rfl⟩
  case round =>
    obtain ⟨q, hq, rfl, z, rfl⟩ := hrel
    by_cases hlt : q < r
    · obtain ⟨g3, y, rfl, hy, c1, c2⟩ := HC.out q hlt
      have g1 := G1.out
      have hjq : j + 1 + q < n := by have := HR0.out; omega
      have p1 : IntKind.i64.wrap ((j : Int) + 1 + (q : Int)) = (j : Int) + 1 + (q : Int) := IntWalk.i64_in _ (by omega)
      have p2 : (y : Int) + (x : Int) ≤ 1200 := by omega
      go_wp2_with fail
      go_region
      all_goals
        go_wp2_with fail
        go_roundw
        case rel => exact ⟨q + 1, by omega, by go_num, z + 1, rfl⟩
        case measure => simp [intOf]; omega
    · obtain rfl : q = r := by omega
      go_wp2_with fail
      go_ret
      exact ⟨rfl, below_drew HB3.out _⟩

theorem cutLocal_walk (a0 : ByteArray) (a1 : Int) (a2 : Int) (a3 : Int) (a4 : Int) (w0 : a0.size ≤ maxLen) (_ : (Lit.int .i64 a1).wf = true) (_ : (Lit.int .i64 a2).wf = true) (_ : (Lit.int .i64 a3).wf = true) (_ : (Lit.int .i64 a4).wf = true) (w : World) :
    Calls Try.prog 3 #[.string a0, .int .i64 a1, .int .i64 a2, .int .i64 a3, .int .i64 a4] w fun e w' => e = .returned (.bool true) ∧ Below w.heap.size w w' := by
  rcases ends_is a0 a1 a2 a3 w0 with ⟨le, mo, mk, hs, h1, h2, h3, h4, rfl, rfl, rfl⟩ | ⟨k, hk, h, -, -⟩
  · have hll : a0.data.toList.length = a0.size := by simp
    by_cases he : a0.data.toList = []
    · have hz : a0 = ⟨#[]⟩ := ByteArray.ext (Array.toList_inj.mp he)
      exact cutLocal_none a0 le mo mk a4 w hz (endsAns hs h1 h2 h3 h4 (by rw [he]; rfl) rfl)
    · have hne := Ct.ends_ne_nil (most := mo) (mask := mk) h1 he
      have hlen := Ct.ends_length (most := mo) (mask := mk) h1 a0.data.toList
      have hmem := Ct.ends_mem (most := mo) (mask := mk) h1 a0.data.toList
      have hloc := Ct.ends_local (most := mo) (mask := mk) h1 a0.data.toList
      obtain ⟨l, hl⟩ : ∃ l, l = Ct.ends le mo mk a0.data.toList := ⟨_, rfl⟩
      rw [← hl] at hne hlen hmem hloc
      have hn : 0 < l.length := List.length_pos_iff.2 hne
      have hj := wi_lt a4 l.length hn
      have hx : l[wi a4 l.length]? = some l[wi a4 l.length] := List.getElem?_eq_getElem hj
      have hw := within_is (k := a4) (n := l.length) (N := (l.length : Int)) rfl (by omega) (by omega) rfl
      have hxm := hmem _ (List.getElem_mem hj)
      generalize l[wi a4 l.length] = x at *
      generalize wi a4 l.length = j at *
      have hd := hloc j x hx
      obtain ⟨m, hm⟩ : ∃ m, m = Ct.ends le mo mk (a0.data.toList.drop x) := ⟨_, rfl⟩
      rw [← hm] at hd
      have hml : m.length = l.length - j - 1 := by
        have := congrArg List.length hd
        rw [List.length_drop, List.length_map] at this
        omega
      have ht : (a0.extract x a0.size).data.toList = a0.data.toList.drop x := by
        rw [ext_data, List.take_of_length_le]
        rw [List.length_drop]; omega
      have hts : (a0.extract x a0.size).size ≤ 600 := by rw [ByteArray.size_extract]; omega
      refine cutLocal_core a0 (a0.extract x a0.size) le mo mk a4 l m l.length j x w hs hj (by omega) hw hx (by omega) rfl (endsAns hs h1 h2 h3 h4 hl.symm rfl)
        (endsAns hts h1 h2 h3 h4 (by rw [ht, hm]) hml) rfl (fun k hk => ?_)
      have hk2 : k < m.length := by omega
      have hy := Ct.ends_mem (most := mo) (mask := mk) h1 (a0.data.toList.drop x) m[k] (by rw [← hm]; exact List.getElem_mem hk2)
      rw [List.length_drop] at hy
      refine ⟨m[k], by omega, List.getElem?_eq_getElem hk2, ?_⟩
      have := congrArg (fun z => z[k]?) hd
      simp only [List.getElem?_drop, List.getElem?_map, List.getElem?_eq_getElem hk2, Option.map_some] at this
      rw [this, Nat.add_comm]
  · exact cutLocal_bad a0 a1 a2 a3 a4 k w hk h

end Go.Proofs.Ytalenienmkaflaa
