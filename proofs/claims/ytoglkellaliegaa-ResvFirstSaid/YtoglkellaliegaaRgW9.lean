/- Walks: slices.BinarySearchFunc and slices.Insert at registrations. -/
import Derived.Test.YtoglkellaliegaaRgW8
namespace Go.Proofs.Ytoglkellaliegaa
open Go.RowKit

theorem cmp_R (x y t : Int) (hx0 : 0 ≤ x) (hx7 : x ≤ 7) (ht0 : 0 ≤ t) (ht7 : t ≤ 7) (w : World) : Calls Try.prog 75 #[.agg #[.int .i64 x, .int .i64 y], .int .i64 t] w fun e w' => e = .returned (.int .i64 (x - t)) ∧ Below w.heap.size w w' := by
  go_enter Try.func75, Try.ntmps75
  go_wp2_with fail
  go_ret
  exact ⟨rfl, (Below.refl _ _).alloc (Nat.le_refl _) _⟩

set_option maxRecDepth 100000 in
set_option maxHeartbeats 4000000 in
theorem Search_R (x : Int) (a : Option Addr) (n c : Nat) (ts : List Qu.T) (w : World) (hT : TSl w a n c ts) (hn : n ≤ 8) (hx0 : 0 ≤ x) (hx7 : x ≤ 7) (hi : Rg.Inc ts) (h1 : ∀ t, t ∈ ts → 0 ≤ t.1 ∧ t.1 ≤ 7) :
    Calls Try.prog 74 #[.slice a n c, .int .i64 x, .func (.func 75) #[] #[]] w fun e w' =>
      ∃ (k : Nat) (b : Bool), e = .returned (.tuple #[.int .i64 k, .bool b]) ∧ k ≤ n ∧ (∀ m (hm : m < ts.length), m < k → ts[m].1 < x) ∧ (∀ m (hm : m < ts.length), k ≤ m → x ≤ ts[m].1) ∧ Below w.heap.size w w' := by
  have HT := Lib.hid hT; have HI := Lib.hid hi; have H1 := Lib.hid h1
  clear hT hi h1
  go_enter Try.func74, Try.ntmps74
  go_wp2_with fail
  go_loopw [9, 10] (fun vi vj wr => ∃ i j : Nat, i ≤ j ∧ j ≤ n ∧ vi = .int .i64 i ∧ vj = .int .i64 j ∧ Hid (∀ m (hm : m < ts.length), m < i → ts[m].1 < x) ∧ Hid (∀ m (hm : m < ts.length), j ≤ m → x ≤ ts[m].1) ∧ Hid (Below w.heap.size w wr)) (fun vi vj _ => (intOf vj).toNat - (intOf vi).toNat)
  case atStart => exact ⟨0, n, Nat.zero_le _, Nat.le_refl _, rfl, rfl, Lib.hid fun m hm h => absurd h (Nat.not_lt_zero _), Lib.hid fun m hm h => absurd hm (by rw [HT.out.len]; omega), Lib.hid (Below.refl _ _)⟩
  case round =>
    obtain ⟨i, j, hij, hj, rfl, rfl, hA, hC, hB⟩ := hrel
    by_cases hlt : i < j
    · obtain ⟨h, hh⟩ : ∃ h, (i + j) / 2 = h := ⟨_, rfl⟩
      have h1 : i ≤ h := by omega
      have h2 : h < j := by omega
      have hk' : h < ts.length := by rw [HT.out.len]; omega
      have hne : ts ≠ [] := by rintro rfl; simp at hk'
      obtain ⟨b, o, rfl, hb, hc⟩ := (HT.out.keep hB.out).at_ hne
      obtain ⟨e1, e2⟩ := hc h ts[h] (List.getElem?_eq_getElem hk')
      have ho := H1.out ts[h] (List.getElem_mem hk')
      have K1 := fun w => cmp_R ts[h].1 ts[h].2 x ho.1 ho.2 hx0 hx7 w
      have eh : ((i : Int) + (j : Int)) / 2 = (h : Int) := by omega
      have HL : Hid (ts[h].1 < x → ∀ m (hm : m < ts.length), m < h + 1 → ts[m].1 < x) := Lib.hid fun hlt m hm hmh => by
        by_cases e : m = h
        · subst e; exact hlt
        · have := (List.pairwise_iff_getElem.1 HI.out) m h hm hk' (by omega)
          omega
      have HR : Hid (x ≤ ts[h].1 → ∀ m (hm : m < ts.length), h ≤ m → x ≤ ts[m].1) := Lib.hid fun hge m hm hmh => by
        by_cases e : m = h
        · subst e; exact hge
        · have := (List.pairwise_iff_getElem.1 HI.out) h m hk' hm (by omega)
          omega
      clear hc hne hh
      generalize ts[h].1 = p at *
      generalize ts[h].2 = q at *
      by_cases hp : p < x
      · have hd : p - x < 0 := by omega
        have HL' := Lib.hid (HL.out hp)
        clear HL HR hp
        go_wp2_with fail
        with_reducible refine (K1 _).mono ?_
        rintro e w' ⟨rfl, hb'⟩
        have HB' := Lib.hid (hB.out.trans (hb'.mono hB.out.size))
        clear hb' K1
        go_wp2_with fail
        go_roundw
        case rel => exact ⟨h + 1, j, h2, hj, by go_num, rfl, HL', hC, HB'⟩
        case measure => simp [intOf]; omega
      · have hd : 0 ≤ p - x := by omega
        have HR' := Lib.hid (HR.out (by omega))
        clear HL HR hp
        go_wp2_with fail
        with_reducible refine (K1 _).mono ?_
        rintro e w' ⟨rfl, hb'⟩
        have HB' := Lib.hid (hB.out.trans (hb'.mono hB.out.size))
        clear hb' K1
        go_wp2_with fail
        go_roundw
        case rel => exact ⟨i, h, h1, by omega, rfl, rfl, hA, HR', HB'⟩
        case measure => simp [intOf]; omega
    · obtain rfl : i = j := by omega
      by_cases hin : i < n
      · have hk' : i < ts.length := by rw [HT.out.len]; omega
        have hne : ts ≠ [] := by rintro rfl; simp at hk'
        obtain ⟨b, o, rfl, hb, hc⟩ := (HT.out.keep hB.out).at_ hne
        obtain ⟨e1, e2⟩ := hc i ts[i] (List.getElem?_eq_getElem hk')
        have ho := H1.out ts[i] (List.getElem_mem hk')
        have K1 := fun w => cmp_R ts[i].1 ts[i].2 x ho.1 ho.2 hx0 hx7 w
        clear hc hne
        generalize ts[i].1 = p at *
        generalize ts[i].2 = q at *
        go_wp2_with fail
        with_reducible refine (K1 _).mono ?_
        rintro e w' ⟨rfl, hb'⟩
        have HB' := Lib.hid (hB.out.trans (hb'.mono hB.out.size))
        clear hb' K1
        go_wp2_with fail
        go_ret2
        exact ⟨i, _, rfl, hj, hA.out, hC.out, HB'.out⟩
      · go_wp2_with fail
        go_ret2
        exact ⟨i, _, rfl, hj, hA.out, hC.out, hB.out⟩

end Go.Proofs.Ytoglkellaliegaa
