/- The walk of leads: all that is said on the way from a text up. -/
import Derived.Test.YtlimdfmnfhlcoaaVerifyW
import Derived.Test.YtlimdfmnfhlcoaaTreeR
import Derived.Test.YtlimdfmnfhlcoaaTreeHalves
namespace Go.Proofs.Ytlimdfmnfhlcoaa
open Go.RowKit

theorem addr_lit2 (g o j : Nat) : (⟨g, o, none⟩ : Addr).add j = ⟨g, o + j, none⟩ := by
  unfold Addr.add
  split
  · rename_i h; rw [h]; rfl
  · rfl

theorem StepsZ.at_ {w : World} : ∀ {st : List (Bool × Int)} {y : Addr} {k : Nat} {b : Bool} {s : Int}, StepsZ w (some y) st → st[k]? = some (b, s) → ∃ yb yo ys, y.add (k * 2) = ⟨yb, yo, ys⟩ ∧ w.cell? ⟨yb, yo, ys⟩ = some (.bool b) ∧ w.cell? ⟨yb, yo + 1, none⟩ = some (.int .i64 s)
  | [], _, _, _, _, _, hk => by simp at hk
  | (b', s') :: r, y, 0, b, s, ⟨g, o, sp, hy, h1, h2, _⟩, hk => by
    cases hy
    obtain ⟨rfl, rfl⟩ : b' = b ∧ s' = s := by simpa using hk
    exact ⟨g, o, sp, rfl, h1, h2⟩
  | (b', s') :: r, y, k + 1, b, s, ⟨g, o, sp, hy, _, _, h3⟩, hk => by
    cases hy
    obtain ⟨yb, yo, ys, e, c1, c2⟩ := h3.at_ (k := k) (by simpa using hk)
    rw [addr_lit2] at e
    cases e
    refine ⟨g, o + 2 + k * 2, none, ?_, c1, c2⟩
    unfold Addr.add
    rw [if_neg (by omega)]
    have e : o + (k + 1) * 2 = o + 2 + k * 2 := by omega
    rw [← e]

/-- All that is said on the way. -/
def chain : ByteArray → List (Bool × Nat) → List ByteArray
  | X, [] => [X]
  | X, (b, x) :: r => X :: chain ⟨(Bn.str b x (Tr.pr X.data.toList)).toArray⟩ r

theorem chain_length : ∀ (X : ByteArray) (l : List (Bool × Nat)), (chain X l).length = l.length + 1
  | _, [] => rfl
  | X, (b, x) :: r => by rw [chain, List.length_cons, chain_length, List.length_cons]

theorem sv_snoc (l : List ByteArray) (X : ByteArray) : sv (l ++ [X]) = sv l ++ [.string X] := by unfold sv; rw [List.map_append]; rfl

theorem Said_open (p q : Nat) (w : World) (hp : p ≤ 2147483647) (hq : q ≤ 2147483647) : Calls Try.prog 13 #[.int .i64 p, .int .i64 q] w fun e w' => e = .returned (.string (sb p q)) ∧ Below w.heap.size w w' := Said_any p q w hp hq

set_option maxRecDepth 100000 in
set_option maxHeartbeats 8000000 in
theorem leads_T (s : ByteArray) (l : List (Bool × Nat)) (a : Option Addr) (m c : Nat) (w : World) (hs : s.size ≤ 64) (hl : l.length = m) (hm : m ≤ 1000000) (hsm : Bn.small l) (hst : StepsZ w a (stz l)) :
    Calls Try.prog 17 #[.string s, .slice a m c] w fun e w' => ∃ v, e = .returned v ∧ w'.ownsRow w.heap.size 9 1 v (m + 1) (sv (chain (⟨#[108]⟩ ++ s) l)) ∧ Below w.heap.size w w' := by
  obtain ⟨i0, hi, hz0, hz1, hz2⟩ := info_parts Try.infoStr
  obtain ⟨X0, hX0⟩ : ∃ X, (⟨#[108]⟩ : ByteArray) ++ s = X := ⟨_, rfl⟩
  have hXs : X0.size ≤ 65 := by rw [← hX0, ByteArray.size_append]; show 1 + s.size ≤ 65; omega
  have HST := Lib.hid hst; have HL := Lib.hid hl; have HSM := Lib.hid hsm
  have HO0 : Hid ((w.alloc (.cells #[.string X0] 9)).ownsRow w.heap.size 9 1 (.slice (some ⟨w.heap.size, 0, none⟩) 1 1) 1 (sv [X0]) ∧ Below w.heap.size w (w.alloc (.cells #[.string X0] 9))) := Lib.hid ⟨World.ownsRow_lit w #[.string X0] 1 (Nat.le_refl _) (by decide) rfl, (Below.refl _ w).alloc (Nat.le_refl _) _⟩
  have HEX := Lib.hid hX0
  rw [hX0]
  clear hst hl hsm
  go_enter Try.func17, Try.ntmps17
  go_wp2_with fail
  clear hX0
  go_loopw [5, 15] (fun v i wr => ∃ (k g cp : Nat) (D : List ByteArray) (X : ByteArray) (r : List (Bool × Nat)), k ≤ m ∧ i = .int .i64 k ∧ v = .slice (some ⟨g, 0, none⟩) (k + 1) cp ∧ X.size ≤ 65 ∧ Hid (D.length = k) ∧ Hid (l.drop k = r) ∧ Hid (chain X0 l = D ++ chain X r) ∧ Hid (wr.ownsRow w.heap.size 9 1 (.slice (some ⟨g, 0, none⟩) (k + 1) cp) (k + 1) (sv (D ++ [X]))) ∧ Hid (Below w.heap.size w wr)) (fun _ i _ => m - (intOf i).toNat)
  case atStart => exact ⟨0, w.heap.size, 1, [], X0, l, Nat.zero_le _, rfl, rfl, hXs, Lib.hid rfl, Lib.hid rfl, Lib.hid rfl, Lib.hid HO0.out.1, Lib.hid HO0.out.2⟩
  case round =>
    obtain ⟨k, g, cp, D, X, r, hk, rfl, rfl, hX, hD, hr, hC, hO, hB⟩ := hrel
    by_cases hlt : k < m
    · have hkl : k < l.length := by rw [HL.out]; exact hlt
      obtain ⟨⟨b, x⟩, r', hr'⟩ : ∃ t r', r = t :: r' := by
        rcases r with _ | ⟨t, r'⟩
        · have := congrArg List.length hr.out; rw [List.length_drop] at this; simp at this; omega
        · exact ⟨t, r', rfl⟩
      subst hr'
      have hget : l[k]? = some (b, x) := by
        have := congrArg (fun u : List (Bool × Nat) => u[0]?) hr.out
        simpa [List.getElem?_drop] using this
      have hx : x ≤ 2147483647 := HSM.out (b, x) (List.mem_of_getElem? hget)
      obtain ⟨ad, rfl⟩ : ∃ ad, a = some ad := by
        have h := HST.out
        rcases l with _ | ⟨t0, l'⟩
        · simp at hkl
        · obtain ⟨g', o', sp', h1, -⟩ := h
          exact ⟨_, h1⟩
      obtain ⟨yb, yo, ys, hy, c1, c2⟩ := (HST.out.keep hB.out).at_ (k := k) (b := b) (s := (x : Int)) (by unfold stz; rw [List.getElem?_map, hget]; rfl)
      have cl : wr.cell? ⟨g, k, none⟩ = some (.string X) := by
        rw [hO.out.cellAt _ (by omega), sv_snoc, List.getElem?_append_right (by unfold sv; rw [List.length_map, hD.out]; exact Nat.le_refl _)]
        unfold sv
        rw [List.length_map, hD.out, Nat.sub_self]
        rfl
      have hgl : g < wr.heap.size := World.block_lt_of_cell? wr _ cl
      obtain ⟨p, hp⟩ : ∃ p, Tr.pr X.data.toList = p := ⟨_, rfl⟩
      have hpb : p ≤ 2147483647 := by rw [← hp]; exact pr_le _
      have O1 := of_is X (by omega) hp
      have HR' : Hid (l.drop (k + 1) = r') := Lib.hid (by rw [← List.drop_drop, hr.out]; rfl)
      have HC' : Hid (∀ Y : ByteArray, Y = ⟨(Bn.str b x p).toArray⟩ → chain X0 l = (D ++ [X]) ++ chain Y r') := Lib.hid fun Y hY => by rw [hC.out, chain, hp, hY, List.append_assoc]; rfl
      have HD' : Hid ((D ++ [X]).length = k + 1) := Lib.hid (by rw [List.length_append, hD.out]; rfl)
      have hb1 : k + 1 + 1 ≤ maxLen := by unfold maxLen; omega
      have hb2 : (k + 1 + 1) * 16 ≤ 140737488355328 := by omega
      have HBB := Lib.hid hb1; have HBC := Lib.hid hb2
      have k1 : (k : Int) + 1 - 1 = (k : Int) := by omega
      clear hget hkl hp hb1 hb2
      cases b with
      | true =>
        have S1 := fun w => Said_open x p w hx hpb
        have hY : Hid (sb x p = ⟨(Bn.str true x p).toArray⟩) := Lib.hid rfl
        generalize sb x p = Y at *
        have hYs : Hid (Y.size ≤ 65) := Lib.hid (by rw [hY.out]; exact (by decide : 9 ≤ 65))
        go_wp2_with fail
        with_reducible refine O1.use ?_
        rintro e w' ⟨rfl, rfl⟩
        go_wp2_with fail
        with_reducible refine (S1 _).mono ?_
        rintro e w2 ⟨rfl, hb2⟩
        have HB2 := Lib.hid ((hB.out.alloc hB.out.size (.cells #[.bool true, .int .i64 (x : Int)] 33)).trans (hb2.mono (hB.out.alloc hB.out.size _).size))
        have HO2 := Lib.hid ((own_keep (hO.out.alloc (.cells #[.bool true, .int .i64 (x : Int)] 33)) hb2).alloc (.cells #[.string Y] 9))
        have H3 := Lib.hid (cell_one_new w2 (.string Y) 9)
        have H4 : Hid (∀ u ∈ [Value.string Y], u.oneCell' = true) := Lib.hid (by intro u hu; rw [List.mem_singleton.1 hu]; rfl)
        have H5 : Hid (w.heap.size ≤ (w2.alloc (.cells #[.string Y] 9)).heap.size) := Lib.hid (by rw [World.size_alloc]; have := HB2.out.size; omega)
        clear hb2 S1
        go_wp2_with (at_builtin; refine wpList_append_lies _ rfl _ _ _ rfl w.heap.size 9 i0 (.string ByteArray.empty) 1 16 Try.underlying22 hi hz0 hz1 hz2 rfl (by decide) (.slice (some ⟨g, 0, none⟩) (k + 1) cp) (k + 1) _ rfl HO2.out ⟨w2.heap.size, 0, none⟩ 1 1 [.string Y] rfl rfl H3.out H4.out (by decide) HBB.out HBC.out H5.out _ rfl ?_)
        intro g' cap' wq q1 q2 q3 q4
        have HB3 := Lib.hid (below_own HO2.out (HB2.out.alloc HB2.out.size _) (Nat.le_refl _) H5.out q2)
        have HO3 : Hid (wq.ownsRow w.heap.size 9 1 (.slice (some ⟨g', 0, none⟩) (k + 1 + 1) cap') (k + 1 + 1) (sv ((D ++ [X]) ++ [Y]))) := Lib.hid (by rw [sv_snoc]; exact q1)
        clear q1 q2 q3 q4 HO2 H3 H4 H5
        go_wp2_with fail
        go_roundw
        case rel => exact ⟨k + 1, g', cap', D ++ [X], Y, r', hlt, by go_num, rfl, hYs.out, HD', HR', Lib.hid (HC'.out Y hY.out), HO3, HB3⟩
        case measure => simp [intOf]; omega
      | false =>
        have S1 := fun w => Said_open p x w hpb hx
        have hY : Hid (sb p x = ⟨(Bn.str false x p).toArray⟩) := Lib.hid rfl
        generalize sb p x = Y at *
        have hYs : Hid (Y.size ≤ 65) := Lib.hid (by rw [hY.out]; exact (by decide : 9 ≤ 65))
        go_wp2_with fail
        with_reducible refine O1.use ?_
        rintro e w' ⟨rfl, rfl⟩
        go_wp2_with fail
        with_reducible refine (S1 _).mono ?_
        rintro e w2 ⟨rfl, hb2⟩
        have HB2 := Lib.hid ((hB.out.alloc hB.out.size (.cells #[.bool false, .int .i64 (x : Int)] 33)).trans (hb2.mono (hB.out.alloc hB.out.size _).size))
        have HO2 := Lib.hid ((own_keep (hO.out.alloc (.cells #[.bool false, .int .i64 (x : Int)] 33)) hb2).alloc (.cells #[.string Y] 9))
        have H3 := Lib.hid (cell_one_new w2 (.string Y) 9)
        have H4 : Hid (∀ u ∈ [Value.string Y], u.oneCell' = true) := Lib.hid (by intro u hu; rw [List.mem_singleton.1 hu]; rfl)
        have H5 : Hid (w.heap.size ≤ (w2.alloc (.cells #[.string Y] 9)).heap.size) := Lib.hid (by rw [World.size_alloc]; have := HB2.out.size; omega)
        clear hb2 S1
        go_wp2_with (at_builtin; refine wpList_append_lies _ rfl _ _ _ rfl w.heap.size 9 i0 (.string ByteArray.empty) 1 16 Try.underlying22 hi hz0 hz1 hz2 rfl (by decide) (.slice (some ⟨g, 0, none⟩) (k + 1) cp) (k + 1) _ rfl HO2.out ⟨w2.heap.size, 0, none⟩ 1 1 [.string Y] rfl rfl H3.out H4.out (by decide) HBB.out HBC.out H5.out _ rfl ?_)
        intro g' cap' wq q1 q2 q3 q4
        have HB3 := Lib.hid (below_own HO2.out (HB2.out.alloc HB2.out.size _) (Nat.le_refl _) H5.out q2)
        have HO3 : Hid (wq.ownsRow w.heap.size 9 1 (.slice (some ⟨g', 0, none⟩) (k + 1 + 1) cap') (k + 1 + 1) (sv ((D ++ [X]) ++ [Y]))) := Lib.hid (by rw [sv_snoc]; exact q1)
        clear q1 q2 q3 q4 HO2 H3 H4 H5
        go_wp2_with fail
        go_roundw
        case rel => exact ⟨k + 1, g', cap', D ++ [X], Y, r', hlt, by go_num, rfl, hYs.out, HD', HR', Lib.hid (HC'.out Y hY.out), HO3, HB3⟩
        case measure => simp [intOf]; omega
    · have hkm : k = m := by omega
      subst hkm
      have hr0 : r = [] := by rw [← hr.out]; exact List.drop_eq_nil_of_le (by rw [HL.out]; exact Nat.le_refl _)
      have HF : Hid (wr.ownsRow w.heap.size 9 1 (.slice (some ⟨g, 0, none⟩) (k + 1) cp) (k + 1) (sv (chain X0 l))) := Lib.hid (by rw [hC.out, hr0]; exact hO.out)
      clear hr0
      go_wp2_with fail
      go_ret
      exact ⟨_, rfl, HF.out, hB.out⟩

end Go.Proofs.Ytlimdfmnfhlcoaa
