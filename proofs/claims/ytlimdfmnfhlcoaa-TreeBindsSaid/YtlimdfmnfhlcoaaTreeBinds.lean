/- TreeBinds: a proof of another text tells two unlike texts of one print; for every input; what was there stands below. -/
import Derived.Test.YtlimdfmnfhlcoaaLeadsW
import Derived.Test.YtlimdfmnfhlcoaaTreeProves
import Derived.Test.YtlimdfmnfhlcoaaArgsP
import Derived.Deep.Slices
import Derived.Deep.Fields
import Derived.Lib.SmallJoins
namespace Go.Proofs.Ytlimdfmnfhlcoaa
open Go.RowKit

theorem proof_way : ∀ (n : Nat) (L : List Nat) (i : Nat), L.length ≤ n → i < L.length → (∀ x, x ∈ L → x ≤ 2147483647) → Bn.Way (Tr.root L) L.length i (L.getD i 0) (Tr.proof L i) := by
  intro n
  induction n with
  | zero => intro L i h1 h2; omega
  | succ n ih =>
    intro L i h1 h2 hv
    by_cases hgo : 1 < L.length
    · have hul := Tr.up_length L
      have hrec := ih (Tr.up L) (i / 2) (by omega) (by omega) (up_small L hv)
      rw [Tr.root_up', hul] at hrec
      have hpr : Tr.proof L i = Tr.stepsF (L :: Tr.levels (Tr.up L)) i := by unfold Tr.proof; rw [Tr.levels_up hgo]
      have hp2 : Tr.proof (Tr.up L) (i / 2) = Tr.stepsF (Tr.levels (Tr.up L)) (i / 2) := rfl
      by_cases hs : Tr.sib i < L.length
      · rw [hpr, Tr.steps_in hs, ← hp2]
        have hval : Tr.pr (Bn.str (decide (Tr.sib i < i)) (L.getD (Tr.sib i) 0) (L.getD i 0)) = (Tr.up L).getD (i / 2) 0 := by
          unfold Tr.sib at hs ⊢
          by_cases he : i % 2 = 0
          · rw [if_pos he] at hs ⊢
            rw [decide_eq_false (by omega), up_pair L (i / 2) (by omega), show 2 * (i / 2) = i from by omega]
            rfl
          · rw [if_neg he] at hs ⊢
            rw [decide_eq_true (by omega), up_pair L (i / 2) (by omega), show 2 * (i / 2) = i - 1 from by omega, show i - 1 + 1 = i from by omega]
            rfl
        refine ⟨?_, ?_, ?_⟩
        · rw [List.map_cons, hrec.side, Bn.sides_in hgo hs]
        · intro t ht
          rcases List.mem_cons.1 ht with rfl | ht
          · exact getD_small hv _
          · exact hrec.small t ht
        · rw [Bn.fin, hval]; exact hrec.fin
      · rw [hpr, Tr.steps_out hs, ← hp2]
        have hval : (Tr.up L).getD (i / 2) 0 = L.getD i 0 := by
          unfold Tr.sib at hs
          by_cases he : i % 2 = 0
          · rw [if_pos he] at hs
            rw [up_odd L (i / 2) (by omega), show 2 * (i / 2) = i from by omega]
          · rw [if_neg he] at hs; omega
        exact ⟨by rw [hrec.side, Bn.sides_out hgo hs], hrec.small, by rw [← hval]; exact hrec.fin⟩
    · have hl1 : L.length = 1 := by omega
      have hi0 : i = 0 := by omega
      subst hi0
      have hpr : Tr.proof L 0 = [] := by
        unfold Tr.proof
        rw [Tr.levels_one (by omega), Tr.steps_out (by rw [hl1]; decide)]
        rfl
      rw [hpr, Tr.root_one (by omega)]
      refine ⟨by rw [Bn.sides_one (by omega)]; rfl, (fun t ht => nomatch ht), ?_⟩
      show L.getD 0 0 = L.headD 0
      cases L <;> rfl

theorem chain_get : ∀ (l : List (Bool × Nat)) (X : ByteArray) (k : Nat), (chain X l)[k + 1]? = ((Bn.ld (Tr.pr X.data.toList) l)[k]?).map fun t => (⟨t.toArray⟩ : ByteArray)
  | [], X, k => by simp [chain, Bn.ld]
  | (b, x) :: r, X, 0 => by
    rw [chain, Bn.ld]
    cases r with
    | nil => rfl
    | cons t r => obtain ⟨b', x'⟩ := t; rfl
  | (b, x) :: r, X, k + 1 => by
    rw [chain, Bn.ld, List.getElem?_cons_succ, List.getElem?_cons_succ, chain_get r]

theorem chain_zero (l : List (Bool × Nat)) (X : ByteArray) : (chain X l)[0]? = some X := by
  cases l with
  | nil => rfl
  | cons t r => obtain ⟨b, x⟩ := t; rfl

theorem chain_small : ∀ (l : List (Bool × Nat)) (X : ByteArray), X.size ≤ 65 → ∀ Z, Z ∈ chain X l → Z.size ≤ 65
  | [], X, h, Z, hz => by
    rw [chain, List.mem_singleton] at hz
    rw [hz]; exact h
  | (b, x) :: r, X, h, Z, hz => by
    rw [chain] at hz
    rcases List.mem_cons.1 hz with rfl | hz
    · exact h
    · refine chain_small r _ ?_ Z hz
      unfold Bn.str
      split <;> exact (by decide : 9 ≤ 65)

/-- Where both ways end in one print, two unlike strings have one. -/
theorem chain_meet {r n i : Nat} {X Y : ByteArray} {s t : List (Bool × Nat)} (hX : Bn.Way r n i (Tr.pr X.data.toList) s) (hY : Bn.Way r n i (Tr.pr Y.data.toList) t) (hne : X ≠ Y) :
    s.length = t.length ∧ ∃ (k : Nat) (A B : ByteArray), (chain X s)[k]? = some A ∧ (chain Y t)[k]? = some B ∧ A ≠ B ∧ Tr.pr A.data.toList = Tr.pr B.data.toList := by
  have hside : s.map (·.1) = t.map (·.1) := by rw [hX.side, hY.side]
  refine ⟨by have := congrArg List.length hside; simpa using this, ?_⟩
  by_cases hp : Tr.pr X.data.toList = Tr.pr Y.data.toList
  · exact ⟨0, X, Y, chain_zero _ _, chain_zero _ _, hne, hp⟩
  · obtain ⟨k, a, b, h1, h2, h3, h4⟩ := Bn.meet s t _ _ hside hX.small hY.small (pr_le _) (pr_le _) (by rw [hX.fin, hY.fin]) hp
    refine ⟨k + 1, ⟨a.toArray⟩, ⟨b.toArray⟩, by rw [chain_get, h1]; rfl, by rw [chain_get, h2]; rfl, fun h => h3 ?_, by simpa using h4⟩
    have := congrArg (fun z : ByteArray => z.data.toList) h
    simpa using this

/-- Steps of a row of the call's own. -/
theorem stepsZ_own : ∀ (st : List (Bool × Nat)) (w : World) (g o : Nat), (∀ (j : Nat) (b : Bool) (s : Nat), st[j]? = some (b, s) → w.cell? ⟨g, o + 2 * j, none⟩ = some (.bool b) ∧ w.cell? ⟨g, o + 2 * j + 1, none⟩ = some (.int .i64 (s : Int))) → StepsZ w (some ⟨g, o, none⟩) (stz st)
  | [], _, _, _, _ => trivial
  | (b, s) :: r, w, g, o, h => by
    obtain ⟨h1, h2⟩ := h 0 b s rfl
    refine ⟨g, o, none, rfl, h1, h2, stepsZ_own r w g (o + 2) (fun j b' s' hj => ?_)⟩
    have := h (j + 1) b' s' (by simpa using hj)
    rw [show o + 2 + 2 * j = o + 2 * (j + 1) from by omega]
    exact this

theorem stepsZ_at {w : World} {a : Option Addr} {st : List (Bool × Nat)} (h : StepsAt w a st) : StepsZ w a (stz st) := by
  cases st with
  | nil => exact trivial
  | cons t r =>
    obtain ⟨g, o, rfl, hc⟩ := h (by simp)
    exact stepsZ_own _ w g o hc

set_option maxRecDepth 100000 in
set_option maxHeartbeats 4000000 in
theorem Verify_large (r n0 i0 : Nat) (s : ByteArray) (a0 : Option Addr) (m0 c0 : Nat) (w : World) (hn1 : 1 ≤ n0) (hn0 : n0 ≤ 32) (hi0 : i0 < n0) (hs : 64 < s.size) :
    Calls Try.prog 16 #[.int .i64 r, .int .i64 n0, .int .i64 i0, .string s, .slice a0 m0 c0] w fun e w' => e = .returned (.tuple #[.bool false, .int .i64 2]) ∧ w' = w := by
  have d1 : decide ((n0 : Int) < 1) = false := decide_eq_false (by omega)
  have d2 : decide ((32 : Int) < (n0 : Int)) = false := decide_eq_false (by omega)
  have d3 : decide ((i0 : Int) < 0) = false := decide_eq_false (by omega)
  have d4 : decide ((n0 : Int) ≤ (i0 : Int)) = false := decide_eq_false (by omega)
  have d5 : decide ((64 : Int) < (s.size : Int)) = true := decide_eq_true (by omega)
  go_enter Try.func16, Try.ntmps16
  go_wp2_with fail
  go_ret2
  exact ⟨rfl, rfl⟩

set_option maxRecDepth 100000 in
set_option maxHeartbeats 4000000 in
theorem treeBinds_bad (a : Option Addr) (n cap k : Nat) (i : Int) (s : ByteArray) (b : Option Addr) (m c : Nat) (w : World) (h : RootErr w a n cap 0 k) (hk : ((k : Int) != 0) = true) :
    Calls Try.prog 6 #[.slice a n cap, .int .i64 i, .string s, .slice b m c] w fun e w' => e = .returned (.bool true) ∧ Below w.heap.size w w' := by
  have P1 := root_one_text w 9
  have HB0 := Lib.hid ((Below.refl w.heap.size w).alloc (Nat.le_refl _) (.cells #[.string ⟨#[97]⟩] 9))
  go_enter Try.func6, Try.ntmps6
  go_wp2_with fail
  with_reducible refine P1.mono ?_
  rintro e w1 ⟨rfl, hb1⟩
  have HB1 := Lib.hid (HB0.out.trans (hb1.mono HB0.out.size))
  clear hb1 P1
  go_wp2_with fail
  with_reducible refine h.use HB1.out ?_
  rintro e w2 ⟨rfl, hb2⟩
  have HB2 := Lib.hid hb2
  clear hb2
  go_wp2_with fail
  go_ret
  exact ⟨rfl, HB2.out⟩

set_option maxRecDepth 100000 in
set_option maxHeartbeats 16000000 in
theorem treeBinds_core (x : Addr) (n cap p q : Nat) (t s : ByteArray) (st : List (Bool × Nat)) (st2 : List (Bool × Int)) (i : Int) (b : Option Addr) (m c : Nat) (w : World) (h1 : 1 ≤ n) (hn : n ≤ 32) (h : RootErr w (some x) n cap p 0)
    (hw : Ans1 15 #[.int .i64 i, .int .i64 n] (.int .i64 q)) (hq : q < n) (hx : ProofIs w (some x) n cap q st) (hml : st.length ≤ 5) (hc : w.cell? (x.add q) = some (.string t)) (hts : t.size ≤ 64)
    (hway : Bn.Way p n q (Tr.leaf t.data.toList) st) (hm : st2.length = m) (hmc : m ≤ c) (hcm : c ≤ maxLen) (hst : StepsZ w b st2) :
    Calls Try.prog 6 #[.slice (some x) n cap, .int .i64 i, .string s, .slice b m c] w fun e w' => e = .returned (.bool true) ∧ Below w.heap.size w w' := by
  have P1 := root_one_text w 9
  have HB0 := Lib.hid ((Below.refl w.heap.size w).alloc (Nat.le_refl _) (.cells #[.string ⟨#[97]⟩] 9))
  have HW := Lib.hid hway; have HST := Lib.hid hst; have HM := Lib.hid hm
  have HCM := Lib.hid hcm
  clear hway hst hm hcm
  go_enter Try.func6, Try.ntmps6
  go_wp2_with fail
  with_reducible refine P1.mono ?_
  rintro e w1 ⟨rfl, hb1⟩
  have HB1 := Lib.hid (HB0.out.trans (hb1.mono HB0.out.size))
  clear hb1 P1
  go_wp2_with fail
  with_reducible refine h.use HB1.out ?_
  rintro e w2 ⟨rfl, hb2⟩
  have HB2 := Lib.hid hb2
  clear hb2 h
  go_wp2_with fail
  with_reducible refine hw.use ?_
  rintro e w' ⟨rfl, rfl⟩
  go_wp2_with fail
  with_reducible refine hx.use HB2.out ?_
  rintro e w3 ⟨b3, c3, rfl, k1, k2, k3, hb3⟩
  have HB3 := Lib.hid hb3
  have hcell : w3.cell? (x.add q) = some (.string t) := by rw [hb3.cell (World.block_lt_of_cell? w _ hc)]; exact hc
  have HK3 := Lib.hid (stepsZ_at k3)
  have HC := Lib.hid hc
  clear hb3 hx k3 hc
  by_cases hs64 : s.size ≤ 64
  · have V1 := Verify_any p n q s st2 b m c w3 h1 hn hq hs64 HM.out hmc HCM.out (HST.out.keep HB3.out)
    go_wp2_with fail
    refine Calls.mono V1 ?_
    rintro e w4 ⟨v, rfl, hv, hb4⟩
    have HB4 := Lib.hid (HB3.out.trans (hb4.mono HB3.out.size))
    have HK4 := Lib.hid (HK3.out.keep hb4)
    have hcell4 : w4.cell? (x.add q) = some (.string t) := by rw [hb4.cell (World.block_lt_of_cell? w3 _ hcell)]; exact hcell
    have HV := Lib.hid hv
    clear hb4 V1 hcell hv
    cases v with
    | false =>
      go_wp2_with fail
      go_ret
      exact ⟨rfl, HB4.out⟩
    | true =>
      obtain ⟨l2, hl2, hway2⟩ := HV.out rfl
      have HL2 := Lib.hid hl2; have HW2 := Lib.hid hway2
      clear hl2 hway2 HV
      by_cases hst' : s = t
      · have e1 : (s.toList == t.toList) = true := by rw [hst']; simp
        clear hst'
        go_wp2_with fail
        go_ret
        exact ⟨rfl, HB4.out⟩
      · have e1 := str_ne hst'
        have eD : ∀ u : ByteArray, ((⟨#[108]⟩ : ByteArray) ++ u).data.toList = 108 :: u.data.toList := fun u => by simp
        have hXY : (⟨#[108]⟩ ++ t : ByteArray) ≠ ⟨#[108]⟩ ++ s := fun e => by
          have h : ((⟨#[108]⟩ : ByteArray) ++ t).data.toList = ((⟨#[108]⟩ : ByteArray) ++ s).data.toList := by rw [e]
          rw [eD, eD] at h
          exact hst' (bs_ext (List.cons.inj h).2.symm)
        have eX : ∀ u : ByteArray, Tr.pr ((⟨#[108]⟩ : ByteArray) ++ u).data.toList = Tr.leaf u.data.toList := fun u => by
          rw [eD]
          rfl
        clear eD
        obtain ⟨hlen, kk, A, B, hA, hB, hAB, hpr⟩ := chain_meet (X := ⟨#[108]⟩ ++ t) (Y := ⟨#[108]⟩ ++ s) (by rw [eX]; exact HW.out) (by rw [eX]; exact HW2.out) hXY
        have hml2 : l2.length = m := by rw [← HM.out, HL2.out]; unfold stz; simp
        have hmst : st.length = m := by rw [hlen, hml2]
        have LA := fun w' (hb : Below w4.heap.size w4 w') => leads_T t st b3 m c3 w' hts hmst (by omega) HW.out.small (HK4.out.keep hb)
        have LB := fun w' (hb : Below w4.heap.size w4 w') => leads_T s l2 b m c w' hs64 hml2 (by omega) HW2.out.small (by rw [← HL2.out]; exact (HST.out.keep HB4.out).keep hb)
        have hszX : ∀ u : ByteArray, u.size ≤ 64 → ((⟨#[108]⟩ : ByteArray) ++ u).size ≤ 65 := fun u hu => by rw [ByteArray.size_append]; show 1 + u.size ≤ 65; omega
        have HSX := Lib.hid (chain_small st _ (hszX t hts)); have HSY := Lib.hid (chain_small l2 _ (hszX s hs64))
        have hcl1 := chain_length (⟨#[108]⟩ ++ t) st
        have hcl2 := chain_length (⟨#[108]⟩ ++ s) l2
        rw [hmst] at hcl1
        rw [hml2] at hcl2
        rw [hmst] at k1 ⊢
        generalize chain (⟨#[108]⟩ ++ t) st = CA at *
        generalize chain (⟨#[108]⟩ ++ s) l2 = CB at *
        have hkk : kk < m + 1 := by rw [← hcl1]; exact (List.getElem?_eq_some_iff.1 hA).1
        have HKK := Lib.hid (⟨hA, hB, hAB, hpr⟩ : CA[kk]? = some A ∧ CB[kk]? = some B ∧ A ≠ B ∧ Tr.pr A.data.toList = Tr.pr B.data.toList)
        have L1 := LA w4 (Below.refl _ _)
        have HLB := Lib.hid LB
        have HC1 := Lib.hid hcl1; have HC2 := Lib.hid hcl2
        have hm5 : m ≤ 5 := by omega
        clear LA LB hst' hXY eX hA hB hAB hpr hszX hcl1 hcl2 hmst hml2 hlen
        go_wp2_with fail
        with_reducible refine L1.mono ?_
        rintro e w5 ⟨v5, rfl, ho5, hb5⟩
        have L2 := HLB.out w5 hb5
        have HO5 := Lib.hid ho5; have HB5 := Lib.hid hb5
        clear ho5 hb5 L1
        go_wp2_with fail
        with_reducible refine L2.mono ?_
        rintro e w6 ⟨v6, rfl, ho6, hb6⟩
        obtain ⟨g5, cp5, rfl, -⟩ := own_some (own_keep HO5.out hb6) (by omega)
        obtain ⟨g6, cp6, rfl, -⟩ := own_some ho6 (by omega)
        have HO5' := Lib.hid (own_keep HO5.out hb6)
        have HO6 := Lib.hid ho6
        have HB6 := Lib.hid (HB4.out.trans ((HB5.out.trans (hb6.mono HB5.out.size)).mono HB4.out.size))
        clear ho6 hb6 L2 HO5
        go_wp2_with fail
        go_loopw [107] (fun v wr => ∃ k : Nat, k ≤ kk ∧ v = .int .i64 k ∧ ∃ j, wr = w6.drewN j) (fun v _ => kk + 1 - (intOf v).toNat)
        case atStart => exact ⟨0, Nat.zero_le _, rfl, 0, rfl⟩
        case round =>
          obtain ⟨k, hk, rfl, hj⟩ := hrel
          have hkA : k < CA.length := by rw [HC1.out]; omega
          have hkB : k < CB.length := by rw [HC2.out]; omega
          have cA : w6.cell? ⟨g5, k, none⟩ = some (.string CA[k]) := by
            rw [HO5'.out.cellAt _ (by omega)]; unfold sv; simp [hkA]
          have cB : w6.cell? ⟨g6, k, none⟩ = some (.string CB[k]) := by
            rw [HO6.out.cellAt _ (by omega)]; unfold sv; simp [hkB]
          have sA := HSX.out CA[k] (List.getElem_mem hkA)
          have sB := HSY.out CB[k] (List.getElem_mem hkB)
          have HE : Hid (k = kk → CA[k] ≠ CB[k] ∧ Tr.pr (CA[k]).data.toList = Tr.pr (CB[k]).data.toList) := Lib.hid fun e => by
            subst e
            obtain ⟨y1, y2, y3, y4⟩ := HKK.out
            rw [List.getElem?_eq_getElem hkA] at y1
            rw [List.getElem?_eq_getElem hkB] at y2
            cases y1; cases y2
            exact ⟨y3, y4⟩
          have kI : (k : Int) < (m : Int) + 1 := by omega
          have kI0 : (0 : Int) ≤ (k : Int) := by omega
          generalize CA[k] = U at *
          generalize CB[k] = V at *
          obtain ⟨u, hu⟩ : ∃ u, Tr.pr U.data.toList = u := ⟨_, rfl⟩
          obtain ⟨v, hv⟩ : ∃ v, Tr.pr V.data.toList = v := ⟨_, rfl⟩
          have O1 := of_is U (by omega) hu
          have O2 := of_is V (by omega) hv
          rw [hu, hv] at HE
          clear hkA hkB hu hv
          obtain ⟨j, rfl⟩ := hj
          by_cases huv : u = v
          · have e2 : ((u : Int) == (v : Int)) = true := beq_iff_eq.2 (by omega)
            by_cases hUV : U = V
            · have hkk' : k < kk := by
                rcases Nat.lt_or_ge k kk with h | h
                · exact h
                · exact absurd hUV (HE.out (by omega)).1
              have e3 : (U.toList == V.toList) = true := by rw [hUV]; simp
              clear hUV huv
              go_wp2_with fail
              with_reducible refine O1.use ?_
              rintro e w' ⟨rfl, rfl⟩
              go_wp2_with fail
              with_reducible refine O2.use ?_
              rintro e w' ⟨rfl, rfl⟩
              go_wp2_with fail
              go_quiet (fail)
              go_wp2_with fail
              go_roundw
              case rel => exact ⟨k + 1, hkk', by go_num, _, rfl⟩
              case measure => simp [intOf]; omega
            · have e3 := str_ne hUV
              clear hUV huv
              go_wp2_with fail
              with_reducible refine O1.use ?_
              rintro e w' ⟨rfl, rfl⟩
              go_wp2_with fail
              with_reducible refine O2.use ?_
              rintro e w' ⟨rfl, rfl⟩
              go_wp2_with fail
              go_quiet (fail)
              go_wp2_with fail
              go_ret
              exact ⟨rfl, below_drewN (below_drewN HB6.out _) _⟩
          · have e2 : ((u : Int) == (v : Int)) = false := beq_eq_false_iff_ne.2 (by omega)
            have hkk' : k < kk := by
              rcases Nat.lt_or_ge k kk with h | h
              · exact h
              · exact absurd (HE.out (by omega)).2 huv
            clear huv
            go_wp2_with fail
            with_reducible refine O1.use ?_
            rintro e w' ⟨rfl, rfl⟩
            go_wp2_with fail
            with_reducible refine O2.use ?_
            rintro e w' ⟨rfl, rfl⟩
            go_wp2_with fail
            go_quiet (fail)
            go_wp2_with fail
            go_roundw
            case rel => exact ⟨k + 1, hkk', by go_num, _, rfl⟩
            case measure => simp [intOf]; omega
  · have V1 := Verify_large p n q s b m c w3 h1 hn hq (by omega)
    go_wp2_with fail
    with_reducible refine V1.mono ?_
    rintro e w4 ⟨rfl, rfl⟩
    go_wp2_with fail
    go_ret
    exact ⟨rfl, HB3.out⟩

theorem stepsZ_row {w : World} : ∀ (st : List (Bool × Int)) (y : Addr), (∀ j b z, st[j]? = some (b, z) → w.cell? (y.add (j * 2)) = some (.bool b) ∧ w.cell? (y.add (j * 2 + 1)) = some (.int .i64 z)) → StepsZ w (some y) st
  | [], _, _ => trivial
  | (b, z) :: r, ⟨g, o, sp⟩, h => by
    obtain ⟨h1, h2⟩ := h 0 b z rfl
    refine ⟨g, o, sp, rfl, h1, h2, stepsZ_row r _ (fun j b' z' hj => ?_)⟩
    obtain ⟨h3, h4⟩ := h (j + 1) b' z' (by simpa using hj)
    have e : ∀ k : Nat, (⟨g, o, sp⟩ : Addr).add (2 + k) = (⟨g, o + 2, none⟩ : Addr).add k := fun k => by
      rw [addr_lit2]
      unfold Addr.add
      rw [if_neg (by omega)]
      show (⟨g, o + (2 + k), none⟩ : Addr) = ⟨g, o + 2 + k, none⟩
      rw [Nat.add_assoc]
    rw [show (j + 1) * 2 = 2 + j * 2 from by omega, e] at h3
    rw [show (j + 1) * 2 + 1 = 2 + (j * 2 + 1) from by omega, e] at h4
    exact ⟨h3, h4⟩

theorem lvs_at (ss : List ByteArray) {n j : Nat} (h : j < n) : (lvs ss n).getD j 0 = Tr.leaf (ss.getD j ByteArray.empty).data.toList := by unfold lvs; simp [List.getD, h]

theorem treeBinds_walk (a0 : Option Addr) (len0 cap0 : Nat) (s0 : List ByteArray) (a1 : Int) (a2 : ByteArray) (a3 : Option Addr) (len3 cap3 : Nat) (t3 : List (Bool × Int)) (w : World) (w0 : IsRowS w a0 len0 cap0 s0) (_ : (Lit.int .i64 a1).wf = true) (_ : a2.size ≤ maxLen) (w3 : IsRowP w a3 len3 cap3 t3) :
    Calls Try.prog 6 #[.slice a0 len0 cap0, .int .i64 a1, .string a2, .slice a3 len3 cap3] w fun e w' => e = .returned (.bool true) ∧ Below w.heap.size w w' := by
  obtain ⟨hT, hlen⟩ := rowS_texts w0
  by_cases hc : chk s0 len0 = 0
  · obtain ⟨p0, p32, hsz⟩ := right_parts hc
    have hq := wi_lt a1 len0 (by omega)
    have hw := within_is (k := a1) (n := len0) (N := (len0 : Int)) rfl (by omega) (by omega) rfl
    generalize wi a1 len0 = q at *
    have hll := lvs_length s0 len0
    have hne : lvs s0 len0 ≠ [] := by intro h; rw [h] at hll; simp at hll; omega
    have hway := proof_way _ (lvs s0 len0) q (Nat.le_refl _) (by rw [hll]; exact hq) (lvs_small s0 len0)
    rw [hll, lvs_at s0 hq] at hway
    obtain ⟨x, rfl, hcs⟩ := hT (by omega)
    have h3 : t3.length = len3 ∧ len3 ≤ cap3 ∧ cap3 ≤ maxLen ∧ StepsZ w a3 t3 := by
      rcases w3 with ⟨rfl, rfl, rfl, rfl⟩ | ⟨y, rfl, h1, h2, h3, h4⟩
      · exact ⟨rfl, Nat.le_refl _, Nat.zero_le _, trivial⟩
      · exact ⟨h3, h1, h2, stepsZ_row t3 y (fun j b z hj => ⟨(h4 j (b, z) hj).1, (h4 j (b, z) hj).2.1⟩)⟩
    exact treeBinds_core x len0 cap0 (rootOf s0 len0) q (s0.getD q ByteArray.empty) a2 (Tr.proof (lvs s0 len0) q) t3 a1 a3 len3 cap3 w p0 p32 (rootErr_ok p0 p32 hT hsz) hw hq (proofIs p0 p32 hq hT hsz) (Tr.proof_len 5 _ _ hne (by rw [hll]; exact p32) (by rw [hll]; exact hq)) (hcs q hq) (hsz q hq) hway h3.1 h3.2.1 h3.2.2.1 h3.2.2.2
  · exact treeBinds_bad a0 len0 cap0 _ a1 a2 a3 len3 cap3 w (rootErr_bad hlen hT rfl (bne_iff_ne.2 (by omega))) (bne_iff_ne.2 (by omega))

end Go.Proofs.Ytlimdfmnfhlcoaa
