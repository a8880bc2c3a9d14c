import Derived.Test.YtenkdpogdfcbgaaGreatBase
import Derived.Test.YtenkdpogdfcbgaaGreatUse
/- Deeds as bytes: plain facts. No program in sight. -/
namespace Go.Proofs.YtenkdpogdfcbgaaGreat.Lg
open Go.Proofs.YtenkdpogdfcbgaaGreat

/-- May something be called so? -/
def nc (c : UInt8) : Bool := (decide (97 ≤ c.toNat) && decide (c.toNat ≤ 122)) || (decide (48 ≤ c.toNat) && decide (c.toNat ≤ 57))
def nmB (l : List UInt8) : Bool := !l.isEmpty && (decide (l.length ≤ 12) && l.all nc)

/-- What is wrong with a deed; of what its names are, and whether texts are empty. -/
def chk (k : Int) (b1 b2 : Bool) (a : Int) (n : Nat) (xt xx : Bool) : Nat :=
  if k < 1 ∨ 5 < k then 1 else if b1 = false ∨ (k = 5 ∧ b2 = false) then 3 else if a < 0 ∨ 32 < a then 1 else if 64 < n then 2
  else if (k ≠ 5 ∧ xt = false) ∨ (k ≠ 3 ∧ xx = false) ∨ ((k = 2 ∨ k = 5) ∧ a ≠ 0) then 3 else 0

def tx (l : List UInt8) : List UInt8 := UInt8.ofNat l.length :: l

def enc (k a : Nat) (nm to te : List UInt8) : List UInt8 := [UInt8.ofNat k, UInt8.ofNat a] ++ tx nm ++ tx to ++ tx te

theorem u8_inj {a b : Nat} (ha : a < 256) (hb : b < 256) (h : UInt8.ofNat a = UInt8.ofNat b) : a = b := by
  have := congrArg UInt8.toNat h
  rw [UInt8.toNat_ofNat', UInt8.toNat_ofNat'] at this
  omega

theorem tx_inj {l l' r r' : List UInt8} (h : l.length < 256) (h' : l'.length < 256) (e : tx l ++ r = tx l' ++ r') : l = l' ∧ r = r' := by
  unfold tx at e
  rw [List.cons_append, List.cons_append, List.cons.injEq] at e
  exact List.append_inj e.2 (u8_inj h h' e.1)

theorem enc_inj {k a k' a' : Nat} {nm to te nm' to' te' : List UInt8} (hk : k < 256) (ha : a < 256) (hk' : k' < 256) (ha' : a' < 256) (h1 : nm.length < 256) (h2 : to.length < 256) (h3 : te.length < 256) (h1' : nm'.length < 256) (h2' : to'.length < 256) (h3' : te'.length < 256)
    (h : enc k a nm to te = enc k' a' nm' to' te') : k = k' ∧ nm = nm' ∧ to = to' ∧ a = a' ∧ te = te' := by
  unfold enc at h
  rw [List.append_assoc, List.append_assoc, List.append_assoc, List.append_assoc, List.cons_append, List.cons_append, List.cons_append, List.cons_append, List.cons.injEq, List.cons.injEq] at h
  obtain ⟨e1, e2, e3⟩ := h
  obtain ⟨e4, e5⟩ := tx_inj h1 h1' e3
  obtain ⟨e6, e7⟩ := tx_inj h2 h2' e5
  have e8 := tx_inj (r := []) (r' := []) h3 h3' (by rw [List.append_nil, List.append_nil]; exact e7)
  exact ⟨u8_inj hk hk' e1, e4, e6, u8_inj ha ha' e2, e8.1⟩

/-- A deed that is right. -/
theorem chk_ok {k a : Int} {b1 b2 xt xx : Bool} {n : Nat} (h : chk k b1 b2 a n xt xx = 0) : 1 ≤ k ∧ k ≤ 5 ∧ b1 = true ∧ (k = 5 → b2 = true) ∧ (k ≠ 5 → xt = true) ∧ 0 ≤ a ∧ a ≤ 32 ∧ n ≤ 64 := by
  unfold chk at h
  split at h
  · cases h
  · split at h
    · cases h
    · split at h
      · cases h
      · split at h
        · cases h
        · split at h
          · cases h
          · rename_i h1 h2 h3 h4 h5
            refine ⟨by omega, by omega, ?_, ?_, ?_, by omega, by omega, by omega⟩
            · cases b1
              · exact absurd (Or.inl rfl) h2
              · rfl
            · intro hk
              cases b2
              · exact absurd (Or.inr ⟨hk, rfl⟩) h2
              · rfl
            · intro hk
              cases xt
              · exact absurd (Or.inl ⟨hk, rfl⟩) h5
              · rfl

theorem nm_len {l : List UInt8} (h : nmB l = true) : l.length ≤ 12 := by
  unfold nmB at h
  rw [Bool.and_eq_true, Bool.and_eq_true, decide_eq_true_eq] at h
  exact h.2.1

theorem chk_le (k a : Int) (b1 b2 xt xx : Bool) (n : Nat) : chk k b1 b2 a n xt xx ≤ 3 := by
  unfold chk
  repeat' split
  all_goals omega

theorem nc_eq (c : UInt8) {x1 x2 x3 x4 : Bool} (h1 : decide (97 ≤ (c.toNat : Int)) = x1) (h2 : decide ((c.toNat : Int) ≤ 122) = x2) (h3 : decide (48 ≤ (c.toNat : Int)) = x3) (h4 : decide ((c.toNat : Int) ≤ 57) = x4) : nc c = ((x1 && x2) || (x3 && x4)) := by
  subst h1 h2 h3 h4
  unfold nc
  congr 1
  · congr 1
    · exact decide_eq_decide.2 (by omega)
    · exact decide_eq_decide.2 (by omega)
  · congr 1
    · exact decide_eq_decide.2 (by omega)
    · exact decide_eq_decide.2 (by omega)

theorem all_take {l : List UInt8} {p : UInt8 → Bool} {i : Nat} (hi : i < l.length) (h : (l.take i).all p = true) : (l.take (i + 1)).all p = p l[i] := by
  rw [List.take_succ_eq_append_getElem hi, List.all_append, h, Bool.true_and]
  simp

theorem all_false {l : List UInt8} {p : UInt8 → Bool} {i : Nat} (hi : i < l.length) (h : p l[i] = false) : l.all p = false := by
  rw [List.all_eq_false]
  exact ⟨l[i], List.getElem_mem hi, by rw [h]; decide⟩

end Go.Proofs.YtenkdpogdfcbgaaGreat.Lg

/- The walks of vol.Name and log.Check. -/
namespace Go.Proofs.YtenkdpogdfcbgaaGreat
open Go.RowKit

theorem empty_list (s : ByteArray) : s.toList.isEmpty = s.data.toList.isEmpty := by rw [ByteArray.toList_eq]

theorem empty_size {s : ByteArray} (h : s.toList.isEmpty = true) : s.size = 0 := by
  rw [empty_list, List.isEmpty_iff] at h
  have : s.data.toList.length = s.size := Array.length_toList ..
  rw [← this, h]; rfl

theorem empty_not {s : ByteArray} (h : s.toList.isEmpty = false) : 0 < s.size := by
  have : s.data.toList.length = s.size := Array.length_toList ..
  rw [empty_list] at h
  rcases hl : s.data.toList with _ | ⟨x, r⟩
  · rw [hl] at h; cases h
  · rw [hl, List.length_cons] at this; omega

set_option maxRecDepth 100000 in
set_option maxHeartbeats 4000000 in
theorem Name_any (s : ByteArray) (w : World) (hs : s.size ≤ maxLen) :
    Calls Tryz.prog 79 #[.string s] w fun e w' => e = .returned (.bool (Lg.nmB s.data.toList)) ∧ w = w' := by
  have hl : s.data.toList.length = s.size := Array.length_toList ..
  unfold maxLen at hs
  cases he : s.toList.isEmpty with
  | true =>
    have hb : Lg.nmB s.data.toList = false := by unfold Lg.nmB; rw [← empty_list, he]; rfl
    rw [hb]
    clear hb hl
    go_enter Tryz.func79, Tryz.ntmps79
    go_wp2_with fail
    go_ret
    exact ⟨rfl, rfl⟩
  | false =>
    by_cases h12 : 12 < s.size
    · have hb : Lg.nmB s.data.toList = false := by unfold Lg.nmB; rw [decide_eq_false (by omega), Bool.false_and, Bool.and_false]
      rw [hb]
      clear hb hl
      go_enter Tryz.func79, Tryz.ntmps79
      go_wp2_with fail
      go_ret
      exact ⟨rfl, rfl⟩
    · obtain ⟨b, hb⟩ : ∃ b, Lg.nmB s.data.toList = b := ⟨_, rfl⟩
      have hb2 : s.data.toList.all Lg.nc = b := by rw [← hb]; unfold Lg.nmB; rw [← empty_list, he, decide_eq_true (by omega)]; rfl
      rw [hb]
      have HB := Lib.hid hb2
      clear hb hb2
      go_enter Tryz.func79, Tryz.ntmps79
      go_wp2_with fail
      go_loop [13] (fun x => ∃ i : Nat, i ≤ s.size ∧ x = .int .i64 i ∧ Hid ((s.data.toList.take i).all Lg.nc = true)) (fun x => s.size - (intOf x).toNat)
      case atStart => exact ⟨0, Nat.zero_le _, rfl, Lib.hid rfl⟩
      case round =>
        obtain ⟨i, hi, rfl, hA⟩ := hrel
        by_cases hlt : i < s.size
        · have hil : i < s.data.toList.length := by omega
          have ix := idx_str Tryz.underlying9 (s := s) (x := (i : Int)) (k := i) rfl hlt
          have hbt : bt s.data.toList i = ((s.data.toList[i]).toNat : Int) := by unfold bt; rw [getD_in _ _ _ hil]
          have hA1 := Lg.all_take hil hA.out
          have hA2 := Lg.all_false (p := Lg.nc) hil
          rw [hbt] at ix
          generalize s.data.toList[i] = c at *
          obtain ⟨x1, h1⟩ : ∃ x, decide (97 ≤ (c.toNat : Int)) = x := ⟨_, rfl⟩
          obtain ⟨x2, h2⟩ : ∃ x, decide ((c.toNat : Int) ≤ 122) = x := ⟨_, rfl⟩
          obtain ⟨x3, h3⟩ : ∃ x, decide (48 ≤ (c.toNat : Int)) = x := ⟨_, rfl⟩
          obtain ⟨x4, h4⟩ : ∃ x, decide ((c.toNat : Int) ≤ 57) = x := ⟨_, rfl⟩
          have hnc := Lg.nc_eq c h1 h2 h3 h4
          have HA1 := Lib.hid hA1
          have HA2 := Lib.hid hA2
          have HN := Lib.hid hnc
          clear hbt hA1 hA2 hnc hA hl hil
          rcases x1 with _ | _ <;> rcases x2 with _ | _ <;> rcases x3 with _ | _ <;> rcases x4 with _ | _
          all_goals
            go_wp2_with fail
            first
              | (go_round
                 case rel => exact ⟨i + 1, hlt, by go_num, Lib.hid (by rw [HA1.out, HN.out]; rfl)⟩
                 case measure => simp [intOf]; omega)
              | (go_ret
                 obtain rfl : b = false := by rw [← HB.out, HA2.out (by rw [HN.out]; rfl)]
                 exact ⟨rfl, rfl⟩)
        · obtain rfl : i = s.size := by omega
          have hA3 : s.data.toList.all Lg.nc = true := by have := hA.out; rwa [List.take_of_length_le (by omega)] at this
          have hbb : b = true := by rw [← HB.out, hA3]
          subst hbb
          clear hA3 hA hl
          go_wp2_with fail
          go_ret
          exact ⟨rfl, rfl⟩

end Go.Proofs.YtenkdpogdfcbgaaGreat

/- The walk of log.Check. -/
namespace Go.Proofs.YtenkdpogdfcbgaaGreat
open Go.RowKit

theorem Name_is {s : ByteArray} {b : Bool} (hs : s.size ≤ maxLen) (h : Lg.nmB s.data.toList = b) : Ans1 79 #[.string s] (.bool b) := fun w => by
  have := Name_any s w hs
  rwa [h] at this

/-- A deed, as a value. -/
def opV (k : Int) (nm to : ByteArray) (a : Int) (tx : ByteArray) : Value := .agg #[.int .i64 k, .string nm, .string to, .int .i64 a, .string tx]

set_option maxRecDepth 100000 in
set_option maxHeartbeats 4000000 in
theorem Check_any (k : Int) (nm to : ByteArray) (a : Int) (tx : ByteArray) (w : World) (hn : nm.size ≤ maxLen) (ht : to.size ≤ maxLen) (hx : tx.size ≤ maxLen) :
    Calls Tryz.prog 54 #[.agg #[.int .i64 k, .string nm, .string to, .int .i64 a, .string tx]] w fun e w' => e = .returned (.int .i64 (Lg.chk k (Lg.nmB nm.data.toList) (Lg.nmB to.data.toList) a tx.size to.toList.isEmpty tx.toList.isEmpty)) ∧ Below w.heap.size w w' := by
  have HB : Hid (Below w.heap.size w (w.alloc (.cells #[.int .i64 k, .string nm, .string to, .int .i64 a, .string tx] 29))) := Lib.hid ((Below.refl _ w).alloc (Nat.le_refl _) _)
  obtain ⟨b1, h1⟩ : ∃ b, Lg.nmB nm.data.toList = b := ⟨_, rfl⟩
  obtain ⟨b2, h2⟩ : ∃ b, Lg.nmB to.data.toList = b := ⟨_, rfl⟩
  obtain ⟨xt, h3⟩ : ∃ b, to.toList.isEmpty = b := ⟨_, rfl⟩
  obtain ⟨xx, h4⟩ : ∃ b, tx.toList.isEmpty = b := ⟨_, rfl⟩
  have N1 := Name_is hn h1
  have N2 := Name_is ht h2
  unfold maxLen at hx
  rw [h1, h2, h3, h4]
  clear h1 h2 hn ht
  by_cases hk : k < 1 ∨ 5 < k
  · have e : Lg.chk k b1 b2 a tx.size xt xx = 1 := by unfold Lg.chk; rw [if_pos hk]
    rw [e]
    clear e h3 h4
    by_cases hk1 : k < 1
    · clear hk
      go_enter Tryz.func54, Tryz.ntmps54
      go_wp2_with fail
      go_ret
      exact ⟨rfl, HB.out⟩
    · have hk5 : 5 < k := by omega
      clear hk
      go_enter Tryz.func54, Tryz.ntmps54
      go_wp2_with fail
      go_ret
      exact ⟨rfl, HB.out⟩
  · have hk1 : 1 ≤ k := by omega
    have hk5 : k ≤ 5 := by omega
    cases b1 with
    | false =>
      have e : Lg.chk k false b2 a tx.size xt xx = 3 := by unfold Lg.chk; rw [if_neg hk, if_pos (Or.inl rfl)]
      rw [e]
      clear e hk h3 h4
      go_enter Tryz.func54, Tryz.ntmps54
      go_wp2_with fail
      with_reducible refine N1.use ?_
      rintro e w' ⟨rfl, rfl⟩
      go_wp2_with fail
      go_ret
      exact ⟨rfl, HB.out⟩
    | true =>
      by_cases hk2 : k = 5 ∧ b2 = false
      · have e : Lg.chk k true b2 a tx.size xt xx = 3 := by unfold Lg.chk; rw [if_neg hk, if_pos (Or.inr hk2)]
        obtain ⟨rfl, rfl⟩ := hk2
        rw [e]
        clear e hk h3 h4 hk1 hk5
        go_enter Tryz.func54, Tryz.ntmps54
        go_wp2_with fail
        with_reducible refine N1.use ?_
        rintro e w' ⟨rfl, rfl⟩
        go_wp2_with fail
        with_reducible refine N2.use ?_
        rintro e w' ⟨rfl, rfl⟩
        go_wp2_with fail
        go_ret
        exact ⟨rfl, HB.out⟩
      · have hk3 : (k ≠ 5) ∨ (k = 5 ∧ b2 = true) := by
          by_cases h : k = 5
          · exact Or.inr ⟨h, by cases b2; exact absurd ⟨h, rfl⟩ hk2; rfl⟩
          · exact Or.inl h
        by_cases ha : a < 0 ∨ 32 < a
        · have e : Lg.chk k true b2 a tx.size xt xx = 1 := by unfold Lg.chk; rw [if_neg hk, if_neg (by rintro (h | h); cases h; exact hk2 h), if_pos ha]
          rw [e]
          clear e hk h3 h4 hk2
          by_cases ha1 : a < 0
          all_goals
            have ha2 : a < 0 ∨ 0 ≤ a ∧ 32 < a := by omega
            clear ha
            rcases hk3 with hk3 | ⟨rfl, rfl⟩
          · clear ha2
            go_enter Tryz.func54, Tryz.ntmps54
            go_wp2_with fail
            with_reducible refine N1.use ?_
            rintro e w' ⟨rfl, rfl⟩
            go_wp2_with fail
            go_ret
            exact ⟨rfl, HB.out⟩
          · clear ha2
            go_enter Tryz.func54, Tryz.ntmps54
            go_wp2_with fail
            with_reducible refine N1.use ?_
            rintro e w' ⟨rfl, rfl⟩
            go_wp2_with fail
            with_reducible refine N2.use ?_
            rintro e w' ⟨rfl, rfl⟩
            go_wp2_with fail
            go_ret
            exact ⟨rfl, HB.out⟩
          · have ha3 : 32 < a := by omega
            clear ha2
            go_enter Tryz.func54, Tryz.ntmps54
            go_wp2_with fail
            with_reducible refine N1.use ?_
            rintro e w' ⟨rfl, rfl⟩
            go_wp2_with fail
            go_ret
            exact ⟨rfl, HB.out⟩
          · have ha3 : 32 < a := by omega
            clear ha2
            go_enter Tryz.func54, Tryz.ntmps54
            go_wp2_with fail
            with_reducible refine N1.use ?_
            rintro e w' ⟨rfl, rfl⟩
            go_wp2_with fail
            with_reducible refine N2.use ?_
            rintro e w' ⟨rfl, rfl⟩
            go_wp2_with fail
            go_ret
            exact ⟨rfl, HB.out⟩
        · have ha0 : 0 ≤ a := by omega
          have ha32 : a ≤ 32 := by omega
          by_cases hx6 : 64 < tx.size
          · have e : Lg.chk k true b2 a tx.size xt xx = 2 := by unfold Lg.chk; rw [if_neg hk, if_neg (by rintro (h | h); cases h; exact hk2 h), if_neg ha, if_pos hx6]
            rw [e]
            clear e hk h3 h4 hk2 ha
            rcases hk3 with hk3 | ⟨rfl, rfl⟩
            · go_enter Tryz.func54, Tryz.ntmps54
              go_wp2_with fail
              with_reducible refine N1.use ?_
              rintro e w' ⟨rfl, rfl⟩
              go_wp2_with fail
              go_ret
              exact ⟨rfl, HB.out⟩
            · go_enter Tryz.func54, Tryz.ntmps54
              go_wp2_with fail
              with_reducible refine N1.use ?_
              rintro e w' ⟨rfl, rfl⟩
              go_wp2_with fail
              with_reducible refine N2.use ?_
              rintro e w' ⟨rfl, rfl⟩
              go_wp2_with fail
              go_ret
              exact ⟨rfl, HB.out⟩
          · obtain ⟨xa, h5⟩ : ∃ b, (a != 0) = b := ⟨_, rfl⟩
            have e : Lg.chk k true b2 a tx.size xt xx = if (k ≠ 5 ∧ xt = false) ∨ (k ≠ 3 ∧ xx = false) ∨ ((k = 2 ∨ k = 5) ∧ xa = true) then 3 else 0 := by
              rw [← h5]
              unfold Lg.chk
              rw [if_neg hk, if_neg (by rintro (h | h); cases h; exact hk2 h), if_neg ha, if_neg hx6]
              simp only [bne_iff_ne]
            rw [e]
            obtain ⟨r, hr⟩ : ∃ r : Nat, (if (k ≠ 5 ∧ xt = false) ∨ (k ≠ 3 ∧ xx = false) ∨ ((k = 2 ∨ k = 5) ∧ xa = true) then 3 else 0) = r := ⟨_, rfl⟩
            rw [hr]
            have HR := Lib.hid hr
            clear e hk hk2 ha hr
            obtain rfl | rfl | rfl | rfl | rfl : k = 1 ∨ k = 2 ∨ k = 3 ∨ k = 4 ∨ k = 5 := by omega
            · clear hk3
              rcases xt with _ | _ <;> rcases xx with _ | _
              all_goals
                go_enter Tryz.func54, Tryz.ntmps54
                go_wp2_with fail
                with_reducible refine N1.use ?_
                rintro e w' ⟨rfl, rfl⟩
                go_wp2_with fail
                go_ret
                exact ⟨by rw [← HR.out]; rfl, HB.out⟩
            · clear hk3
              rcases xt with _ | _ <;> rcases xx with _ | _ <;> rcases xa with _ | _
              all_goals
                go_enter Tryz.func54, Tryz.ntmps54
                go_wp2_with fail
                with_reducible refine N1.use ?_
                rintro e w' ⟨rfl, rfl⟩
                go_wp2_with fail
                go_ret
                exact ⟨by rw [← HR.out]; rfl, HB.out⟩
            · clear hk3
              rcases xt with _ | _
              all_goals
                go_enter Tryz.func54, Tryz.ntmps54
                go_wp2_with fail
                with_reducible refine N1.use ?_
                rintro e w' ⟨rfl, rfl⟩
                go_wp2_with fail
                go_ret
                exact ⟨by rw [← HR.out]; rfl, HB.out⟩
            · clear hk3
              rcases xt with _ | _ <;> rcases xx with _ | _
              all_goals
                go_enter Tryz.func54, Tryz.ntmps54
                go_wp2_with fail
                with_reducible refine N1.use ?_
                rintro e w' ⟨rfl, rfl⟩
                go_wp2_with fail
                go_ret
                exact ⟨by rw [← HR.out]; rfl, HB.out⟩
            · obtain rfl : b2 = true := by rcases hk3 with h | h; exact absurd rfl h; exact h.2
              clear hk3
              rcases xx with _ | _ <;> rcases xa with _ | _
              all_goals
                go_enter Tryz.func54, Tryz.ntmps54
                go_wp2_with fail
                with_reducible refine N1.use ?_
                rintro e w' ⟨rfl, rfl⟩
                go_wp2_with fail
                with_reducible refine N2.use ?_
                rintro e w' ⟨rfl, rfl⟩
                go_wp2_with fail
                go_ret
                exact ⟨by rw [← HR.out]; rfl, HB.out⟩

end Go.Proofs.YtenkdpogdfcbgaaGreat
