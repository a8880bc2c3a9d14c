import Derived.Test.YteddendidjhmbaaBgW6
/- bag.Put, whole. -/
namespace Go.Proofs.Yteddendidjhmbaa
open Go.RowKit

theorem Put_I (a : Option Addr) (n c : Nat) (ts : List Bg.It) (t : ByteArray) (w : World) (hT : ISl w a n c ts) (hs : ∀ t ∈ ts, t.text.size ≤ maxLen) (htm : t.size ≤ maxLen) :
    Calls Try.prog 22 #[.slice a n c, .string t] w (PutTo w (Bg.putR Bg.Pr ts t)) := by
  by_cases h0 : Bg.checkE Bg.Pr ts = 0
  · by_cases ht : 64 < t.size
    · have := Put_large a n c ts t w hT hs h0 ht htm
      unfold Bg.putR
      rw [if_neg (fun h => h h0), if_pos ht]
      exact this
    · cases hr : ts.findIdx? (Bg.same t) with
      | some k =>
        have hk := (idx_some hr).2
        have := Put_there a n c ts t k w hT hs h0 (by omega) hr hk _ rfl
        unfold Bg.putR
        rw [if_neg (fun h => h h0), if_neg ht, hr]
        simp only [List.getElem?_eq_getElem hk]
        exact this
      | none =>
        by_cases hn : n = 64
        · have := Put_full a n c ts t w hT hs h0 (by omega) hr hn
          unfold Bg.putR
          rw [if_neg (fun h => h h0), if_neg ht, hr]
          simp only
          rw [if_pos (by rw [hT.len]; exact hn)]
          exact this
        · obtain ⟨k, hk, h1, h2⟩ := Bg.free_ex (Bg.check_sorted h0) (Bg.Pr t)
          have := Put_new a n c ts t w hT hs h0 (by omega) hr hn k hk h1 h2
          unfold Bg.putR
          rw [if_neg (fun h => h h0), if_neg ht, hr]
          simp only
          rw [if_neg (by rw [hT.len]; exact hn), Bg.free_at hk h1 h2]
          exact this
  · have := Put_bad a n c ts t _ w hT hs rfl h0
    unfold Bg.putR
    rw [if_pos h0]
    exact this

end Go.Proofs.Yteddendidjhmbaa

/- The walks of woolkeep.two, used, refs, and of slices.Equal at items. -/
namespace Go.Proofs.Yteddendidjhmbaa
open Go.RowKit

def Bg.tA : ByteArray := ⟨#[97]⟩
def Bg.tB : ByteArray := ⟨#[98]⟩
def Bg.tC : ByteArray := ⟨#[99]⟩
def Bg.twoL : List Bg.It := [⟨353, 0, Bg.tA, 1⟩, ⟨354, 0, Bg.tB, 1⟩]

theorem two1 : Bg.putR Bg.Pr [] ⟨#[97]⟩ = ⟨[⟨353, 0, ⟨#[97]⟩, 1⟩], ⟨true, 353, 0⟩, 0⟩ := by kernel_rfl
theorem two2 : Bg.putR Bg.Pr [⟨353, 0, ⟨#[97]⟩, 1⟩] ⟨#[98]⟩ = ⟨Bg.twoL, ⟨true, 354, 0⟩, 0⟩ := by kernel_rfl
theorem two_check : Bg.checkE Bg.Pr Bg.twoL = 0 := by kernel_rfl

theorem isl_nil (w : World) : ISl w none 0 0 [] := ⟨fun h => absurd rfl h, rfl, Nat.le_refl _, Nat.zero_le _, fun _ => ⟨rfl, rfl⟩⟩

theorem own_isl {w : World} {base n c : Nat} {e : TypeId} {a : Option Addr} {ts : List Bg.It} (h : w.ownsRow base e 4 (.slice a n c) n (tv ts)) (hn : ts.length = n) : ISl w a n c ts := by
  obtain ⟨a', c', he, h'⟩ := isl_own h hn
  cases he
  exact h'

set_option maxHeartbeats 1000000 in
theorem two_I (w : World) : Calls Try.prog 20 #[] w fun e w' => ∃ a c, e = .returned (.slice a 2 c) ∧ w'.ownsRow w.heap.size 37 4 (.slice a 2 c) 2 (tv Bg.twoL) ∧ Below w.heap.size w w' := by
  have P1 := Put_I none 0 0 [] ⟨#[97]⟩ w (isl_nil w) (fun t ht => absurd ht (by simp)) (by unfold maxLen; decide)
  rw [two1] at P1
  go_enter Try.func20, Try.ntmps20
  go_wp2_with fail
  with_reducible refine P1.mono ?_
  rintro e w1 ⟨a, n, c, rfl, ho, hn, hb⟩
  obtain rfl : n = 1 := hn.symm
  have HO := Lib.hid ho; have HB := Lib.hid hb
  clear ho hb hn P1
  have HB1 : Hid (∀ o, Below w.heap.size w (w1.alloc o)) := Lib.hid fun o => HB.out.alloc HB.out.size o
  have P2 := fun o => Put_I a 1 c [⟨353, 0, ⟨#[97]⟩, 1⟩] ⟨#[98]⟩ (w1.alloc o) (own_isl (HO.out.alloc o) rfl) (fun t ht => by obtain rfl := List.mem_singleton.1 ht; unfold maxLen; decide) (by unfold maxLen; decide)
  rw [two2] at P2
  go_wp2_with fail
  with_reducible refine (P2 _).mono ?_
  rintro e w2 ⟨a2, n2, c2, rfl, ho2, hn2, hb2⟩
  obtain rfl : n2 = 2 := hn2.symm
  have HO2 := Lib.hid (own_low ho2 (HB1.out _).size); have HB2 := Lib.hid ((HB1.out _).trans (hb2.mono (HB1.out _).size))
  clear ho2 hb2 hn2 P2
  go_wp2_with fail
  go_ret
  exact ⟨a2, c2, rfl, HO2.out, HB2.out⟩

/-- How often a text is used. -/
def Bg.usedV (l : List Bg.It) (s : ByteArray) : Int := match l.find? (Bg.same s) with
  | some x => x.refs
  | none => 0

theorem Bg.usedV_hit {l : List Bg.It} {s : ByteArray} {k : Nat} (hk : k < l.length) (h : Bg.same s l[k] = true) (hb : ∀ j (hj : j < k), Bg.same s (l[j]'(by omega)) = false) : Bg.usedV l s = l[k].refs := by
  have : l.find? (Bg.same s) = some l[k] := List.find?_eq_some_iff_getElem.2 ⟨h, k, hk, rfl, fun j hj => by rw [hb j hj]; rfl⟩
  unfold Bg.usedV
  rw [this]

theorem Bg.usedV_miss {l : List Bg.It} {s : ByteArray} (hb : ∀ j (hj : j < l.length), Bg.same s l[j] = false) : Bg.usedV l s = 0 := by
  have : l.find? (Bg.same s) = none := List.find?_eq_none.2 fun x hx => by
    obtain ⟨j, hj, rfl⟩ := List.getElem_of_mem hx
    rw [hb j hj]; decide
  unfold Bg.usedV
  rw [this]

set_option maxHeartbeats 1000000 in
theorem used_I (a : Option Addr) (n c : Nat) (ts : List Bg.It) (s : ByteArray) (w : World) (hT : ISl w a n c ts) (hn : n ≤ 1099511627776) :
    Calls Try.prog 21 #[.slice a n c, .string s] w fun e w' => e = .returned (.int .i64 (Bg.usedV ts s)) ∧ Below w.heap.size w w' := by
  have HT := Lib.hid hT
  clear hT
  go_enter Try.func21, Try.ntmps21
  go_wp2_with fail
  go_loopg [9] n (fun gg x wr => ∃ k : Nat, k ≤ n ∧ n - k ≤ gg ∧ x = .int .i64 k ∧ Hid (Below w.heap.size w wr) ∧ Hid (∀ j (_ : j < k) (hj : j < ts.length), Bg.same s ts[j] = false))
  case atStart => exact ⟨0, Nat.zero_le _, by omega, rfl, Lib.hid (Below.refl _ w), Lib.hid fun j hj => absurd hj (Nat.not_lt_zero _)⟩
  case round =>
    obtain ⟨k, hk, hg, rfl, BW, A⟩ := hrel
    by_cases hlt : k < n
    · have hk' : k < ts.length := by rw [HT.out.len]; exact hlt
      have hsz := BW.out.size
      obtain ⟨X, b, o, q, rfl, hX, c1, c2, c3, c4⟩ := (HT.out.keep BW.out).get hk'
      have BA := Lib.hid fun o => BW.out.alloc hsz o
      cases hq : Bg.same s ts[k] with
      | true =>
        have HR := Lib.hid (Bg.usedV_hit hk' hq (fun j hj => A.out j hj (by omega)))
        have hq' : (ts[k].text.toList == s.toList) = true := hq
        clear hq
        generalize ts[k].sum = f1 at *
        generalize ts[k].n = f2 at *
        generalize ts[k].text = f3 at *
        generalize ts[k].refs = f4 at *
        go_wp2_with fail
        go_ret
        exact ⟨by rw [HR.out]; rfl, BA.out _⟩
      | false =>
        have hq' : (ts[k].text.toList == s.toList) = false := hq
        have A' : Hid (∀ j (_ : j < k + 1) (hj : j < ts.length), Bg.same s ts[j] = false) := Lib.hid fun j hj hj' => by
          by_cases e : j = k
          · subst e; exact hq
          · exact A.out j (by omega) hj'
        clear hq
        generalize ts[k].sum = f1 at *
        generalize ts[k].n = f2 at *
        generalize ts[k].text = f3 at *
        generalize ts[k].refs = f4 at *
        go_wp2_with fail
        go_roundg (n - (k + 1))
        case measure => omega
        case rel => exact ⟨k + 1, by omega, by omega, by go_num, Lib.hid (BA.out _), A'⟩
    · obtain rfl : k = n := by omega
      go_wp2_with fail
      go_ret
      exact ⟨by rw [Bg.usedV_miss fun j hj => A.out j (by rw [← HT.out.len]; exact hj) hj]; rfl, BW.out⟩

/-- How often all blocks are used. -/
def Bg.refsV (l : List Bg.It) : Int := (l.map fun x => x.refs).sum

theorem Bg.refsV_take (l : List Bg.It) {k : Nat} (hk : k < l.length) : Bg.refsV (l.take (k + 1)) = Bg.refsV (l.take k) + l[k].refs := by
  unfold Bg.refsV
  rw [List.take_succ_eq_append_getElem hk, List.map_append, List.sum_append]
  simp

theorem Bg.refsV_bound (l : List Bg.It) (h : ∀ x ∈ l, 1 ≤ x.refs ∧ x.refs ≤ 1000000) : 0 ≤ Bg.refsV l ∧ Bg.refsV l ≤ 1000000 * l.length := by
  induction l with
  | nil => exact ⟨Int.le_refl _, by simp [Bg.refsV]⟩
  | cons x l ih =>
    have h1 := h x List.mem_cons_self
    have h2 := ih fun y hy => h y (List.mem_cons_of_mem _ hy)
    have e : Bg.refsV (x :: l) = x.refs + Bg.refsV l := by unfold Bg.refsV; simp
    rw [e, List.length_cons]
    omega

set_option maxHeartbeats 1000000 in
theorem refs_I (a : Option Addr) (n c : Nat) (ts : List Bg.It) (w : World) (hT : ISl w a n c ts) (hn : n ≤ 64) (hr : ∀ x ∈ ts, 1 ≤ x.refs ∧ x.refs ≤ 1000000) :
    Calls Try.prog 25 #[.slice a n c] w fun e w' => e = .returned (.int .i64 (Bg.refsV ts)) ∧ Below w.heap.size w w' := by
  have HT := Lib.hid hT
  have HR := Lib.hid hr
  clear hT hr
  go_enter Try.func25, Try.ntmps25
  go_wp2_with fail
  go_loopw [3, 8] (fun m x wr => ∃ k : Nat, k ≤ n ∧ x = .int .i64 k ∧ m = .int .i64 (Bg.refsV (ts.take k)) ∧ Hid (Below w.heap.size w wr)) (fun _ x _ => n - (intOf x).toNat)
  case atStart => exact ⟨0, Nat.zero_le _, rfl, rfl, Lib.hid (Below.refl _ w)⟩
  case round =>
    obtain ⟨k, hk, rfl, rfl, BW⟩ := hrel
    by_cases hlt : k < n
    · have hk' : k < ts.length := by rw [HT.out.len]; exact hlt
      have hsz := BW.out.size
      obtain ⟨X, b, o, q, rfl, hX, c1, c2, c3, c4⟩ := (HT.out.keep BW.out).get hk'
      have BA := Lib.hid fun o => BW.out.alloc hsz o
      have HE := Lib.hid (Bg.refsV_take ts hk')
      have hb := Bg.refsV_bound (ts.take k) fun x hx => HR.out x (List.mem_of_mem_take hx)
      have hbl : (ts.take k).length ≤ 64 := by rw [List.length_take]; omega
      have hb1 := HR.out ts[k] (List.getElem_mem hk')
      obtain ⟨hb2, hb3⟩ := hb
      have hb4 : Bg.refsV (ts.take k) ≤ 64000000 := by omega
      clear hb3
      generalize ts[k].sum = f1 at *
      generalize ts[k].n = f2 at *
      generalize ts[k].text = f3 at *
      generalize ts[k].refs = f4 at *
      generalize Bg.refsV (ts.take k) = m at *
      obtain ⟨hb5, hb6⟩ := hb1
      go_wp2_with fail
      go_roundw
      case rel => exact ⟨k + 1, by omega, by go_num, by rw [HE.out], Lib.hid (BA.out _)⟩
      case measure => simp [intOf]; omega
    · obtain rfl : k = n := by omega
      go_wp2_with fail
      go_ret
      exact ⟨by rw [List.take_of_length_le (by rw [HT.out.len]; exact Nat.le_refl _)]; rfl, BW.out⟩

set_option maxRecDepth 100000 in
set_option maxHeartbeats 2000000 in
theorem Equal_I (a b : Option Addr) (n c1 c2 : Nat) (l : List Bg.It) (w : World) (h1 : ISl w a n c1 l) (h2 : ISl w b n c2 l) (hn : n ≤ 1099511627776) :
    Calls Try.prog 27 #[.slice a n c1, .slice b n c2] w fun e w' => e = .returned (.bool true) ∧ ∃ q, w' = w.drewN q := by
  have H1 := Lib.hid h1; have H2 := Lib.hid h2; clear h1 h2
  go_enter Try.func27, Try.ntmps27
  go_wp2_with fail
  go_loopw [13] (fun x wr => ∃ k : Nat, k ≤ n ∧ x = .int .i64 k ∧ ∃ j, wr = w.drewN j) (fun x _ => n - (intOf x).toNat)
  case atStart => exact ⟨0, Nat.zero_le _, rfl, 0, rfl⟩
  case round =>
    obtain ⟨k, hk, rfl, hj⟩ := hrel
    by_cases hlt : k < n
    · have hk' : k < l.length := by rw [H1.out.len]; exact hlt
      obtain ⟨A, b1, o1, q1, rfl, hX, c1, c2, c3, c4⟩ := H1.out.get hk'
      obtain ⟨B, b2, o2, q2, rfl, hY, d1, d2, d3, d4⟩ := H2.out.get hk'
      generalize l[k].sum = f1 at *
      generalize l[k].n = f2 at *
      generalize l[k].text = f3 at *
      generalize l[k].refs = f4 at *
      obtain ⟨j, rfl⟩ := hj
      go_wp2_with fail
      go_region
      all_goals
        go_wp2_with fail
        go_roundw
        case rel => exact ⟨k + 1, hlt, by go_num, j + 1, rfl⟩
        case measure => simp [intOf]; omega
    · obtain rfl : k = n := by omega
      go_wp2_with fail
      go_ret
      exact ⟨rfl, hj⟩

end Go.Proofs.Yteddendidjhmbaa
