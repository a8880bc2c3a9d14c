import Derived.Test.YthccdoejnklidaaBgW6
/- bag.Put, whole. -/
namespace Go.Proofs.Ythccdoejnklidaa
open Go.RowKit

theorem Put_I (a : Option Addr) (n c : Nat) (ts : List Bg.It) (t : ByteArray) (w : World) (hT : ISl w a n c ts) (hs : ∀ t ∈ ts, t.text.size ≤ maxLen) (htm : t.size ≤ maxLen) :
    Calls Try.prog 50 #[.slice a n c, .string t] w (PutTo w (Bg.putR Bg.Pr ts t)) := by
  by_cases h0 : Bg.checkE Bg.Pr ts = 0
  · by_cases ht : 64 < t.size
    · have := Put_large a n c ts t w hT hs h0 ht htm
      unfold Bg.putR
      rw [if_neg (fun h => h h0), if_pos ht]
      exact this
    · cases hr : ts.findIdx? (Bg.same t) with
      | some k =>
        have hk := (idx_some hr).2
        have := Put_there a n c ts t k w hT hs h0 (by omega) hr hk _ rfl
        unfold Bg.putR
        rw [if_neg (fun h => h h0), if_neg ht, hr]
        simp only [List.getElem?_eq_getElem hk]
        exact this
      | none =>
        by_cases hn : n = 64
        · have := Put_full a n c ts t w hT hs h0 (by omega) hr hn
          unfold Bg.putR
          rw [if_neg (fun h => h h0), if_neg ht, hr]
          simp only
          rw [if_pos (by rw [hT.len]; exact hn)]
          exact this
        · obtain ⟨k, hk, h1, h2⟩ := Bg.free_ex (Bg.check_sorted h0) (Bg.Pr t)
          have := Put_new a n c ts t w hT hs h0 (by omega) hr hn k hk h1 h2
          unfold Bg.putR
          rw [if_neg (fun h => h h0), if_neg ht, hr]
          simp only
          rw [if_neg (by rw [hT.len]; exact hn), Bg.free_at hk h1 h2]
          exact this
  · have := Put_bad a n c ts t _ w hT hs rfl h0
    unfold Bg.putR
    rw [if_pos h0]
    exact this

end Go.Proofs.Ythccdoejnklidaa

/- The walks of woolkeep.two, used, refs, and of slices.Equal at items. -/
namespace Go.Proofs.Ythccdoejnklidaa
open Go.RowKit

def Bg.tA : ByteArray := ⟨#[97]⟩
def Bg.tB : ByteArray := ⟨#[98]⟩
def Bg.tC : ByteArray := ⟨#[99]⟩
def Bg.twoL : List Bg.It := [⟨353, 0, Bg.tA, 1⟩, ⟨354, 0, Bg.tB, 1⟩]

theorem two1 : Bg.putR Bg.Pr [] ⟨#[97]⟩ = ⟨[⟨353, 0, ⟨#[97]⟩, 1⟩], ⟨true, 353, 0⟩, 0⟩ := by kernel_rfl
theorem two2 : Bg.putR Bg.Pr [⟨353, 0, ⟨#[97]⟩, 1⟩] ⟨#[98]⟩ = ⟨Bg.twoL, ⟨true, 354, 0⟩, 0⟩ := by kernel_rfl
theorem two_check : Bg.checkE Bg.Pr Bg.twoL = 0 := by kernel_rfl

theorem isl_nil (w : World) : ISl w none 0 0 [] := ⟨fun h => absurd rfl h, rfl, Nat.le_refl _, Nat.zero_le _, fun _ => ⟨rfl, rfl⟩⟩

theorem own_isl {w : World} {base n c : Nat} {e : TypeId} {a : Option Addr} {ts : List Bg.It} (h : w.ownsRow base e 4 (.slice a n c) n (tv ts)) (hn : ts.length = n) : ISl w a n c ts := by
  obtain ⟨a', c', he, h'⟩ := isl_own h hn
  cases he
  exact h'

/-- How often a text is used. -/
def Bg.usedV (l : List Bg.It) (s : ByteArray) : Int := match l.find? (Bg.same s) with
  | some x => x.refs
  | none => 0

theorem Bg.usedV_hit {l : List Bg.It} {s : ByteArray} {k : Nat} (hk : k < l.length) (h : Bg.same s l[k] = true) (hb : ∀ j (hj : j < k), Bg.same s (l[j]'(by omega)) = false) : Bg.usedV l s = l[k].refs := by
  have : l.find? (Bg.same s) = some l[k] := List.find?_eq_some_iff_getElem.2 ⟨h, k, hk, rfl, fun j hj => by rw [hb j hj]; rfl⟩
  unfold Bg.usedV
  rw [this]

theorem Bg.usedV_miss {l : List Bg.It} {s : ByteArray} (hb : ∀ j (hj : j < l.length), Bg.same s l[j] = false) : Bg.usedV l s = 0 := by
  have : l.find? (Bg.same s) = none := List.find?_eq_none.2 fun x hx => by
    obtain ⟨j, hj, rfl⟩ := List.getElem_of_mem hx
    rw [hb j hj]; decide
  unfold Bg.usedV
  rw [this]

/-- How often all blocks are used. -/
def Bg.refsV (l : List Bg.It) : Int := (l.map fun x => x.refs).sum

theorem Bg.refsV_take (l : List Bg.It) {k : Nat} (hk : k < l.length) : Bg.refsV (l.take (k + 1)) = Bg.refsV (l.take k) + l[k].refs := by
  unfold Bg.refsV
  rw [List.take_succ_eq_append_getElem hk, List.map_append, List.sum_append]
  simp

theorem Bg.refsV_bound (l : List Bg.It) (h : ∀ x ∈ l, 1 ≤ x.refs ∧ x.refs ≤ 1000000) : 0 ≤ Bg.refsV l ∧ Bg.refsV l ≤ 1000000 * l.length := by
  induction l with
  | nil => exact ⟨Int.le_refl _, by simp [Bg.refsV]⟩
  | cons x l ih =>
    have h1 := h x List.mem_cons_self
    have h2 := ih fun y hy => h y (List.mem_cons_of_mem _ hy)
    have e : Bg.refsV (x :: l) = x.refs + Bg.refsV l := by unfold Bg.refsV; simp
    rw [e, List.length_cons]
    omega

set_option maxRecDepth 100000 in
set_option maxHeartbeats 2000000 in
theorem Equal_I (a b : Option Addr) (n c1 c2 : Nat) (l : List Bg.It) (w : World) (h1 : ISl w a n c1 l) (h2 : ISl w b n c2 l) (hn : n ≤ 1099511627776) :
    Calls Try.prog 21 #[.slice a n c1, .slice b n c2] w fun e w' => e = .returned (.bool true) ∧ ∃ q, w' = w.drewN q := by
  have H1 := Lib.hid h1; have H2 := Lib.hid h2; clear h1 h2
  go_enter Try.func21, Try.ntmps21
  go_wp2_with fail
  go_loopw [13] (fun x wr => ∃ k : Nat, k ≤ n ∧ x = .int .i64 k ∧ ∃ j, wr = w.drewN j) (fun x _ => n - (intOf x).toNat)
  case atStart => exact ⟨0, Nat.zero_le _, rfl, 0, rfl⟩
  case round =>
    obtain ⟨k, hk, rfl, hj⟩ := hrel
    by_cases hlt : k < n
    · have hk' : k < l.length := by rw [H1.out.len]; exact hlt
      obtain ⟨A, b1, o1, q1, rfl, hX, c1, c2, c3, c4⟩ := H1.out.get hk'
      obtain ⟨B, b2, o2, q2, rfl, hY, d1, d2, d3, d4⟩ := H2.out.get hk'
      generalize l[k].sum = f1 at *
      generalize l[k].n = f2 at *
      generalize l[k].text = f3 at *
      generalize l[k].refs = f4 at *
      obtain ⟨j, rfl⟩ := hj
      go_wp2_with fail
      go_region
      all_goals
        go_wp2_with fail
        go_roundw
        case rel => exact ⟨k + 1, hlt, by go_num, j + 1, rfl⟩
        case measure => simp [intOf]; omega
    · obtain rfl : k = n := by omega
      go_wp2_with fail
      go_ret
      exact ⟨rfl, hj⟩

end Go.Proofs.Ythccdoejnklidaa
