/- Rows of tokens that a call made; slices.Equal at tokens; lz.Parse and lz.Expand as the laws use them. -/
import Derived.Test.YtdmfgdhfkceihaaLzW4
namespace Go.Proofs.Ytdmfgdhfkceihaa
open Go.RowKit

/-- A row of the call's own holds these tokens. -/
theorem karg_own {w : World} {base n : Nat} {e : TypeId} {v : Value} {ts : List Lz.Tk} (h : w.ownsRow base e 3 v n (kv ts)) (hn : ts.length = n) : ∃ a c, v = .slice a n c ∧ KArg w a n c ts := by
  rcases h.2 with ⟨rfl, h0⟩ | ⟨g, cap, cur, rfl, hb, hh, hnc, hcm, h'⟩
  · have : ts = [] := by
      cases ts with
      | nil => rfl
      | cons t r => simp at hn; omega
    subst this
    exact ⟨none, 0, by rw [← hn]; rfl, fun h => absurd rfl h, hn, by rw [← hn]; exact Nat.le_refl _, Nat.zero_le _⟩
  · refine ⟨_, cap, rfl, fun _ => ⟨⟨g, 0, none⟩, rfl, fun j t hj => ?_⟩, hn, hnc, hcm⟩
    obtain ⟨k1, k2, k3⟩ := kv_get hj
    exact ⟨h.cells (g := g) rfl _ _ k1, h.cells (g := g) rfl _ _ k2, h.cells (g := g) rfl _ _ k3⟩

theorem KArg.take {w : World} {a : Option Addr} {n c : Nat} {ts : List Lz.Tk} (h : KArg w a n c ts) (k : Nat) (hk : k ≤ n) : KArg w a k c (ts.take k) := ⟨fun h0 => by
  obtain ⟨x, rfl, hc⟩ := h.at_ (by rintro rfl; simp at h0)
  exact ⟨x, rfl, fun j t hj => hc j t (by rw [List.getElem?_take] at hj; split at hj; exact hj; cases hj)⟩, by rw [List.length_take, h.len]; omega, Nat.le_trans hk h.cap, h.max⟩

set_option maxRecDepth 100000 in
set_option maxHeartbeats 2000000 in
theorem Equal_K (a b : Option Addr) (n c1 c2 : Nat) (l : List Lz.Tk) (w : World) (h1 : KArg w a n c1 l) (h2 : KArg w b n c2 l) (hn : n ≤ 1099511627776) :
    Calls Try.prog 15 #[.slice a n c1, .slice b n c2] w fun e w' => e = .returned (.bool true) ∧ ∃ q, w' = w.drewN q := by
  have H1 := Lib.hid h1; have H2 := Lib.hid h2; clear h1 h2
  go_enter Try.func15, Try.ntmps15
  go_wp2_with fail
  go_loopw [13] (fun x wr => ∃ k : Nat, k ≤ n ∧ x = .int .i64 k ∧ ∃ j, wr = w.drewN j) (fun x _ => n - (intOf x).toNat)
  case atStart => exact ⟨0, Nat.zero_le _, rfl, 0, rfl⟩
  case round =>
    obtain ⟨k, hk, rfl, hj⟩ := hrel
    by_cases hlt : k < n
    · have hk' : k < l.length := by rw [H1.out.len]; exact hlt
      have hne : l ≠ [] := by rintro rfl; simp at hk'
      obtain ⟨A, rfl, e1⟩ := H1.out.at_ hne
      obtain ⟨B, rfl, e2⟩ := H2.out.at_ hne
      obtain ⟨g1, g2, g3⟩ := e1 k l[k] (List.getElem?_eq_getElem hk')
      obtain ⟨k1, k2, k3⟩ := e2 k l[k] (List.getElem?_eq_getElem hk')
      obtain ⟨yb, yo, ys, hy⟩ : ∃ b o s, A.add (k * 3) = ⟨b, o, s⟩ := ⟨_, _, _, rfl⟩
      rw [← Go.Deep.add_add, hy, show (⟨yb, yo, ys⟩ : Addr).add 1 = ⟨yb, yo + 1, none⟩ from rfl] at g2
      rw [← Go.Deep.add_add, hy, show (⟨yb, yo, ys⟩ : Addr).add 2 = ⟨yb, yo + 2, none⟩ from rfl] at g3
      rw [hy] at g1
      obtain ⟨zb, zo, zs, hz⟩ : ∃ b o s, B.add (k * 3) = ⟨b, o, s⟩ := ⟨_, _, _, rfl⟩
      rw [← Go.Deep.add_add, hz, show (⟨zb, zo, zs⟩ : Addr).add 1 = ⟨zb, zo + 1, none⟩ from rfl] at k2
      rw [← Go.Deep.add_add, hz, show (⟨zb, zo, zs⟩ : Addr).add 2 = ⟨zb, zo + 2, none⟩ from rfl] at k3
      rw [hz] at k1
      clear e1 e2 hne
      generalize l[k].d = x at *
      generalize l[k].n = y at *
      generalize l[k].b = z at *
      obtain ⟨j, rfl⟩ := hj
      go_wp2_with fail
      go_region
      all_goals
        go_wp2_with fail
        go_roundw
        case rel => exact ⟨k + 1, hlt, by go_num, j + 1, rfl⟩
        case measure => simp [intOf]; omega
    · obtain rfl : k = n := by omega
      go_wp2_with fail
      go_ret
      exact ⟨rfl, hj⟩

theorem Equal_KB (a b : Option Addr) (n c1 c2 : Nat) (l : List Lz.Tk) (w : World) (h1 : KArg w a n c1 l) (h2 : KArg w b n c2 l) (hn : n ≤ 1099511627776) :
    Calls Try.prog 15 #[.slice a n c1, .slice b n c2] w fun e w' => e = .returned (.bool true) ∧ Below w.heap.size w w' :=
  (Equal_K a b n c1 c2 l w h1 h2 hn).mono fun _ _ ⟨he, q, hq⟩ => ⟨he, by rw [hq]; exact below_drewN (Below.refl _ _) _⟩

/-- What Parse leaves. -/
def ParseR (w : World) (ts : List Lz.Tk) (n : Nat) (z : Int) (e : Ending) (w' : World) : Prop := ∃ a c, e = .returned (.tuple #[.slice a n c, .int .i64 z]) ∧ KArg w' a n c ts ∧ Below w.heap.size w w'

theorem Parse_K (s : ByteArray) (l : List UInt8) (win n : Nat) (w : World) (hl : s.data.toList = l) (hs : s.size ≤ 600) (hw1 : 1 ≤ win) (hw : win ≤ 256) (hn : (Lz.parse l win).length = n) :
    Calls Try.prog 14 #[.string s, .int .i64 win] w (ParseR w (Lz.parse l win) n 0) := by
  subst hl
  subst hn
  refine (Parse_ok s win w hs hw1 hw).mono ?_
  rintro e w' ⟨v, rfl, ho, hb⟩
  obtain ⟨a, c, rfl, hk⟩ := karg_own ho rfl
  exact ⟨a, c, rfl, hk, hb⟩

theorem str_size (l : List UInt8) : (⟨l.toArray⟩ : ByteArray).size = l.length := by
  show l.toArray.size = _; simp

theorem str_list (l : List UInt8) : (⟨l.toArray⟩ : ByteArray).data.toList = l := by simp

theorem Expand_as (a : Option Addr) (n c : Nat) (ts : List Lz.Tk) (l : List UInt8) (z : Int) (w : World) (hT : KArg w a n c ts) (hz : Lz.expE [] ts = z) (hl : Lz.expS [] ts = l) :
    Calls Try.prog 11 #[.slice a n c] w fun e w' => e = .returned (.tuple #[.string ⟨l.toArray⟩, .int .i64 z]) ∧ Below w.heap.size w w' := by
  subst hz; subst hl
  exact Expand_K a n c ts w hT

end Go.Proofs.Ytdmfgdhfkceihaa
