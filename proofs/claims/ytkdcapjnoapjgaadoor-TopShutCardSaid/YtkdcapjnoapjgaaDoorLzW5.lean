/- Rows of tokens that a call made; slices.Equal at tokens; lz.Parse and lz.Expand as the laws use them. -/
import Derived.Test.YtkdcapjnoapjgaaDoorLzW4
namespace Go.Proofs.YtkdcapjnoapjgaaDoor
open Go.RowKit

/-- A row of the call's own holds these tokens. -/
theorem karg_own {w : World} {base n : Nat} {e : TypeId} {v : Value} {ts : List Lz.Tk} (h : w.ownsRow base e 3 v n (kv ts)) (hn : ts.length = n) : ∃ a c, v = .slice a n c ∧ KArg w a n c ts := by
  rcases h.2 with ⟨rfl, h0⟩ | ⟨g, cap, cur, rfl, hb, hh, hnc, hcm, h'⟩
  · have : ts = [] := by
      cases ts with
      | nil => rfl
      | cons t r => simp at hn; omega
    subst this
    exact ⟨none, 0, by rw [← hn]; rfl, fun h => absurd rfl h, hn, by rw [← hn]; exact Nat.le_refl _, Nat.zero_le _⟩
  · refine ⟨_, cap, rfl, fun _ => ⟨⟨g, 0, none⟩, rfl, fun j t hj => ?_⟩, hn, hnc, hcm⟩
    obtain ⟨k1, k2, k3⟩ := kv_get hj
    exact ⟨h.cells (g := g) rfl _ _ k1, h.cells (g := g) rfl _ _ k2, h.cells (g := g) rfl _ _ k3⟩

theorem KArg.take {w : World} {a : Option Addr} {n c : Nat} {ts : List Lz.Tk} (h : KArg w a n c ts) (k : Nat) (hk : k ≤ n) : KArg w a k c (ts.take k) := ⟨fun h0 => by
  obtain ⟨x, rfl, hc⟩ := h.at_ (by rintro rfl; simp at h0)
  exact ⟨x, rfl, fun j t hj => hc j t (by rw [List.getElem?_take] at hj; split at hj; exact hj; cases hj)⟩, by rw [List.length_take, h.len]; omega, Nat.le_trans hk h.cap, h.max⟩

/-- What Parse leaves. -/
def ParseR (w : World) (ts : List Lz.Tk) (n : Nat) (z : Int) (e : Ending) (w' : World) : Prop := ∃ a c, e = .returned (.tuple #[.slice a n c, .int .i64 z]) ∧ KArg w' a n c ts ∧ Below w.heap.size w w'

theorem Parse_K (s : ByteArray) (l : List UInt8) (win n : Nat) (w : World) (hl : s.data.toList = l) (hs : s.size ≤ 600) (hw1 : 1 ≤ win) (hw : win ≤ 256) (hn : (Lz.parse l win).length = n) :
    Calls Tryd.prog 14 #[.string s, .int .i64 win] w (ParseR w (Lz.parse l win) n 0) := by
  subst hl
  subst hn
  refine (Parse_ok s win w hs hw1 hw).mono ?_
  rintro e w' ⟨v, rfl, ho, hb⟩
  obtain ⟨a, c, rfl, hk⟩ := karg_own ho rfl
  exact ⟨a, c, rfl, hk, hb⟩

theorem str_size (l : List UInt8) : (⟨l.toArray⟩ : ByteArray).size = l.length := by
  show l.toArray.size = _; simp

theorem str_list (l : List UInt8) : (⟨l.toArray⟩ : ByteArray).data.toList = l := by simp

theorem Expand_as (a : Option Addr) (n c : Nat) (ts : List Lz.Tk) (l : List UInt8) (z : Int) (w : World) (hT : KArg w a n c ts) (hz : Lz.expE [] ts = z) (hl : Lz.expS [] ts = l) :
    Calls Tryd.prog 22 #[.slice a n c] w fun e w' => e = .returned (.tuple #[.string ⟨l.toArray⟩, .int .i64 z]) ∧ Below w.heap.size w w' := by
  subst hz; subst hl
  exact Expand_K a n c ts w hT

end Go.Proofs.YtkdcapjnoapjgaaDoor
