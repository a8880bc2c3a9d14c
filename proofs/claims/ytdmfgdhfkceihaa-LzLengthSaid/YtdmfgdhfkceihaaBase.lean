/- Small facts that the walks of this seat share: a string's bytes as integers, run equations for an index and for sums. -/
import Derived.Test.YtdmfgdhfkceihaaRows
import Derived.WalkKit
import Derived.WalkSpells
import Derived.WalkLawsBesides
import Derived.Deep.QuietTactic
import Derived.BigQuiet
import Derived.Lib.Hide
import Derived.Lib.Strings
namespace Go.Proofs.Ytdmfgdhfkceihaa
open Go.RowKit

/-- Byte k of a text, as an integer (0 behind its end). -/
def bt (l : List UInt8) (k : Nat) : Int := ((l.getD k 0).toNat : Int)

theorem bt_lo (l : List UInt8) (k : Nat) : 0 ≤ bt l k := Int.natCast_nonneg _
theorem bt_hi (l : List UInt8) (k : Nat) : bt l k < 256 := by
  unfold bt; have := (l.getD k 0).toNat_lt; omega
theorem bt_hi' (l : List UInt8) (k : Nat) : bt l k ≤ 255 := by have := bt_hi l k; omega

theorem getD_in {α : Type} (l : List α) (k : Nat) (x : α) (h : k < l.length) : l.getD k x = l[k] := by
  rw [List.getD_eq_getElem?_getD, List.getElem?_eq_getElem h, Option.getD_some]

theorem bt_eq_iff (l : List UInt8) (a b : Nat) (ha : a < l.length) (hb : b < l.length) : bt l a = bt l b ↔ l[a]? = l[b]? := by
  unfold bt
  rw [List.getElem?_eq_getElem ha, List.getElem?_eq_getElem hb, getD_in _ _ _ ha, getD_in _ _ _ hb]
  constructor
  · intro h; exact congrArg some (UInt8.toNat_inj.1 (by omega))
  · intro h; rw [Option.some.inj h]

theorem get_bt (s : ByteArray) (k : Nat) (hk : k < s.size) : ((s[k]'hk).toNat : Int) = bt s.data.toList k := by
  unfold bt
  rw [getD_in _ _ _ (by simpa using hk)]
  rfl

/-- An index into a string, as a rewrite rule. -/
theorem idx_str {P : Program} {t : TypeId} (hu : P.underlying t = some .string) {s : ByteArray} {x : Int} {k : Nat} (hx : x = k) (hk : k < s.size) :
    ∀ w, (Instr.index t (.string s) (.int .i64 x)).run P w = .ok (.int .u8 (bt s.data.toList k)) w := by
  intro w
  subst hx
  rw [run_index_string (h := hu), dif_pos ⟨by omega, by omega⟩]
  rw [← get_bt s k hk]
  rfl

/-- A piece of a string, as a rewrite rule. -/
theorem sl_str {P : Program} {t : TypeId} (hu : P.underlying t = some .string) {s : ByteArray} {x y : Int} {a b : Nat} (hx : x = a) (hy : y = b) (hab : a ≤ b) (hb : b ≤ s.size) :
    ∀ w, (Instr.slice t (.string s) (some (.int .i64 x)) (some (.int .i64 y)) none).run P w = .ok (.string (s.extract a b)) w := by
  intro w
  subst hx; subst hy
  have := run_slice_string w t s .i64 .i64 a b hu (by omega) (by omega) (by omega)
  simpa using this

theorem ext_list (s : ByteArray) (a b : Nat) : (s.extract a b).toList = (s.data.toList.drop a).take (b - a) := Lib.extract_toList s a b

theorem dd (w : World) (a b : Nat) : (w.drewN a).drewN b = w.drewN (a + b) := World.drewN_drewN ..

theorem grown_drewN (w : World) (n : Nat) : Grown w (w.drewN n) := Grown.refl w

theorem cell_new (w : World) {T : TypeId} {xs : Array Value} {k : Nat} {v : Value} (h : xs[k]? = some v) : (w.alloc (.cells xs T)).cell? ⟨w.heap.size, k, none⟩ = some v := by
  rw [World.cell?_alloc_new]; exact h

theorem lit9 {α : Type} (v : α) {k : Nat} (h : k < 9) : (#[v, v, v, v, v, v, v, v, v] : Array α)[k]? = some v := by
  match k, h with
  | 0, _ | 1, _ | 2, _ | 3, _ | 4, _ | 5, _ | 6, _ | 7, _ | 8, _ => rfl

theorem lit10 {α : Type} (v : α) {k : Nat} (h : k < 10) : (#[v, v, v, v, v, v, v, v, v, v] : Array α)[k]? = some v := by
  match k, h with
  | 0, _ | 1, _ | 2, _ | 3, _ | 4, _ | 5, _ | 6, _ | 7, _ | 8, _ | 9, _ => rfl

theorem retb {x y : Bool} (h : x = y) : Ending.returned (.bool x) = Ending.returned (.bool y) := by rw [h]

theorem wr {x : Int} (h : -9223372036854775808 ≤ x ∧ x ≤ 9223372036854775807) : IntKind.i64.wrap x = x := IntWalk.i64_in _ h

end Go.Proofs.Ytdmfgdhfkceihaa
