/- What the walk of ListsOwn keeps account of. -/
import Derived.Test.YtnbdceigenndfaaLoC
import Derived.Test.YtnbdceigenndfaaLoS
import Derived.Test.YtnbdceigenndfaaArgs
import Derived.Test.YtnbdceigenndfaaPolyK
namespace Go.Proofs.Ytnbdceigenndfaa
open Go.RowKit

/-- The rows that are held, where the law's walk stands. -/
structure Ls (w : World) (base : Nat) (rs : List Hr) (V : World) : Prop where
  hb : Below w.heap.size w V
  rows : Rows V base rs
  lo : w.heap.size ≤ base
  hi : base ≤ V.heap.size
theorem Ls.on {w V V' : World} {base : Nat} {rs : List Hr} (h : Ls w base rs V) (hb : Below V.heap.size V V') : Ls w base rs V' :=
  ⟨h.hb.trans (hb.mono h.hb.size), h.rows.keep hb, h.lo, Nat.le_trans h.hi hb.size⟩
theorem Ls.cons {w V V' : World} {base k n : Nat} {rs : List Hr} {T : TypeId} {v : Value} {xs : List Value} (h : Ls w base rs V) (hb : Below V.heap.size V V') (ho : V'.ownsRow V.heap.size T k v n xs) : Ls w base (⟨T, k, v, n, xs⟩ :: rs) V' :=
  ⟨h.hb.trans (hb.mono h.hb.size), h.rows.cons hb ho h.hi, h.lo, Nat.le_trans h.hi hb.size⟩
theorem Ls.other {w V V' : World} {base j : Nat} {rs : List Hr} (h : Ls w base rs V) (hg : V.grownBy V' (some j)) (h1 : w.heap.size ≤ j) (h2 : j < base) : Ls w base rs V' :=
  ⟨h.hb.grown hg h.hb.size (fun k e => by cases e; exact h1), h.rows.other hg (fun k e => by cases e; exact h2), h.lo, Nat.le_trans h.hi hg.size⟩
theorem Ls.get {w V : World} {base : Nat} {rs : List Hr} (h : Ls w base rs V) (i : Nat) {r : Hr} (hr : rs[i]? = some r) : V.ownsRow base r.T r.k r.v r.n r.xs := h.rows.get i hr
theorem Ls.small {w V : World} {base T k n c : Nat} {a : Option Addr} {xs : List Value} {rs : List Hr} (h : Ls w base rs V) (i : Nat) (hr : rs[i]? = some ⟨T, k, .slice a n c, n, xs⟩) : n ≤ 9223372036854775807 ∧ c ≤ 9223372036854775807 := by
  obtain ⟨a', c', q, q1, q2, -⟩ := lo_shape (h.get i hr)
  cases q
  unfold maxLen at q2
  exact ⟨Nat.le_trans q1 q2, q2⟩
theorem Ls.spoil {w V V' : World} {base : Nat} {rs rs' : List Hr} {r : Hr} (h : Ls w base rs V) (i : Nat) (hr : rs[i]? = some r) (he : rs.eraseIdx i = rs') (hg : V.grownBy V' r.v.ownBlock) : Ls w base rs' V' := by
  subst he
  exact ⟨h.hb.grown hg h.hb.size (fun k e => Nat.le_trans h.lo (lo_base (h.get i hr) k e)), h.rows.spoil i hr hg, h.lo, Nat.le_trans h.hi hg.size⟩

theorem iv_ints (l : List Nat) : iv l = (l.map Int.ofNat).map (Value.int .i64) := by
  unfold iv
  rw [List.map_map]
  rfl
theorem iv_oneL (l : List Nat) : ∀ u ∈ iv l, u.oneCell' = true := by
  intro u hu
  obtain ⟨p, -, rfl⟩ := List.mem_map.1 hu
  rfl
theorem int_oneL (l : List Int) : ∀ u ∈ l.map (Value.int .i64), u.oneCell' = true := by
  intro u hu
  obtain ⟨p, -, rfl⟩ := List.mem_map.1 hu
  rfl
theorem str_oneL (l : List ByteArray) : ∀ u ∈ l.map Value.string, u.oneCell' = true := by
  intro u hu
  obtain ⟨p, -, rfl⟩ := List.mem_map.1 hu
  rfl
theorem stv_oneL (l : List (Bool × Nat)) : ∀ u ∈ stv l, u.oneCell' = true := by
  induction l with
  | nil => intro u hu; cases hu
  | cons t l ih =>
    obtain ⟨b, s⟩ := t
    intro u hu
    rw [stv] at hu
    rcases List.mem_cons.1 hu with rfl | hu
    · rfl
    · rcases List.mem_cons.1 hu with rfl | hu
      · rfl
      · exact ih u hu

theorem kv_oneL (l : List Lz.Tk) : ∀ u ∈ kv l, u.oneCell' = true := by
  induction l with
  | nil => intro u hu; cases hu
  | cons t l ih =>
    intro u hu
    rw [kv] at hu
    rcases List.mem_cons.1 hu with rfl | hu
    · rfl
    · rcases List.mem_cons.1 hu with rfl | hu
      · rfl
      · rcases List.mem_cons.1 hu with rfl | hu
        · rfl
        · exact ih u hu

theorem equal_iv (a b : Option Addr) (n c1 c2 : Nat) (l : List Nat) (w : World) (h1 : At w a n 1 (iv l)) (h2 : At w b n 1 (iv l)) (hn : n ≤ 9223372036854775807) :
    Calls Try.prog 5 #[.slice a n c1, .slice b n c2] w fun e w' => e = .returned (.bool true) ∧ Below w.heap.size w w' := by
  rw [iv_ints] at h1 h2
  exact equal_i a b n c1 c2 _ w h1 h2 (by have := h1.len; rw [List.length_map] at this; omega) hn

theorem at_texts {w : World} {a : Option Addr} {n : Nat} {ss : List ByteArray} (h : At w a n 1 (ss.map Value.string)) : TextsAt w a n ss := fun h0 => by
  obtain ⟨x, hx⟩ := h.there h0
  have hl : ss.length = n := by have := h.len; rw [List.length_map] at this; omega
  exact ⟨x, hx, fun i hi => h.cells x hx i _ (by
    rw [List.getElem?_map, List.getElem?_eq_getElem (by omega)]
    simp [List.getD, show i < ss.length by omega])⟩

theorem at_ints {w : World} {a : Option Addr} {n c : Nat} {zs : List Int} (h : IsRowI w a n c zs) : At w a n 1 ((zs.take n).map (Value.int .i64)) ∧ (zs.take n).length = n ∧ n ≤ maxLen ∧ (a = none → n = 0 ∧ c = 0) := by
  rcases h with ⟨rfl, rfl, rfl, rfl⟩ | ⟨x, rfl, h1, h2, h3, h4, -⟩
  · exact ⟨⟨rfl, fun x h => (by cases h), fun h => absurd rfl h⟩, rfl, Nat.zero_le _, fun _ => ⟨rfl, rfl⟩⟩
  · have hl : (zs.take n).length = n := by rw [List.length_take]; omega
    refine ⟨⟨by rw [List.length_map, hl]; omega, fun y hy j u hu => ?_, fun _ => ⟨x, rfl⟩⟩, hl, Nat.le_trans h1 h2, fun h => (by cases h)⟩
    cases hy
    obtain ⟨hj, rfl⟩ := List.getElem?_eq_some_iff.1 hu
    rw [List.length_map, hl] at hj
    rw [h4 j (by omega)]
    simp [List.getD, show j < zs.length by omega]
theorem at_strs {w : World} {a : Option Addr} {n c : Nat} {ss : List ByteArray} (h : IsRowS w a n c ss) : At w a n 1 ((ss.take n).map Value.string) ∧ (ss.take n).length = n ∧ n ≤ maxLen ∧ (a = none → n = 0 ∧ c = 0) := by
  rcases h with ⟨rfl, rfl, rfl, rfl⟩ | ⟨x, rfl, h1, h2, h3, h4, -⟩
  · exact ⟨⟨rfl, fun x h => (by cases h), fun h => absurd rfl h⟩, rfl, Nat.zero_le _, fun _ => ⟨rfl, rfl⟩⟩
  · have hl : (ss.take n).length = n := by rw [List.length_take]; omega
    refine ⟨⟨by rw [List.length_map, hl]; omega, fun y hy j u hu => ?_, fun _ => ⟨x, rfl⟩⟩, hl, Nat.le_trans h1 h2, fun h => (by cases h)⟩
    cases hy
    obtain ⟨hj, rfl⟩ := List.getElem?_eq_some_iff.1 hu
    rw [List.length_map, hl] at hj
    rw [h4 j (by omega)]
    simp [List.getD, show j < ss.length by omega]

theorem fin4 : G.Fin 4 [2, 2] where
  prod := by decide +kernel
  irr := fun p hp => (G.irrB_iff p).1 (by
    rcases List.mem_cons.1 hp with rfl | hp
    · decide +kernel
    · rw [List.mem_singleton.1 hp]; decide +kernel)
  sorted := by decide

end Go.Proofs.Ytnbdceigenndfaa
