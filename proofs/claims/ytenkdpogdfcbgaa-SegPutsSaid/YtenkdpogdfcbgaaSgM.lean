import Derived.Test.YtenkdpogdfcbgaaSgW4
import Derived.BigQuiet
/- A map from ids to truths; rows of truths. -/
namespace Go.Proofs.Ytenkdpogdfcbgaa
open Go.RowKit Go.Maps Go.ChangeShapes Go.WideShapes
open Go.ChangeMaps (setBlock heap_setBlock_same heap_setBlock_other)

theorem Try.zeroBoolS (w : World) : (zeroValue 4).run Try.prog w = .ok (.bool false) w := by kernel_rfl

set_option maxRecDepth 100000 in
theorem plain_bool_invS {v : Value} {z : DataW Unit × List MemPlace} (h : plainElem Try.prog 4 v = some z) : ∃ x, v = .bool x ∧ z = (.lit (.bool x), []) := by
  unfold plainElem at h
  rw [Try.underlying4] at h
  cases v <;> simp at h
  exact ⟨_, rfl, h.symm⟩

/-- A map whose entries say whether an id stands in a list. -/
def Sm (W : World) (b : Nat) (N : Nat) (l : List Bg.Id) : Prop :=
  ∃ n D, n ≤ N ∧ W.ownsMap (H := Unit) Try.prog 29 (plainElem Try.prog 4) b n D ∧ ∀ id kl, keyOf Try.prog 29 (idV id) = some kl → D.atKey kl (.lit (.bool false)) = .lit (.bool (decide (id ∈ l)))

theorem Sm.new (w : World) : Sm (w.alloc (.map #[] 0)) w.heap.size 0 [] := ⟨0, .map [], Nat.le_refl _, World.ownsMap_made _ _ _ _, fun a _ _ => by rw [decide_eq_false List.not_mem_nil]; rfl⟩
theorem Sm.keep {W W' : World} {b N : Nat} {l : List Bg.Id} (h : Sm W b N l) (hb : W'.heap[b]? = W.heap[b]?) : Sm W' b N l := by
  obtain ⟨n, D, h1, ⟨es, clock, h2, h3⟩, h4⟩ := h
  exact ⟨n, D, h1, ⟨es, clock, hb.trans h2, h3⟩, h4⟩
theorem Sm.lt {W : World} {b N : Nat} {l : List Bg.Id} (h : Sm W b N l) : b < W.heap.size := by
  obtain ⟨n, D, h1, h2, h4⟩ := h
  exact h2.lt
theorem Sm.on {W W' : World} {b N : Nat} {l : List Bg.Id} (h : Sm W b N l) (hb : Below W.heap.size W W') : Sm W' b N l := h.keep (hb.block b h.lt)
theorem Sm.more {W : World} {b N N' : Nat} {l : List Bg.Id} (h : Sm W b N l) (hN : N ≤ N') : Sm W b N' l := by
  obtain ⟨n, D, h1, h2, h4⟩ := h
  exact ⟨n, D, Nat.le_trans h1 hN, h2, h4⟩
set_option maxRecDepth 100000 in
theorem Sm.iff {W : World} {b N : Nat} {l m : List Bg.Id} (h : Sm W b N l) (hm : ∀ id, id ∈ l ↔ id ∈ m) : Sm W b N m := by
  obtain ⟨n, D, h1, h2, h4⟩ := h
  exact ⟨n, D, h1, h2, fun id kl hk => by rw [h4 id kl hk]; congr 2; exact decide_eq_decide.2 (hm id)⟩

set_option maxRecDepth 100000 in
theorem Sm.look {W : World} {b N : Nat} {l : List Bg.Id} (h : Sm W b N l) {id : Bg.Id} (hid : IdOk id) : (Instr.lookup 235 (.map (some b)) (idV id) false).run Try.prog W = .ok (.bool (decide (id ∈ l))) W := by
  obtain ⟨n, D, h1, h2, h4⟩ := h
  obtain ⟨kl, hkl⟩ := key_ex hid W
  obtain ⟨v, ps, hr, hv⟩ := h2.lookup Try.keyedId Try.underlying235 (Try.zeroBoolS W) (plainElem_bool Try.underlying4 false) hkl
  obtain ⟨x, rfl, hz⟩ := plain_bool_invS hv
  rw [h4 id kl hkl] at hz
  have hx : x = decide (id ∈ l) := by
    have := congrArg Prod.fst hz
    injection this with e
    injection e with e
    exact e.symm
  rw [← hx]
  exact hr

set_option maxRecDepth 100000 in
theorem Sm.put {W : World} {b N : Nat} {l : List Bg.Id} (h : Sm W b N l) {id : Bg.Id} (hid : IdOk id) (hN : N < maxLen) :
    ∃ W', (Instr.mapUpdate 235 (.map (some b)) (idV id) (.bool true)).run Try.prog W = .ok () W' ∧ Sm W' b (N + 1) (id :: l) ∧ W.grownBy W' (some b) := by
  obtain ⟨n, D, h1, h2, h4⟩ := h
  obtain ⟨kl, hkl⟩ := key_ex hid W
  obtain ⟨w', e1, e2, e3⟩ := h2.update Try.keyedId Try.underlying235 (by omega) hkl (plainElem_bool Try.underlying4 true)
  refine ⟨w', e1, ⟨n + 1, _, by omega, e2, fun id' kl' hk' => ?_⟩, e3⟩
  by_cases hkk : kl' = kl
  · subst hkk
    have hv := Try.keyedId.inj hk' hkl
    have hid' : id' = id := by
      obtain ⟨a1, a2, a3⟩ := id'
      obtain ⟨b1, b2, b3⟩ := id
      unfold idV at hv
      simpa using hv
    subst hid'
    rw [atKey_put_same h2.isMap (Try.keyedId.key hkl), decide_eq_true List.mem_cons_self]
  · have hne : id ≠ id' := fun e => hkk (by rw [e] at hkl; exact Option.some.inj (hk'.symm.trans hkl))
    rw [atKey_put_other hkk, h4 id' kl' hk']
    congr 2
    rw [Bool.eq_iff_iff, decide_eq_true_eq, decide_eq_true_eq, List.mem_cons]
    exact ⟨Or.inr, fun h => h.resolve_left fun e => hne e.symm⟩

end Go.Proofs.Ytenkdpogdfcbgaa

namespace Go.Proofs.Ytenkdpogdfcbgaa
open Go.RowKit

theorem Try.infoBool : (Try.prog.info? 4).map (fun i => (i.zero, i.size, i.bytes)) = some (some (.bool false), 1, 1) := by kernel_rfl
theorem Try.infoBools : (Try.prog.info? 177).map (fun i => (i.zero, i.size, i.bytes)) = some (some (.slice none 0 0), 1, 24) := by kernel_rfl

def bv (l : List Bool) : List Value := l.map Value.bool
theorem bv_length (l : List Bool) : (bv l).length = l.length := List.length_map _

theorem mk_bools (n : Nat) (hn : n ≤ 1000) : ∃ cs : Array Value, cs.toList = bv (List.replicate n false) ∧ cs.size = n ∧ ∀ V : World, (Instr.makeSlice 177 (.int .i64 (n : Int)) (.int .i64 (n : Int))).run Try.prog V = .ok (.slice (some ⟨V.heap.size, 0, none⟩) n n) (V.alloc (.cells cs 4)) := by
  obtain ⟨i0, hi, hz0, hz1, hz2⟩ := info_parts Try.infoBool
  refine ⟨madeCells #[Value.bool false] (n * 1), by rw [toList_madeCells_one, Nat.mul_one]; unfold bv; rw [List.map_replicate], by rw [size_madeCells, Nat.mul_one], fun V => ?_⟩
  have h := run_makeSlice (P := Try.prog) V 177 4 i0 _ Try.underlying177 hi hz0 .i64 .i64 (n : Int) (n : Int) (by omega) (Int.le_refl _) (by rw [hz1]; omega) (by rw [hz2]; omega) (by omega)
  rw [hz1, Int.toNat_natCast] at h
  exact h

theorem mk_rows (n : Nat) (hn : n ≤ 1000) : ∃ cs : Array Value, cs.toList = sv (List.replicate n ⟨none, 0, 0⟩) ∧ cs.size = n ∧ ∀ V : World, (Instr.makeSlice 172 (.int .i64 (n : Int)) (.int .i64 (n : Int))).run Try.prog V = .ok (.slice (some ⟨V.heap.size, 0, none⟩) n n) (V.alloc (.cells cs 177)) := by
  obtain ⟨i0, hi, hz0, hz1, hz2⟩ := info_parts Try.infoBools
  refine ⟨madeCells #[Value.slice none 0 0] (n * 1), by rw [toList_madeCells_one, Nat.mul_one]; unfold sv; rw [List.map_replicate]; rfl, by rw [size_madeCells, Nat.mul_one], fun V => ?_⟩
  have h := run_makeSlice (P := Try.prog) V 172 177 i0 _ Try.underlying172 hi hz0 .i64 .i64 (n : Int) (n : Int) (by omega) (Int.le_refl _) (by rw [hz1]; omega) (by rw [hz2]; omega) (by omega)
  rw [hz1, Int.toNat_natCast] at h
  exact h

/-- Rows of truths that lie there. -/
structure LvW (w : World) (base : Nat) (g n c : Nat) (rs : List Rl) (fl : List (List Bool)) : Prop where
  row : w.ownsRow base 177 1 (.slice (some ⟨g, 0, none⟩) n c) n (sv rs)
  len : fl.length = n
  seg : ∀ (i : Nat) (r : Rl) (f : List Bool), rs[i]? = some r → fl[i]? = some f → w.ownsRow base 4 1 r.v r.n (bv f)
  apart : Apart (rs.map Rl.v)

theorem LvW.rlen {w : World} {base g n c : Nat} {rs : List Rl} {fl : List (List Bool)} (h : LvW w base g n c rs fl) : rs.length = n := own_len1 h.row
theorem LvW.keep {w w' : World} {base g n c : Nat} {rs : List Rl} {fl : List (List Bool)} (h : LvW w base g n c rs fl) (hb : Below w.heap.size w w') : LvW w' base g n c rs fl :=
  ⟨own_keep h.row hb, h.len, fun i r s h1 h2 => own_keep (h.seg i r s h1 h2) hb, h.apart⟩
theorem LvW.low {w : World} {base base' g n c : Nat} {rs : List Rl} {fl : List (List Bool)} (h : LvW w base g n c rs fl) (hb : base' ≤ base) : LvW w base' g n c rs fl :=
  ⟨own_low h.row hb, h.len, fun i r s h1 h2 => own_low (h.seg i r s h1 h2) hb, h.apart⟩
/-- It stands where a block turns that is none of its own. -/
theorem LvW.off {w w' : World} {base g n c m : Nat} {rs : List Rl} {fl : List (List Bool)} (h : LvW w base g n c rs fl) (hg : w.grownBy w' (some m)) (hm : m < base) : LvW w' base g n c rs fl :=
  ⟨own_kept2 h.row hg fun k hk e => by have := row_base h.row k hk; have := Option.some.inj e; omega, h.len, fun i r s h1 h2 => own_kept2 (h.seg i r s h1 h2) hg fun k hk e => by have := row_base (h.seg i r s h1 h2) k hk; have := Option.some.inj e; omega, h.apart⟩
theorem LvW.at {w : World} {base g n c : Nat} {rs : List Rl} {fl : List (List Bool)} (h : LvW w base g n c rs fl) {k : Nat} (hk : k < n) :
    ∃ (r : Rl) (f : List Bool), w.cell? ⟨g, k, none⟩ = some (.slice r.a r.n r.c) ∧ rs[k]? = some r ∧ fl[k]? = some f ∧ w.ownsRow base 4 1 (.slice r.a r.n r.c) r.n (bv f) := by
  have h1 : k < rs.length := by rw [h.rlen]; exact hk
  have h2 : k < fl.length := by rw [h.len]; exact hk
  obtain ⟨g', e1, e2, e3, e4⟩ := sv_at h.row h1
  cases e1
  exact ⟨rs[k], fl[k], e4, List.getElem?_eq_getElem h1, List.getElem?_eq_getElem h2, h.seg k _ _ (List.getElem?_eq_getElem h1) (List.getElem?_eq_getElem h2)⟩

/-- Row k is set to a new row. -/
theorem LvW.put {w w1 : World} {base g n c : Nat} {rs : List Rl} {fl : List (List Bool)} (h : LvW w base g n c rs fl) {k : Nat} (hk : k < n) (hb : Below w.heap.size w w1) {z : Rl} {f : List Bool} (ho : w1.ownsRow w.heap.size 4 1 z.v z.n (bv f)) (hbs : base ≤ w.heap.size) :
    LvW (w1.setCell ⟨g, k, none⟩ z.v) base g n c (rs.set k z) (fl.set k f) ∧ w1.grownBy (w1.setCell ⟨g, k, none⟩ z.v) (some g) := by
  have h1 := h.keep hb
  obtain ⟨o2, o3⟩ := h1.row.stored k z.v
  refine ⟨⟨by
    have : (sv rs).set k z.v = sv (rs.set k z) := by unfold sv; rw [List.map_set]
    rw [← this]
    exact o2, by rw [List.length_set]; exact h.len, fun i r s hr hs => ?_, ?_⟩, o3⟩
  · by_cases hi : k = i
    · subst hi
      rw [List.getElem?_set_self (by rw [h.rlen]; exact hk)] at hr
      rw [List.getElem?_set_self (by rw [h.len]; exact hk)] at hs
      obtain rfl := Option.some.inj hr
      obtain rfl := Option.some.inj hs
      exact own_low (own_kept2 ho o3 fun j hj e => own_unlike ho h1.row (by decide) j hj e) hbs
    · rw [List.getElem?_set_ne hi] at hr
      rw [List.getElem?_set_ne hi] at hs
      exact own_kept2 (h1.seg i r s hr hs) o3 fun j hj e => own_unlike (h1.seg i r s hr hs) h1.row (by decide) j hj e
  · refine List.pairwise_iff_getElem.2 fun i j hi hj hij m h1 h2 => ?_
    rw [List.length_map, List.length_set] at hi hj
    rw [List.getElem_map, List.getElem_set] at h1 h2
    have hs : ∀ (x : Nat) (hx : x < rs.length) (y : Nat), (rs[x]).v.ownBlock = some y → y < w.heap.size := fun x hx y hy => own_block_lt (h.seg x rs[x] (fl[x]'(by rw [h.len, ← h.rlen]; exact hx)) (List.getElem?_eq_getElem hx) (List.getElem?_eq_getElem _)) y hy
    by_cases e1 : k = i
    · subst e1
      rw [if_pos rfl] at h1
      rw [if_neg (by omega)] at h2
      have := row_base ho m h1
      have := hs j hj m h2
      omega
    · rw [if_neg e1] at h1
      by_cases e2 : k = j
      · rw [if_pos e2] at h2
        have := row_base ho m h2
        have := hs i hi m h1
        omega
      · rw [if_neg e2] at h2
        have := List.pairwise_iff_getElem.1 h.apart i j (by rw [List.length_map]; exact hi) (by rw [List.length_map]; exact hj) hij
        rw [List.getElem_map, List.getElem_map] at this
        exact this m h1 h2

/-- One truth of row k is set. -/
theorem LvW.store {w : World} {base g n c : Nat} {rs : List Rl} {fl : List (List Bool)} (h : LvW w base g n c rs fl) {k j gi rn rc : Nat} {f : List Bool} (hr : rs[k]? = some ⟨some ⟨gi, 0, none⟩, rn, rc⟩) (hf : fl[k]? = some f) (x : Bool) :
    LvW (w.setCell ⟨gi, j, none⟩ (.bool x)) base g n c rs (fl.set k (f.set j x)) ∧ w.grownBy (w.setCell ⟨gi, j, none⟩ (.bool x)) (some gi) := by
  have ho := h.seg k _ _ hr hf
  obtain ⟨o2, o3⟩ := World.ownsRow.stored (show w.ownsRow base 4 1 (.slice (some ⟨gi, 0, none⟩) rn rc) rn (bv f) from ho) j (.bool x)
  have hkr := (List.getElem?_eq_some_iff.1 hr).1
  have hkf := (List.getElem?_eq_some_iff.1 hf).1
  refine ⟨⟨own_kept2 h.row o3 fun m hm e => own_unlike h.row ho (by decide) m hm e, by rw [List.length_set]; exact h.len, fun i r s hr' hs => ?_, h.apart⟩, o3⟩
  by_cases hi : k = i
  · subst hi
    rw [hr] at hr'
    obtain rfl := Option.some.inj hr'
    rw [List.getElem?_set_self hkf] at hs
    obtain rfl := Option.some.inj hs
    have : bv (f.set j x) = (bv f).set j (.bool x) := by unfold bv; rw [List.map_set]
    rw [this]
    exact o2
  · rw [List.getElem?_set_ne hi] at hs
    have hi2 := (List.getElem?_eq_some_iff.1 hr').1
    refine own_kept2 (h.seg i r s hr' hs) o3 fun m hm e => ?_
    have hp := h.apart
    have e1 : (rs[k]).v.ownBlock = some gi := by rw [(List.getElem?_eq_some_iff.1 hr).2]; rfl
    have e2 : (rs[i]).v.ownBlock = some m := by rw [(List.getElem?_eq_some_iff.1 hr').2]; exact hm
    have e3 : gi = m := Option.some.inj e
    subst e3
    rcases Nat.lt_or_gt_of_ne hi with h1 | h1
    · have := List.pairwise_iff_getElem.1 hp k i (by rw [List.length_map]; exact hkr) (by rw [List.length_map]; exact hi2) h1
      rw [List.getElem_map, List.getElem_map] at this
      exact this _ e1 e2
    · have := List.pairwise_iff_getElem.1 hp i k (by rw [List.length_map]; exact hi2) (by rw [List.length_map]; exact hkr) h1
      rw [List.getElem_map, List.getElem_map] at this
      exact this _ e2 e1

end Go.Proofs.Ytenkdpogdfcbgaa
