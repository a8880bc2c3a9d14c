import Derived.Test.YtdmfgdhfkceihaaBase
import Derived.Below
import Derived.Deep.AppendLies
import Derived.ChangeSame
/- The walk of woolkeep.Within: a number from 0 to n-1. -/
namespace Go.Proofs.Ytdmfgdhfkceihaa
open Go.RowKit

/-- What Within computes. -/
def wi (k : Int) (n : Nat) : Nat := ((k % 18446744073709551616) % n).toNat

theorem wi_lt (k : Int) (n : Nat) (h : 0 < n) : wi k n < n := by
  unfold wi
  have h1 := Int.emod_nonneg (k % 18446744073709551616) (b := n) (by omega)
  have h2 := Int.emod_lt_of_pos (k % 18446744073709551616) (b := n) (by omega)
  omega

theorem wi_eq (k : Int) (n : Nat) (h1 : 1 ≤ n) (h2 : n ≤ 4611686018427387904) : wrap64 ((IntKind.u64.wrap k).tmod ↑n) = (wi k n : Int) := by
  have e : IntKind.u64.wrap k = k % 18446744073709551616 := IntKind.wrap_u64 k
  have h0 : 0 ≤ k % 18446744073709551616 := Int.emod_nonneg _ (by omega)
  rw [e, Int.tmod_eq_emod_of_nonneg h0]
  have h3 := Int.emod_nonneg (k % 18446744073709551616) (b := n) (by omega)
  have h4 := Int.emod_lt_of_pos (k % 18446744073709551616) (b := n) (by omega)
  rw [IntWalk.wrap64_in _ ⟨by omega, by omega⟩]
  unfold wi
  omega

set_option maxHeartbeats 400000 in
theorem within_any (k N : Int) (n : Nat) (w : World) (hN : N = n) (h1 : 1 ≤ n) (h2 : n ≤ 4611686018427387904) :
    Calls Try.prog 16 #[.int .i64 k, .int .i64 N] w fun e w' => e = .returned (.int .i64 (wi k n)) ∧ w = w' := by
  subst hN
  go_enter Try.func16, Try.ntmps16
  go_wp2
  go_ret
  exact ⟨congrArg (fun x => Ending.returned (.int .i64 x)) (wi_eq k n h1 h2), rfl⟩

end Go.Proofs.Ytdmfgdhfkceihaa

/- Contracts under a name: the form that fails at once where it does not fit. -/
namespace Go.Proofs.Ytdmfgdhfkceihaa
open Go.RowKit

/-- A call that answers a tuple of three parts .. two parts, and leaves the world alone. -/
def Ans2 (f : Nat) (args : Array Value) (x y : Value) : Prop := ∀ w, Calls Try.prog f args w fun e w' => e = .returned (.tuple #[x, y]) ∧ w = w'
def Ans3 (f : Nat) (args : Array Value) (x y z : Value) : Prop := ∀ w, Calls Try.prog f args w fun e w' => e = .returned (.tuple #[x, y, z]) ∧ w = w'
def Ans1 (f : Nat) (args : Array Value) (x : Value) : Prop := ∀ w, Calls Try.prog f args w fun e w' => e = .returned x ∧ w = w'

theorem within_is {k N : Int} {n x : Nat} (hN : N = n) (h1 : 1 ≤ n) (h2 : n ≤ 4611686018427387904) (hx : wi k n = x) :
    Ans1 16 #[.int .i64 k, .int .i64 N] (.int .i64 x) := by
  subst hx; exact fun w => within_any k N n w hN h1 h2

theorem Ans1.use {f : Nat} {args : Array Value} {x : Value} {w : World} {R : Ending → World → Prop} (h : Ans1 f args x) (hR : ∀ e w', e = .returned x ∧ w = w' → R e w') : Calls Try.prog f args w R := (h w).mono hR
theorem Ans2.use {f : Nat} {args : Array Value} {x y : Value} {w : World} {R : Ending → World → Prop} (h : Ans2 f args x y) (hR : ∀ e w', e = .returned (.tuple #[x, y]) ∧ w = w' → R e w') : Calls Try.prog f args w R := (h w).mono hR
theorem Ans3.use {f : Nat} {args : Array Value} {x y z : Value} {w : World} {R : Ending → World → Prop} (h : Ans3 f args x y z) (hR : ∀ e w', e = .returned (.tuple #[x, y, z]) ∧ w = w' → R e w') : Calls Try.prog f args w R := (h w).mono hR

theorem cast1 (a : Nat) : (1 : Int) + a = ((1 + a : Nat) : Int) := by omega
theorem cast2 (a : Nat) : (2 : Int) + a = ((2 + a : Nat) : Int) := by omega
theorem castA (a b : Nat) : (a : Int) + b = ((a + b : Nat) : Int) := by omega

theorem nat_beq (a b : Nat) : ((a : Int) == b) = decide (a = b) := by
  by_cases h : a = b
  · subst h; simp
  · rw [decide_eq_false h, beq_eq_false_iff_ne]; omega

theorem grown_of {f : Nat} {args : Array Value} {w : World} {v : Value} (h : Calls Try.prog f args w fun e w' => e = .returned v ∧ w = w') : Calls Try.prog f args w fun e w' => e = .returned v ∧ Grown w w' := by
  refine h.mono ?_
  rintro e w' ⟨he, rfl⟩
  exact ⟨he, Grown.refl _⟩

end Go.Proofs.Ytdmfgdhfkceihaa

/- A box of the call's own, of whatever cells. -/
namespace Go.Proofs.Ytdmfgdhfkceihaa
open Go.RowKit

theorem below_drewN0 {B : Nat} {a w : World} (h : Below B a w) (n : Nat) : Below B a (w.drewN n) := ⟨h.os, h.tape, h.output, h.size, h.block⟩

/-- A box of some cells. -/
structure Bxs (W : World) (B : Nat) (cs : List Value) : Prop where
  lt : B < W.heap.size
  c : ∀ (j : Nat) (v : Value), cs[j]? = some v → W.cell? ⟨B, j, none⟩ = some v
  z : ∀ j, j < cs.length → W.frozen? ⟨B, j, none⟩ = false

theorem bxs_new (w : World) (T : TypeId) (cs : Array Value) (l : List Value) (hl : cs.toList = l) : Bxs (w.alloc (.cells cs T)) w.heap.size l := by
  subst hl
  have h : (w.alloc (.cells cs T)).heap[w.heap.size]? = some (.cells cs T) := by show (w.heap.push _)[w.heap.size]? = _; rw [Array.getElem?_push, if_pos rfl]
  refine ⟨by rw [World.size_alloc]; exact Nat.lt_succ_self _, fun j v hj => cell_new w (k := j) (by simpa using hj), fun j _ => ?_⟩
  unfold World.frozen?
  rw [h]
  simp

theorem Bxs.block {W W' : World} {B : Nat} {cs : List Value} (h : Bxs W B cs) (hs : B < W'.heap.size) (hb : W'.heap[B]? = W.heap[B]?) : Bxs W' B cs := by
  have hc : ∀ j, W'.cell? ⟨B, j, none⟩ = W.cell? ⟨B, j, none⟩ := fun j => by unfold World.cell?; rw [hb]
  have hz : ∀ j, W'.frozen? ⟨B, j, none⟩ = W.frozen? ⟨B, j, none⟩ := fun j => by unfold World.frozen?; rw [hb]
  exact ⟨hs, fun j v hj => by rw [hc]; exact h.c j v hj, fun j hj => by rw [hz]; exact h.z j hj⟩

theorem Bxs.on {W W' : World} {B : Nat} {cs : List Value} (h : Bxs W B cs) (hb : Below W.heap.size W W') : Bxs W' B cs := h.block (Nat.lt_of_lt_of_le h.lt hb.size) (hb.block B h.lt)
theorem Bxs.alloc {W : World} {B : Nat} {cs : List Value} (h : Bxs W B cs) (o : Obj) : Bxs (W.alloc o) B cs := h.on ((Below.refl _ W).alloc (Nat.le_refl _) _)
theorem Bxs.drew {W : World} {B : Nat} {cs : List Value} (h : Bxs W B cs) : Bxs W.drew B cs := h.on (Below.refl _ W).drew
theorem Bxs.drewN {W : World} {B : Nat} {cs : List Value} (h : Bxs W B cs) (n : Nat) : Bxs (W.drewN n) B cs := h.on (below_drewN0 (Below.refl _ W) n)

theorem Bxs.other {W : World} {B : Nat} {cs : List Value} (h : Bxs W B cs) {b i : Nat} (hb : b ≠ B) (u : Value) : Bxs (W.setCell ⟨b, i, none⟩ u) B cs := by
  have o : ∀ (j : Nat), (W.setCell ⟨b, i, none⟩ u).cell? ⟨B, j, none⟩ = W.cell? ⟨B, j, none⟩ := fun j => World.cell?_setCell_other _ _ _ _ (by simp only [ne_eq, Addr.mk.injEq, not_and]; omega)
  exact ⟨by rw [World.size_setCell]; exact h.lt, fun j v hj => by rw [o]; exact h.c j v hj, fun j hj => by rw [World.frozen?_setCell]; exact h.z j hj⟩

theorem Bxs.set {W : World} {B : Nat} {cs : List Value} (h : Bxs W B cs) (i : Nat) (hi : i < cs.length) (u : Value) {cs' : List Value} (hc : cs' = cs.set i u) : Bxs (W.setCell ⟨B, i, none⟩ u) B cs' := by
  subst hc
  have o : ∀ (j : Nat), j ≠ i → (W.setCell ⟨B, i, none⟩ u).cell? ⟨B, j, none⟩ = W.cell? ⟨B, j, none⟩ := fun j hj => World.cell?_setCell_other _ _ _ _ (by simp only [ne_eq, Addr.mk.injEq, not_and]; omega)
  refine ⟨by rw [World.size_setCell]; exact h.lt, fun j v hj => ?_, fun j hj => by rw [World.frozen?_setCell]; exact h.z j (by rwa [List.length_set] at hj)⟩
  by_cases hji : j = i
  · subst hji
    rw [List.getElem?_set_self hi] at hj
    cases hj
    exact World.cell?_setCell_same _ _ _ (h.c j cs[j] (List.getElem?_eq_getElem hi))
  · rw [List.getElem?_set_ne (fun h => hji h.symm)] at hj
    rw [o j hji]
    exact h.c j v hj

theorem Bxs.set5 {W : World} {B : Nat} {v0 v1 v2 v3 v4 : Value} (h : Bxs W B [v0, v1, v2, v3, v4]) (u0 u1 u2 u3 u4 : Value) :
    Bxs (((((W.setCell ⟨B, 0, none⟩ u0).setCell ⟨B, 1, none⟩ u1).setCell ⟨B, 2, none⟩ u2).setCell ⟨B, 3, none⟩ u3).setCell ⟨B, 4, none⟩ u4) B [u0, u1, u2, u3, u4] :=
  ((((h.set 0 (by decide : 0 < 5) u0 rfl).set 1 (by decide : 1 < 5) u1 rfl).set 2 (by decide : 2 < 5) u2 rfl).set 3 (by decide : 3 < 5) u3 rfl).set 4 (by decide : 4 < 5) u4 rfl

theorem below_set5 {N : Nat} {w W : World} {B : Nat} (h : Below N w W) (hN : N ≤ B) (u0 u1 u2 u3 u4 : Value) :
    Below N w (((((W.setCell ⟨B, 0, none⟩ u0).setCell ⟨B, 1, none⟩ u1).setCell ⟨B, 2, none⟩ u2).setCell ⟨B, 3, none⟩ u3).setCell ⟨B, 4, none⟩ u4) :=
  ((((h.setCell hN _).setCell hN _).setCell hN _).setCell hN _).setCell hN _

theorem Bxs.set3 {W : World} {B : Nat} {v0 v1 v2 : Value} (h : Bxs W B [v0, v1, v2]) (u0 u1 u2 : Value) :
    Bxs (((W.setCell ⟨B, 0, none⟩ u0).setCell ⟨B, 1, none⟩ u1).setCell ⟨B, 2, none⟩ u2) B [u0, u1, u2] :=
  ((h.set 0 (by decide : 0 < 3) u0 rfl).set 1 (by decide : 1 < 3) u1 rfl).set 2 (by decide : 2 < 3) u2 rfl

theorem Bxs.set2 {W : World} {B : Nat} {v0 v1 : Value} (h : Bxs W B [v0, v1]) (u0 u1 : Value) :
    Bxs ((W.setCell ⟨B, 0, none⟩ u0).setCell ⟨B, 1, none⟩ u1) B [u0, u1] :=
  (h.set 0 (by decide : 0 < 2) u0 rfl).set 1 (by decide : 1 < 2) u1 rfl

theorem Bxs.grown {W W' : World} {B : Nat} {cs : List Value} {row : Option Nat} (h : Bxs W B cs) (hg : W.grownBy W' row) (hr : some B ≠ row) : Bxs W' B cs := h.block (Nat.lt_of_lt_of_le h.lt hg.size) (hg.block B h.lt hr)

theorem below_set3 {N : Nat} {w W : World} {B : Nat} (h : Below N w W) (hN : N ≤ B) (u0 u1 u2 : Value) :
    Below N w (((W.setCell ⟨B, 0, none⟩ u0).setCell ⟨B, 1, none⟩ u1).setCell ⟨B, 2, none⟩ u2) := ((h.setCell hN _).setCell hN _).setCell hN _

theorem below_set2 {N : Nat} {w W : World} {B : Nat} (h : Below N w W) (hN : N ≤ B) (u0 u1 : Value) :
    Below N w ((W.setCell ⟨B, 0, none⟩ u0).setCell ⟨B, 1, none⟩ u1) := (h.setCell hN _).setCell hN _

/-- A row of the call's own stands where another box is written. -/
theorem own_other {w : World} {base B j : Nat} {e : TypeId} {size : Nat} {v : Value} {n : Nat} {xs : List Value} (h : w.ownsRow base e size v n xs) (hv : v.ownBlock ≠ some B) (u : Value) : (w.setCell ⟨B, j, none⟩ u).ownsRow base e size v n xs := by
  refine ⟨h.1, ?_⟩
  rcases h.2 with h2 | ⟨g, cap, cur, hv', hg, hh, r⟩
  · exact Or.inl h2
  · refine Or.inr ⟨g, cap, cur, hv', hg, ?_, r⟩
    have hne : g ≠ B := fun e => hv (by rw [hv', e]; rfl)
    have := heap_setCell_other w ⟨B, j, none⟩ g u (fun e => hne e)
    rw [this]; exact hh

end Go.Proofs.Ytdmfgdhfkceihaa

/- Rows of numbers: as values, as cells. -/
namespace Go.Proofs.Ytdmfgdhfkceihaa
open Go.RowKit

theorem Try.infoInt : (Try.prog.info? 3).map (fun i => (i.zero, i.size, i.bytes)) = some (some (.int .i64 0), 1, 8) := by kernel_rfl

/-- Numbers as values. -/
def iv (l : List Nat) : List Value := l.map fun (p : Nat) => .int .i64 (p : Int)

theorem iv_snoc (l : List Nat) (p : Nat) : iv (l ++ [p]) = iv l ++ [.int .i64 (p : Int)] := by unfold iv; rw [List.map_append]; rfl

theorem row_base {w : World} {base : Nat} {e : TypeId} {size : Nat} {v : Value} {n : Nat} {xs : List Value} (h : w.ownsRow base e size v n xs) : ∀ k, v.ownBlock = some k → base ≤ k := by
  intro k hk
  rcases h.2 with ⟨rfl, _⟩ | ⟨g, cap, cur, rfl, hb, _⟩
  · cases hk
  · cases hk; exact hb

theorem iv_cells {w : World} {base g n cap : Nat} {e : TypeId} {l : List Nat} (h : w.ownsRow base e 1 (.slice (some ⟨g, 0, none⟩) n cap) n (iv l)) (hn : l.length = n) :
    ∀ j (hj : j < l.length), w.cell? ⟨g, j, none⟩ = some (.int .i64 (l[j] : Int)) := fun j hj => by
  rw [h.cellAt j (by omega)]
  simp [iv, hj]

theorem iv_length (l : List Nat) : (iv l).length = l.length := by unfold iv; simp

theorem ext_data (s : ByteArray) (a b : Nat) : (s.extract a b).data.toList = (s.data.toList.drop a).take (b - a) := by
  rw [ByteArray.data_extract, Array.toList_extract]

/-- A row of numbers lies in a block. -/
def RowIn (w : World) (g : Nat) (l : List Nat) : Prop := g < w.heap.size ∧ ∀ j (hj : j < l.length), w.cell? ⟨g, j, none⟩ = some (.int .i64 (l[j] : Int))

theorem RowIn.keep {w w' : World} {g : Nat} {l : List Nat} (h : RowIn w g l) (hb : Below w.heap.size w w') : RowIn w' g l :=
  ⟨Nat.lt_of_lt_of_le h.1 hb.size, fun j hj => by rw [hb.cell h.1]; exact h.2 j hj⟩

theorem RowIn.at {w : World} {g : Nat} {l : List Nat} (h : RowIn w g l) {j x : Nat} (hx : l[j]? = some x) : w.cell? ⟨g, j, none⟩ = some (.int .i64 (x : Int)) := by
  obtain ⟨hj, rfl⟩ := List.getElem?_eq_some_iff.1 hx
  exact h.2 j hj

/-- A row of the call's own stands behind whatever turns nothing that was there. -/
theorem own_keep {w w' : World} {base : Nat} {e : TypeId} {size : Nat} {v : Value} {n : Nat} {xs : List Value} (h : w.ownsRow base e size v n xs) (hb : Below w.heap.size w w') : w'.ownsRow base e size v n xs := by
  refine ⟨h.1, ?_⟩
  rcases h.2 with h2 | ⟨g, cap, cur, hv, hg, hh, r⟩
  · exact Or.inl h2
  · refine Or.inr ⟨g, cap, cur, hv, hg, ?_, r⟩
    have hlt : g < w.heap.size := by
      rcases Nat.lt_or_ge g w.heap.size with h | h
      · exact h
      · rw [Array.getElem?_eq_none h] at hh; cases hh
    rw [hb.block g hlt]
    exact hh

theorem own_kept {w w' : World} {base : Nat} {e : TypeId} {size : Nat} {v : Value} {n : Nat} {xs : List Value} (hb : Below w.heap.size w w') (h : w.ownsRow base e size v n xs) : w'.ownsRow base e size v n xs := own_keep h hb

theorem below_via {N : Nat} {w X W : World} (h : Below X.heap.size X W) (k : Below N w X) (hN : N ≤ X.heap.size) : Below N w W := k.trans (h.mono hN)

theorem below_grew {B : Nat} {a X w' : World} {row : Option Nat} (hg : X.grownBy w' row) (h : Below B a X) (hB : B ≤ X.heap.size) (hr : ∀ k, row = some k → B ≤ k) : Below B a w' := h.grown hg hB hr

end Go.Proofs.Ytdmfgdhfkceihaa

/- A row's last step for a call that leaves new blocks of whatever kind: what was there before stands. -/
namespace Go.Proofs.Ytdmfgdhfkceihaa
open Go.RowKit Go.WideShapes Go.ChangeShapes

variable {H : Type} {enc : TypeId × Value → H} {P : Program}

/-- The statement's after-part, where every old block stands as it stood. -/
theorem post_below {f : Func} {s : ChangeSpec} {apart fresh handsOn again : Bool} {W W' : World} {args : Array Value} {v : Value} {ds gs : List (DataW H)} {before pa pv : List MemPlace}
    (hW : DataW.Whole enc P f.params.toList s.vars apart W args.toList ds gs before)
    (hres : ∀ (b : Nat) (sp : Nat → Bool) (hd : Bool), DataW.TrodAll enc P W' b sp hd f.resultTypes.toList (v.resultList f.resultTypes.size) (s.fn H (ds ++ gs)).results [])
    (hargs : ∀ sp : Nat → Bool, (∀ p ∈ before, sp p.block = true) → DataW.TrodAll enc P W' 0 sp true f.params.toList args.toList (s.fn H (ds ++ gs)).args pa)
    (hvars : ∀ sp : Nat → Bool, (∀ p ∈ before, sp p.block = true) → DataW.TrodVars enc P W' sp s.vars (s.fn H (ds ++ gs)).vars pv)
    (hps : before = pa ++ pv) (hb : Below W.heap.size W W')
    (hok : ∀ (j : Nat) (t : TypeId) (r : Value), f.resultTypes[j]? = some t → (v.resultList f.resultTypes.size)[j]? = some r → Value.okWide P W' .any 0 t r) :
    s.post enc P f apart fresh handsOn again W args v W' := by
  have old : ∀ p ∈ before, p.block < W.heap.size := hW.lt
  have mine : ∀ p ∈ before, (fun b => decide (b < W.heap.size)) p.block = true := fun p hp => decide_eq_true (old p hp)
  have hkept : W.keptBut W' (· ∈ before) := hb.frame _
  refine ⟨ds, gs, before, [], pa, pv, hW, hres _ _ _, hargs _ mine, hvars _ mine, World.keptBut_mono (fun p hp => ⟨hp, hps ▸ hp |> fun h => ?_⟩) hkept, fun _ => ?_⟩
  · rw [hps, List.mem_append] at hp; exact Or.inr hp
  · obtain ⟨_, _, _, _, _, hz, hn⟩ := hW
    refine ⟨hok, _, _, ([] ++ pa) ++ pv, ⟨[] ++ pa, pv, trodAll_append (hargs _ fun _ _ => rfl) (hres _ _ _), hvars _ fun _ _ => rfl, rfl, fun b off hp => ?_, fun ha => ?_⟩, fun p hp _ => ?_⟩
    · have hin : MemPlace.cell b off ∈ before := by rw [hps]; simpa using hp
      rw [hb.frozen (old _ hin)]
      exact hz b off hin
    · simpa [hps] using hn ha
    · rw [hps]; simpa using hp

end Go.Proofs.Ytdmfgdhfkceihaa
