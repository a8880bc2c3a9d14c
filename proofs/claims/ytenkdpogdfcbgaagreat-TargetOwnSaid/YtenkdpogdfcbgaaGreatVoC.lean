import Derived.Test.YtenkdpogdfcbgaaGreatVoW
import Derived.Test.YtenkdpogdfcbgaaGreatBase
import Derived.Deep.RegionHeld3
import Derived.Deep.CutRange
import Derived.Deep.RegionLaw
/- States that lie there: what stands when rows are written, grown, put in the place of others. -/
namespace Go.Proofs.YtenkdpogdfcbgaaGreat
open Go.RowKit

/-- The slices of a state. -/
def sls (a : Option Addr) (n c : Nat) (b : Option Addr) (m d : Nat) (rs : List Rw) : List Value := .slice a n c :: .slice b m d :: rs.map Rw.sl

theorem own_kept2 {w w' : World} {base : Nat} {e : TypeId} {size : Nat} {v : Value} {n : Nat} {xs : List Value} {row : Option Nat} (h : w.ownsRow base e size v n xs) (hg : w.grownBy w' row) (hne : ∀ k, v.ownBlock = some k → row ≠ some k) : w'.ownsRow base e size v n xs := by
  refine h.kept hg ?_
  cases hv : v.ownBlock with
  | none => exact Or.inl rfl
  | some k => exact Or.inr fun e => hne k hv e.symm

theorem own_kept3 {w w' : World} {base : Nat} {e : TypeId} {size : Nat} {v : Value} {n : Nat} {xs : List Value} (h : w.ownsRow base e size v n xs) (hb : ∀ k, v.ownBlock = some k → w'.heap[k]? = w.heap[k]?) : w'.ownsRow base e size v n xs := by
  refine ⟨h.1, ?_⟩
  rcases h.2 with h2 | ⟨g, cap, cur, hv, hg, hh, r⟩
  · exact Or.inl h2
  · exact Or.inr ⟨g, cap, cur, hv, hg, by rw [hb g (by rw [hv]; rfl)]; exact hh, r⟩

section
variable {w w' : World} {base n c m d : Nat} {a b : Option Addr} {rs : List Rw} {s : Vo.St}

/-- Where the slices' blocks stand, the state stands. -/
theorem StW.blocks (h : StW w base a n c b m d rs s) (hb : ∀ v ∈ sls a n c b m d rs, ∀ k, v.ownBlock = some k → w'.heap[k]? = w.heap[k]?) : StW w' base a n c b m d rs s :=
  ⟨own_kept3 h.bag (hb _ (by simp [sls])), h.len, own_kept3 h.row (hb _ (by simp [sls])), h.rlen, h.vlen, fun i r v hr hv => by
    obtain ⟨h1, h2, h3⟩ := h.vol i r v hr hv
    exact ⟨h1, own_kept3 h2 (hb r.sl (by
      have := List.mem_map_of_mem (f := Rw.sl) (List.mem_of_getElem? hr)
      simp [sls, this])), h3⟩, h.apart⟩

theorem StW.kept {row : Option Nat} (h : StW w base a n c b m d rs s) (hg : w.grownBy w' row) (hne : ∀ v ∈ sls a n c b m d rs, ∀ k, v.ownBlock = some k → row ≠ some k) (hlt : ∀ v ∈ sls a n c b m d rs, ∀ k, v.ownBlock = some k → k < w.heap.size) : StW w' base a n c b m d rs s :=
  h.blocks fun v hv k hk => hg.block k (hlt v hv k hk) (fun e => hne v hv k hk e.symm)

theorem StW.lt (h : StW w base a n c b m d rs s) : ∀ v ∈ sls a n c b m d rs, ∀ k, v.ownBlock = some k → base ≤ k ∧ k < w.heap.size := by
  intro v hv k hk
  unfold sls at hv
  rcases List.mem_cons.1 hv with rfl | hv
  · exact ⟨row_base h.bag k hk, own_block_lt h.bag k hk⟩
  rcases List.mem_cons.1 hv with rfl | hv
  · exact ⟨row_base h.row k hk, own_block_lt h.row k hk⟩
  obtain ⟨r, hr, rfl⟩ := List.mem_map.1 hv
  obtain ⟨i, hi, rfl⟩ := List.getElem_of_mem hr
  obtain ⟨-, h2, -⟩ := h.vol i rs[i] (s.vols[i]'(by rw [h.vlen, ← h.rlen]; exact hi)) (List.getElem?_eq_getElem hi) (List.getElem?_eq_getElem _)
  exact ⟨row_base h2 k hk, own_block_lt h2 k hk⟩

theorem StW.other (h : StW w base a n c b m d rs s) {B i : Nat} (hB : ∀ v ∈ sls a n c b m d rs, v.ownBlock ≠ some B) (u : Value) : StW (w.setCell ⟨B, i, none⟩ u) base a n c b m d rs s :=
  h.blocks fun v hv k hk => heap_setCell_other w ⟨B, i, none⟩ k u (fun e => hB v hv (by rw [hk, e]))

theorem StW.off (h : StW w base a n c b m d rs s) {B : Nat} (hB : B < base) : ∀ v ∈ sls a n c b m d rs, v.ownBlock ≠ some B := fun v hv e => by
  have := (h.lt v hv B e).1
  omega

theorem apart_cons {x : Value} {l : List Value} : Apart (x :: l) ↔ (∀ y ∈ l, ∀ k, x.ownBlock = some k → y.ownBlock ≠ some k) ∧ Apart l := List.pairwise_cons

theorem StW.apart' (h : StW w base a n c b m d rs s) : Apart (sls a n c b m d rs) := h.apart

/-- The row of volumes grows by one, at its end. -/
theorem StW.app {N g cap n5 c5 : Nat} {a5 : Option Addr} {nm : ByteArray} {ids : List Bg.Id} {W X w6 : World} (h : StW W base a n c b m d rs s) (hN : N = W.heap.size) (hX : Below W.heap.size W X) (hR : X.ownsRow base 81 3 (.slice a5 n5 c5) n5 (dv ids)) (hl : ids.length = n5)
    (h5 : ∀ k, (Value.slice a5 n5 c5).ownBlock = some k → N ≤ k ∧ k < X.heap.size) (hG : X.grownBy w6 (Value.slice b m d).ownBlock) (hO : w6.ownsRow base 78 2 (.slice (some ⟨g, 0, none⟩) (m + 1) cap) (m + 1) (rv rs ++ [.string nm, .slice a5 n5 c5]))
    (hat : (Value.slice b m d).ownBlock = some g ∨ g = X.heap.size) : StW w6 base a n c (some ⟨g, 0, none⟩) (m + 1) cap (rs ++ [⟨nm, a5, n5, c5⟩]) ⟨s.bag, s.vols ++ [⟨nm, ids⟩]⟩ := by
  have hlt := h.lt
  have hap := h.apart'
  have hsz := hX.size
  unfold sls at hlt hap
  rw [apart_cons, apart_cons] at hap
  obtain ⟨p1, p2, p3⟩ := hap
  have hk : ∀ v ∈ (Value.slice a n c) :: rs.map Rw.sl, ∀ k, v.ownBlock = some k → w6.heap[k]? = W.heap[k]? := fun v hv k hk => by
    have h1 : k < W.heap.size := (hlt v (by
      rcases List.mem_cons.1 hv with rfl | hv
      · exact List.mem_cons_self
      · exact List.mem_cons_of_mem _ (List.mem_cons_of_mem _ hv)) k hk).2
    have h2 : (some k : Option Nat) ≠ (Value.slice b m d).ownBlock := fun e => by
      rcases List.mem_cons.1 hv with rfl | hv
      · exact p1 _ List.mem_cons_self k hk e.symm
      · exact p2 v hv k e.symm hk
    rw [hG.block k (by omega) h2, hX.block k h1]
  have hgn : ∀ v ∈ (Value.slice a n c) :: rs.map Rw.sl, v.ownBlock ≠ some g := fun v hv e => by
    rcases hat with h1 | h1
    · rcases List.mem_cons.1 hv with rfl | hv
      · exact p1 _ List.mem_cons_self g e h1
      · exact p2 v hv g h1 e
    · have := (hlt v (by
        rcases List.mem_cons.1 hv with rfl | hv
        · exact List.mem_cons_self
        · exact List.mem_cons_of_mem _ (List.mem_cons_of_mem _ hv)) g e).2
      omega
  have hg5 : (Value.slice a5 n5 c5).ownBlock ≠ some g := fun e => by
    have h6 := h5 g e
    rcases hat with h1 | h1
    · have := (hlt _ (List.mem_cons_of_mem _ List.mem_cons_self) g h1).2
      omega
    · omega
  refine ⟨own_kept3 h.bag (hk _ List.mem_cons_self), h.len, ?_, by rw [List.length_append, h.rlen]; rfl, by show (s.vols ++ [_]).length = _; rw [List.length_append, h.vlen]; rfl, fun i r v hr hv => ?_, ?_⟩
  · rw [rv_app]
    exact hO
  · rcases Nat.lt_trichotomy i m with hi | hi | hi
    · rw [List.getElem?_append_left (by rw [h.rlen]; exact hi)] at hr
      have hv' : (s.vols ++ [(⟨nm, ids⟩ : Vo.Vl)])[i]? = some v := hv
      rw [List.getElem?_append_left (by rw [h.vlen]; exact hi)] at hv'
      obtain ⟨h1, h2, h3⟩ := h.vol i r v hr hv'
      exact ⟨h1, own_kept3 h2 (hk r.sl (List.mem_cons_of_mem _ (List.mem_map_of_mem (List.mem_of_getElem? hr)))), h3⟩
    · rw [List.getElem?_append_right (by rw [h.rlen]; omega), h.rlen, hi, Nat.sub_self] at hr
      have hv' : (s.vols ++ [(⟨nm, ids⟩ : Vo.Vl)])[i]? = some v := hv
      rw [List.getElem?_append_right (by rw [h.vlen]; omega), h.vlen, hi, Nat.sub_self] at hv'
      obtain rfl : (⟨nm, a5, n5, c5⟩ : Rw) = r := by simpa using hr
      obtain rfl : (⟨nm, ids⟩ : Vo.Vl) = v := by simpa using hv'
      refine ⟨rfl, own_kept3 hR fun k hk5 => hG.block k (h5 k hk5).2 fun e => ?_, hl⟩
      have := (hlt _ (List.mem_cons_of_mem _ List.mem_cons_self) k e.symm).2
      have := (h5 k hk5).1
      omega
    · rw [List.getElem?_eq_none (by rw [List.length_append, h.rlen]; simp; omega)] at hr
      cases hr
  · show Apart (_ :: _ :: (rs ++ [_]).map Rw.sl)
    rw [List.map_append, apart_cons, apart_cons]
    refine ⟨fun y hy k hk1 hk2 => ?_, fun y hy k hk1 hk2 => ?_, ?_⟩
    · rcases List.mem_cons.1 hy with rfl | hy
      · cases hk2
        exact hgn _ List.mem_cons_self hk1
      · rcases List.mem_append.1 hy with hy | hy
        · exact p1 y (List.mem_cons_of_mem _ hy) k hk1 hk2
        · obtain rfl := List.mem_singleton.1 hy
          have h6 := (h5 k hk2).1
          have := (hlt _ List.mem_cons_self k hk1).2
          omega
    · cases hk1
      rcases List.mem_append.1 hy with hy | hy
      · exact hgn y (List.mem_cons_of_mem _ hy) hk2
      · obtain rfl := List.mem_singleton.1 hy
        exact hg5 hk2
    · refine List.pairwise_append.2 ⟨p3, List.pairwise_singleton _ _, fun x hx y hy k hk1 hk2 => ?_⟩
      obtain rfl := List.mem_singleton.1 hy
      have h6 := (h5 k hk2).1
      have := (hlt x (List.mem_cons_of_mem _ (List.mem_cons_of_mem _ hx)) k hk1).2
      omega
end

end Go.Proofs.YtenkdpogdfcbgaaGreat

/- Regions that draw their order: what is held need not hold behind those operations that come behind all that leans on it. -/
namespace Go.Proofs.YtenkdpogdfcbgaaGreat
open Go

section
variable {P : Program} {ops : Array Oper} {Q : Exit → Act → World → Prop} {md : Region.Mode} {S : World → Prop} {E : List Nat}

/-- Whatever order is picked; S is shown behind each operation that is not of E. -/
def AnyL (P : Program) (md : Region.Mode) (ops : Array Oper) (Q : Exit → Act → World → Prop) (S : World → Prop) (E : List Nat) : Nat → Array Bool → Act → World → Prop
  | 0, listed, a, w => Region.ready md ops listed = [] ∧ Q .normal a w
  | f + 1, listed, a, w => (Region.ready md ops listed = [] → Q .normal a w) ∧
    ∀ i ∈ Region.ready md ops listed, wpOp P ops Q i (fun a' w' => (E.contains i = false → S w') ∧ AnyL P md ops Q S E f (listed.setIfInBounds i true) a' w') a w

theorem any_of_L : ∀ (f : Nat) (listed : Array Bool) (a : Act) (w : World), AnyL P md ops Q S E f listed a w → wpAny P md ops Q f listed a w
  | 0, _, _, _, h => h
  | f + 1, _, _, _, h => ⟨h.1, fun i hi => wpOp_mono (fun a' w' h' => any_of_L f _ a' w' h'.2) (h.2 i hi)⟩

/-- Number j waits for number i, at once or by others. -/
def reach (md : Region.Mode) (ops : Array Oper) : Nat → Nat → Nat → Bool
  | 0, _, _ => false
  | n + 1, j, i => match ops[j]? with
    | some o => o.after.any fun e => Region.binds md e && (e.on == i || reach md ops n e.on i)
    | none => true

/-- What has come up had all that it waits for. -/
def closedB (md : Region.Mode) (ops : Array Oper) (listed : Array Bool) : Bool := (List.range ops.size).all fun j => !(listed.getD j false) || (match ops[j]? with
    | some o => o.after.all fun e => !(Region.binds md e) || listed.getD e.on false
    | none => true)

theorem closed_at {listed : Array Bool} (h : closedB md ops listed = true) {j : Nat} {o : Oper} (ho : ops[j]? = some o) (hj : listed.getD j false = true) : ∀ e ∈ o.after, Region.binds md e = true → listed.getD e.on false = true := by
  intro e he hb
  unfold closedB at h
  rw [List.all_eq_true] at h
  have h1 := h j (List.mem_range.2 (Array.getElem?_eq_some_iff.1 ho).1)
  rw [hj, ho] at h1
  simp only [Bool.not_true, Bool.false_or] at h1
  have h2 := Array.all_eq_true_iff_forall_mem.1 h1 e he
  rw [hb] at h2
  simpa using h2

theorem closed_mk {listed : Array Bool} (h : ∀ (j : Nat) (o : Oper), ops[j]? = some o → listed.getD j false = true → ∀ e ∈ o.after, Region.binds md e = true → listed.getD e.on false = true) : closedB md ops listed = true := by
  unfold closedB
  rw [List.all_eq_true]
  intro j hj
  cases hl : listed.getD j false with
  | false => rfl
  | true =>
    cases ho : ops[j]? with
    | none => rfl
    | some o =>
      simp only [Bool.not_true, Bool.false_or]
      refine Array.all_eq_true_iff_forall_mem.2 fun e he => ?_
      cases hb : Region.binds md e with
      | false => rfl
      | true => simpa using h j o ho hl e he hb

theorem closed_step {listed : Array Bool} {j : Nat} (h : closedB md ops listed = true) (hj : j ∈ Region.ready md ops listed) : closedB md ops (listed.setIfInBounds j true) = true := by
  refine closed_mk fun k o ho hk e he hb => ?_
  obtain ⟨-, oj, hoj, hall⟩ := mem_ready.1 hj
  by_cases hjk : j = k
  · subst hjk
    obtain rfl : oj = o := Option.some.inj (hoj.symm.trans ho)
    exact getD_set_true (hall e he hb)
  · refine getD_set_true (closed_at h ho ?_ e he hb)
    have : (listed.setIfInBounds j true).getD k false = listed.getD k false := by simp [Array.getElem?_setIfInBounds_ne hjk]
    rwa [this] at hk

theorem reach_listed {listed : Array Bool} (hc : closedB md ops listed = true) {i : Nat} : ∀ (n j : Nat) (o : Oper), ops[j]? = some o → (∀ e ∈ o.after, Region.binds md e = true → listed.getD e.on false = true) → (∀ k, ops[k]? = none → listed.getD k false = false) → reach md ops n j i = true → listed.getD i false = true
  | 0, _, _, _, _, _, h => by cases h
  | n + 1, j, o, ho, hall, hout, h => by
    unfold reach at h
    rw [ho] at h
    simp only [Array.any_eq_true] at h
    obtain ⟨k, hk, h1⟩ := h
    rw [Bool.and_eq_true, Bool.or_eq_true, beq_iff_eq] at h1
    have hl := hall _ (Array.getElem_mem hk) h1.1
    rcases h1.2 with h2 | h2
    · rw [h2] at hl; exact hl
    · cases ho' : ops[(o.after[k]).on]? with
      | none => rw [hout _ ho'] at hl; cases hl
      | some o' => exact reach_listed hc n _ o' ho' (fun e he hb => closed_at hc ho' hl e he hb) hout h2

/-- No further than the operations. -/
def fits (ops : Array Oper) (listed : Array Bool) : Prop := listed.size ≤ ops.size

theorem out_of {listed : Array Bool} (hf : fits ops listed) : ∀ k, ops[k]? = none → listed.getD k false = false := fun k hk => by
  have h1 : ops.size ≤ k := by simpa using hk
  unfold fits at hf
  simp [Array.getElem?_eq_none (show listed.size ≤ k by omega)]

/-- A number that is ready has not come up; what it waits for has. -/
theorem ready_reach {listed : Array Bool} {i j n : Nat} (hc : closedB md ops listed = true) (hf : fits ops listed) (hi : i ∈ Region.ready md ops listed) (hj : j ∈ Region.ready md ops listed) (hr : reach md ops n j i = true) : False := by
  obtain ⟨-, o, ho, hall⟩ := mem_ready.1 hj
  have h1 := reach_listed hc n j o ho hall (out_of hf) hr
  have h0 := (mem_ready.1 hi).1
  by_cases hlt : i < listed.size
  · simp [hlt] at h0 h1
    rw [h0] at h1
    cases h1
  · simp [Array.getElem?_eq_none (Nat.le_of_not_lt hlt)] at h1

theorem ready_other {listed : Array Bool} {i j : Nat} {o : Oper} (hi : i ∈ Region.ready md ops listed) (hj : j ∈ Region.ready md ops listed) (ho : ops[j]? = some o) : ∀ e ∈ o.after, Region.binds md e = true → e.on ≠ i := fun e he hb heq => by
  obtain ⟨-, o', ho', hall⟩ := mem_ready.1 hj
  obtain rfl : o = o' := Option.some.inj (ho.symm.trans ho')
  have h1 := hall e he hb
  have h0 := (mem_ready.1 hi).1
  rw [heq] at h1
  by_cases hlt : i < listed.size
  · simp [hlt] at h0 h1
    rw [h0] at h1
    cases h1
  · simp [Array.getElem?_eq_none (Nat.le_of_not_lt hlt)] at h1

theorem first_L {i n : Nat} {oi : Oper} {v : Value} (hi : ops[i]? = some oi) (hsel : ∀ (j : Nat) (o : Oper) cs b, ops[j]? = some o → o.op ≠ .select cs b)
    (hQ : ∀ c a w, Q (.panic c) (a.put oi.dst v) w → Q (.panic c) a w) (hE : ∀ e ∈ E, reach md ops n e i = true) :
    ∀ (f : Nat) (listed : Array Bool) (a : Act) (w : World),
      (∀ j oj, ops[j]? = some oj → j ≠ i → listed.getD j true = false → (∀ e ∈ oj.after, Region.binds md e = true → e.on ≠ i) → oi.apart ops oj = true) →
      i ∈ Region.ready md ops listed → YieldsIf P ops S oi v a → closedB md ops listed = true → fits ops listed → S w →
      AnyL P md ops Q S E f (listed.setIfInBounds i true) (a.put oi.dst v) w → AnyL P md ops Q S E (f + 1) listed a w := by
  intro f
  induction f with
  | zero =>
    intro listed a w _ hr hy hc hf hS H
    refine ⟨fun h => absurd (h ▸ hr) (by simp), fun j hj => ?_⟩
    by_cases hji : j = i
    · subst hji; exact hy.wpOp hi hS ⟨fun _ => hS, H⟩
    · have := ready_mono hj hji
      rw [H.1] at this
      cases this
  | succ f ih =>
    intro listed a w hfree hr hy hc hf hS H
    refine ⟨fun h => absurd (h ▸ hr) (by simp), fun j hj => ?_⟩
    by_cases hji : j = i
    · subst hji; exact hy.wpOp hi hS ⟨fun _ => hS, H⟩
    · obtain ⟨hun, oj, hoj, -⟩ := mem_ready.1 hj
      have hjE : E.contains j = false := by
        cases hb : E.contains j with
        | false => rfl
        | true => exact absurd (hE j (by simpa using hb)) (fun h => ready_reach hc hf hr hj h)
      have h2 := wpOp_putIf hoj (hfree j oj hoj hji hun (ready_other hr hj hoj)) (fun cs b => hsel i oi cs b hi) (fun cs b => hsel j oj cs b hoj) hQ hy (H.2 j (ready_mono hj hji))
      refine wpOp_mono (fun a' w' h3 => ⟨fun _ => h3.2.1 hjE, ih (listed.setIfInBounds j true) a' w' (fun k ok hk hki hun' hno => ?_) (ready_mono hr (Ne.symm hji)) h3.1 (closed_step hc hj) (by unfold fits; rw [Array.size_setIfInBounds]; exact hf) (h3.2.1 hjE) ?_⟩) h2
      · refine hfree k ok hk hki ?_ hno
        by_cases hjk : j = k
        · subst hjk; exact hun
        · rw [getD_set_ne true hjk] at hun'; exact hun'
      · rw [Array.setIfInBounds_comm _ _ hji]
        exact h3.2.2

theorem first_P {i : Nat} {oi : Oper} {v : Value} (hi : ops[i]? = some oi) (hsel : ∀ (j : Nat) (o : Oper) cs b, ops[j]? = some o → o.op ≠ .select cs b)
    (hQ : ∀ c a w, Q (.panic c) (a.put oi.dst v) w → Q (.panic c) a w) (hE : E.contains i = true) :
    ∀ (f : Nat) (listed : Array Bool) (a : Act) (w : World),
      (∀ j oj, ops[j]? = some oj → j ≠ i → listed.getD j true = false → (∀ e ∈ oj.after, Region.binds md e = true → e.on ≠ i) → oi.apart ops oj = true) →
      i ∈ Region.ready md ops listed → YieldsIf P ops (fun _ => True) oi v a →
      AnyL P md ops Q S E f (listed.setIfInBounds i true) (a.put oi.dst v) w → AnyL P md ops Q S E (f + 1) listed a w := by
  intro f
  induction f with
  | zero =>
    intro listed a w _ hr hy H
    refine ⟨fun h => absurd (h ▸ hr) (by simp), fun j hj => ?_⟩
    by_cases hji : j = i
    · subst hji; exact hy.wpOp hi trivial ⟨fun h => (by rw [hE] at h; cases h), H⟩
    · have := ready_mono hj hji
      rw [H.1] at this
      cases this
  | succ f ih =>
    intro listed a w hfree hr hy H
    refine ⟨fun h => absurd (h ▸ hr) (by simp), fun j hj => ?_⟩
    by_cases hji : j = i
    · subst hji; exact hy.wpOp hi trivial ⟨fun h => (by rw [hE] at h; cases h), H⟩
    · obtain ⟨hun, oj, hoj, -⟩ := mem_ready.1 hj
      have h2 := wpOp_putIf hoj (hfree j oj hoj hji hun (ready_other hr hj hoj)) (fun cs b => hsel i oi cs b hi) (fun cs b => hsel j oj cs b hoj) hQ hy (H.2 j (ready_mono hj hji))
      refine wpOp_mono (fun a' w' h3 => ⟨h3.2.1, ih (listed.setIfInBounds j true) a' w' (fun k ok hk hki hun' hno => ?_) (ready_mono hr (Ne.symm hji)) h3.1 ?_⟩) h2
      · refine hfree k ok hk hki ?_ hno
        by_cases hjk : j = k
        · subst hjk; exact hun
        · rw [getD_set_ne true hjk] at hun'; exact hun'
      · rw [Array.setIfInBounds_comm _ _ hji]
        exact h3.2.2

/-- Number i, that yields wherever S holds, is taken first. -/
theorem take_L {i : Nat} {oi : Oper} {v : Value} {f : Nat} {listed : Array Bool} {a : Act} {w : World} (hi : ops[i]? = some oi)
    (hs : Region.noSelect ops = true) (hf : Region.free md ops listed i = true) (hr : (Region.ready md ops listed).contains i = true) (hE : (E.all fun e => reach md ops ops.size e i) = true) (hc : closedB md ops listed = true) (hz : Nat.ble listed.size ops.size = true)
    (hQ : ∀ c a w, Q (.panic c) (a.put oi.dst v) w → Q (.panic c) a w) (hy : YieldsIf P ops S oi v a) (hS : S w)
    (h : AnyL P md ops Q S E f (listed.setIfInBounds i true) (a.put oi.dst v) w) : AnyL P md ops Q S E (f + 1) listed a w :=
  first_L hi (Region.noSelect_spec hs) hQ (fun e he => List.all_eq_true.1 hE e he) f listed a w (Region.free_spec hi hf) (by simpa using hr) hy hc (Nat.le_of_ble_eq_true hz) hS h

/-- Number i, of E, that yields in whatever world, is taken first. -/
theorem take_P {i : Nat} {oi : Oper} {v : Value} {f : Nat} {listed : Array Bool} {a : Act} {w : World} (hi : ops[i]? = some oi)
    (hs : Region.noSelect ops = true) (hf : Region.free md ops listed i = true) (hr : (Region.ready md ops listed).contains i = true) (hE : E.contains i = true)
    (hQ : ∀ c a w, Q (.panic c) (a.put oi.dst v) w → Q (.panic c) a w) (hy : YieldsIf P ops (fun _ => True) oi v a)
    (h : AnyL P md ops Q S E f (listed.setIfInBounds i true) (a.put oi.dst v) w) : AnyL P md ops Q S E (f + 1) listed a w :=
  first_P hi (Region.noSelect_spec hs) hQ hE f listed a w (Region.free_spec hi hf) (by simpa using hr) hy h

/-- Number i alone may come up. -/
theorem one_L {i : Nat} {o : Oper} {f : Nat} {listed : Array Bool} {a : Act} {w : World} (hr : Region.ready md ops listed = [i]) (ho : ops[i]? = some o)
    (h : ∀ K' : Act → World → Prop, Shut (∀ a w, S w → (S w → AnyL P md ops Q S E f (listed.setIfInBounds i true) a w) → K' a w) → if Region.wanted o (yielded ops a.tmps) = true then Oper.wp P o a w K' Q else K' (a.put o.dst undef) w) :
    AnyL P md ops Q S E (f + 1) listed a w :=
  ⟨fun h0 => absurd (hr ▸ h0) (by simp), fun j hj => by
    rw [hr, List.mem_singleton] at hj
    subst hj
    exact wpOp_step ho (fun K' hK => h K' (fun a w hS hW => hK a w ⟨fun _ => hS, hW hS⟩))⟩

/-- One of two comes up. -/
theorem two_L {i j : Nat} {oi oj : Oper} {f : Nat} {listed : Array Bool} {a : Act} {w : World} (hr : Region.ready md ops listed = [i, j]) (hoi : ops[i]? = some oi) (hoj : ops[j]? = some oj)
    (h : ∀ K' : Act → World → Prop, Shut (∀ a w, S w → (S w → AnyL P md ops Q S E f (listed.setIfInBounds i true) a w) → K' a w) → if Region.wanted oi (yielded ops a.tmps) = true then Oper.wp P oi a w K' Q else K' (a.put oi.dst undef) w)
    (h' : ∀ K' : Act → World → Prop, Shut (∀ a w, S w → (S w → AnyL P md ops Q S E f (listed.setIfInBounds j true) a w) → K' a w) → if Region.wanted oj (yielded ops a.tmps) = true then Oper.wp P oj a w K' Q else K' (a.put oj.dst undef) w) :
    AnyL P md ops Q S E (f + 1) listed a w :=
  ⟨fun h0 => absurd (hr ▸ h0) (by simp), fun k hk => by
    rw [hr] at hk
    rcases List.mem_cons.1 hk with rfl | hk
    · exact wpOp_step hoi (fun K' hK => h K' (fun a w hS hW => hK a w ⟨fun _ => hS, hW hS⟩))
    · obtain rfl := List.mem_singleton.1 hk
      exact wpOp_step hoj (fun K' hK => h' K' (fun a w hS hW => hK a w ⟨fun _ => hS, hW hS⟩))⟩

/-- Number i, of E, alone may come up. -/
theorem oneE_L {i : Nat} {o : Oper} {f : Nat} {listed : Array Bool} {a : Act} {w : World} (hr : Region.ready md ops listed = [i]) (ho : ops[i]? = some o) (hE : E.contains i = true)
    (h : ∀ K' : Act → World → Prop, Shut (∀ a w, AnyL P md ops Q S E f (listed.setIfInBounds i true) a w → K' a w) → if Region.wanted o (yielded ops a.tmps) = true then Oper.wp P o a w K' Q else K' (a.put o.dst undef) w) :
    AnyL P md ops Q S E (f + 1) listed a w :=
  ⟨fun h0 => absurd (hr ▸ h0) (by simp), fun j hj => by
    rw [hr, List.mem_singleton] at hj
    subst hj
    exact wpOp_step ho (fun K' hK => h K' (fun a w hW => hK a w ⟨fun hb => (by rw [hE] at hb; cases hb), hW⟩))⟩

/-- All have come up. -/
theorem done_L {listed : Array Bool} {a : Act} {w : World} (hr : Region.ready md ops listed = []) (h : Q .normal a w) : ∀ f, AnyL P md ops Q S E f listed a w
  | 0 => ⟨hr, h⟩
  | _ + 1 => ⟨fun _ => h, fun i hi => by rw [hr] at hi; cases hi⟩

theorem region_L {id : Nat} {a : Act} {w : World} (hm : P.follows .mixedOrders = true) (hS : S w.drew)
    (h : S w.drew → AnyL P .any ops Q S E ops.size (Array.replicate ops.size false) a w.drew) : (Code.region id ops true).wp P Q a w :=
  wp_region_any hm (any_of_L _ _ _ _ (h hS))

end

end Go.Proofs.YtenkdpogdfcbgaaGreat

/- The walk of vol.Copied. -/
namespace Go.Proofs.YtenkdpogdfcbgaaGreat
open Go.RowKit

theorem own_shape {w : World} {base m : Nat} {e : TypeId} {size : Nat} {v : Value} {xs : List Value} (h : w.ownsRow base e size v m xs) : ∃ a c, v = .slice a m c := by
  rcases h.2 with ⟨rfl, rfl⟩ | ⟨g, cap, cur, rfl, -⟩
  · exact ⟨none, 0, rfl⟩
  · exact ⟨_, cap, rfl⟩

/-- A state that a call makes. -/
def StMade (w : World) (s : Vo.St) (e : Ending) (w' : World) : Prop :=
  ∃ a n c b m d rs, e = .returned (.agg #[.slice a n c, .slice b m d]) ∧ StW w' w.heap.size a n c b m d rs s ∧ Below w.heap.size w w'

theorem copied_result {tmps : Array Value} {W : World} {B : Nat} {v0 v1 : Value} (h2 : tmps.getD 2 undef = .pointer (some ⟨B, 0, none⟩)) (h : Bxs W B [v0, v1]) :
    (results Tryz.f30 tmps).run Tryz.prog W = .ok (.agg #[v0, v1]) W := by
  have c0 := h.c 0 _ rfl; have c1 := h.c 1 _ rfl
  have hq : tmps[2]?.getD undef = .pointer (some ⟨B, 0, none⟩) := by simpa using h2
  simp [results, Tryz.results30, hq, go_sem, c0, c1]

theorem _root_.Go.World.ownsRow.low2 {w : World} {b base : Nat} {e : TypeId} {size n : Nat} {v : Value} {xs : List Value} (h : w.ownsRow b e size v n xs) (hb : base ≤ b) : w.ownsRow base e size v n xs := own_low h hb

/-- What a round of Copied leaves. -/
theorem cp_end {w V w5 w6 : World} {B3 n n1 k d' g6 cap6 f3 c5 : Nat} {a1 b' a5 : Option Addr} {f1 : ByteArray} {ids : List Bg.Id} {rs' : List Rw} {s : Vo.St} {S0 Y0 : List Value} {T : TypeId}
    (hB3 : w.heap.size + 2 ≤ B3) (hB3V : B3 < V.heap.size) (BV : Below w.heap.size w V) (XV : Bxs V w.heap.size S0) (YV : Bxs V (w.heap.size + 1) Y0) (SV : StW V (w.heap.size + 2) a1 n n1 b' k d' rs' s) (OW : ∀ v ∈ (Value.slice b' k d') :: rs'.map Rw.sl, ∀ j, v.ownBlock = some j → B3 < j) (HA : ∀ j, (Value.slice a1 n n1).ownBlock = some j → j < B3)
    (HB5 : Below V.heap.size V w5) (HO5 : w5.ownsRow V.heap.size 81 3 (.slice a5 f3 c5) f3 (dv ids)) (hl : ids.length = f3)
    (Z6 : Bxs w6 B3 [.slice a1 n n1, .slice b' k d']) (Q1 : w6.ownsRow (w.heap.size + 2) 78 2 (.slice (some ⟨g6, 0, none⟩) (k + 1) cap6) (k + 1) (rv rs' ++ [.string f1, .slice a5 f3 c5])) (Q2 : (w5.alloc (.cells #[.string f1, .slice a5 f3 c5] T)).grownBy w6 (Value.slice b' k d').ownBlock) (Q3 : (Value.slice b' k d').ownBlock = some g6 ∨ g6 = (w5.alloc (.cells #[.string f1, .slice a5 f3 c5] T)).heap.size) :
    Below w.heap.size w (w6.setCell ⟨B3, 1, none⟩ (.slice (some ⟨g6, 0, none⟩) (k + 1) cap6)) ∧ Bxs (w6.setCell ⟨B3, 1, none⟩ (.slice (some ⟨g6, 0, none⟩) (k + 1) cap6)) w.heap.size S0 ∧ Bxs (w6.setCell ⟨B3, 1, none⟩ (.slice (some ⟨g6, 0, none⟩) (k + 1) cap6)) (w.heap.size + 1) Y0 ∧ Bxs (w6.setCell ⟨B3, 1, none⟩ (.slice (some ⟨g6, 0, none⟩) (k + 1) cap6)) B3 [.slice a1 n n1, .slice (some ⟨g6, 0, none⟩) (k + 1) cap6] ∧
      StW (w6.setCell ⟨B3, 1, none⟩ (.slice (some ⟨g6, 0, none⟩) (k + 1) cap6)) (w.heap.size + 2) a1 n n1 (some ⟨g6, 0, none⟩) (k + 1) cap6 (rs' ++ [⟨f1, a5, f3, c5⟩]) ⟨s.bag, s.vols ++ [⟨f1, ids⟩]⟩ ∧ (∀ v ∈ (Value.slice (some ⟨g6, 0, none⟩) (k + 1) cap6) :: (rs' ++ [(⟨f1, a5, f3, c5⟩ : Rw)]).map Rw.sl, ∀ j, v.ownBlock = some j → B3 < j) := by
  have hX : Below V.heap.size V (w5.alloc (.cells #[.string f1, .slice a5 f3 c5] T)) := HB5.alloc HB5.size _
  have hXs := hX.size
  have h5 : ∀ j, (Value.slice a5 f3 c5).ownBlock = some j → V.heap.size ≤ j ∧ j < (w5.alloc (.cells #[.string f1, .slice a5 f3 c5] T)).heap.size := fun j hj => ⟨row_base HO5 j hj, by have := own_block_lt HO5 j hj; rw [World.size_alloc]; omega⟩
  have hrow : ∀ j, (Value.slice b' k d').ownBlock = some j → B3 < j := fun j hj => OW _ List.mem_cons_self j hj
  have hBX := BV.trans (hX.mono (by have := BV.size; omega))
  have hB6 := hBX.grown Q2 (by have := hBX.size; omega) (fun j hj => by have := hrow j hj; omega)
  have hne : ∀ B, B ≤ B3 → some B ≠ (Value.slice b' k d').ownBlock := fun B hB e => by have := hrow B e.symm; omega
  have hS6 := SV.app rfl hX ((HO5.alloc _).low2 (by have := BV.size; omega)) hl h5 Q2 Q1 Q3
  have hO6 : ∀ v ∈ (Value.slice (some ⟨g6, 0, none⟩) (k + 1) cap6) :: (rs' ++ [(⟨f1, a5, f3, c5⟩ : Rw)]).map Rw.sl, ∀ j, v.ownBlock = some j → B3 < j := fun v hv j hj => by
    rcases List.mem_cons.1 hv with rfl | hv
    · obtain rfl : g6 = j := Option.some.inj hj
      rcases Q3 with h | h
      · exact hrow _ h
      · omega
    · rw [List.map_append] at hv
      rcases List.mem_append.1 hv with hv | hv
      · exact OW v (List.mem_cons_of_mem _ hv) j hj
      · obtain rfl := List.mem_singleton.1 hv
        have := (h5 j hj).1
        omega
  refine ⟨hB6.setCell (by show w.heap.size ≤ B3; omega) _, ((XV.on hX).grown Q2 (hne _ (by omega))).other (by omega) _, ((YV.on hX).grown Q2 (hne _ (by omega))).other (by omega) _, Z6.set 1 (show 1 < 2 by decide) _ rfl, hS6.other (fun v hv e => ?_) _, hO6⟩
  unfold sls at hv
  rcases List.mem_cons.1 hv with rfl | hv
  · have := HA B3 e
    omega
  · have := hO6 v hv B3 e
    omega

set_option maxRecDepth 100000 in
set_option maxHeartbeats 16000000 in
theorem Copied_V (a b : Option Addr) (n c m d base : Nat) (rs : List Rw) (s : Vo.St) (w : World) (hS : StW w base a n c b m d rs s) (hm : m ≤ 64) (hn : n ≤ 64) (hid : ∀ v ∈ s.vols, v.ids.length ≤ 1000) :
    Calls Tryz.prog 30 #[.agg #[.slice a n c, .slice b m d]] w (StMade w s) := by
  obtain ⟨i0, hi0, hz0, hz1, hz2⟩ := info_parts Tryz.infoVol
  have hB0 : Below w.heap.size w (w.alloc (.cells #[.slice a n c, .slice b m d] 33)) := (Below.refl _ w).alloc (Nat.le_refl _) _
  have hB : Below w.heap.size w ((w.alloc (.cells #[.slice a n c, .slice b m d] 33)).alloc (.cells #[.slice none 0 0, .slice none 0 0] 33)) := hB0.alloc (by rw [World.size_alloc]; omega) _
  have hX0 := bxs_new w 33 #[.slice a n c, .slice b m d] [.slice a n c, .slice b m d] rfl
  have hX := hX0.alloc (.cells #[.slice none 0 0, .slice none 0 0] 33)
  have hY := bxs_new (w.alloc (.cells #[.slice a n c, .slice b m d] 33)) 33 #[.slice none 0 0, .slice none 0 0] [.slice none 0 0, .slice none 0 0] rfl
  rw [World.size_alloc] at hY
  have CL := Clone_I a n c s.bag _ (own_isl0 (own_keep hS.bag hB) hS.len) (by omega)
  rw [World.size_alloc, World.size_alloc] at CL
  have HS := Lib.hid hS; have HB := Lib.hid hB; have HX := Lib.hid hX; have HY := Lib.hid hY; have HI := Lib.hid hid
  have c0 := hX.c 0 _ rfl
  clear hS hB0 hB hX0 hX hY hid
  go_enter Tryz.func30, Tryz.ntmps30
  go_wp2_with fail
  with_reducible refine CL.mono ?_
  rintro e w3 ⟨v, rfl, ho, hb⟩
  obtain ⟨a1, n1, rfl⟩ := own_shape ho
  have HO := Lib.hid ho
  have hsz3 := hb.size
  rw [World.size_alloc, World.size_alloc] at hsz3
  have HB3 := Lib.hid (HB.out.trans (hb.mono (by omega)))
  have HX3 := Lib.hid (HX.out.on (by rw [World.size_alloc, World.size_alloc]; exact hb))
  have HY3 := Lib.hid (HY.out.on (by rw [World.size_alloc, World.size_alloc]; exact hb))
  clear ho hb CL c0
  have c1 := HX3.out.c 1 _ rfl
  have hlx := HX3.out.lt
  have HB4 : Hid (∀ o, Below w.heap.size w (w3.alloc o)) := Lib.hid fun o => HB3.out.alloc HB3.out.size o
  have HX4 := Lib.hid fun o => HX3.out.alloc o
  have HY4 := Lib.hid fun o => HY3.out.alloc o
  have HZ4 := Lib.hid (bxs_new w3 33 #[.slice a1 n n1, .slice none 0 0] [.slice a1 n n1, .slice none 0 0] rfl)
  have HS4 : Hid (StW (w3.alloc (.cells #[.slice a1 n n1, .slice none 0 0] 33)) (w.heap.size + 2) a1 n n1 none 0 0 [] ⟨s.bag, []⟩) := Lib.hid ⟨HO.out.alloc _, HS.out.len, World.ownsRow_nil _ _ _ _, rfl, rfl, fun i r v hr => by simp at hr, by
    unfold Apart
    simp [Value.ownBlock]⟩
  have HA : Hid (∀ k, (Value.slice a1 n n1).ownBlock = some k → k < w3.heap.size) := Lib.hid fun k hk => own_block_lt HO.out k hk
  go_wp2_with fail
  clear c1
  go_loopw [13] (fun x wr => ∃ (k : Nat) (b' : Option Addr) (d' : Nat) (rs' : List Rw), k ≤ m ∧ x = .int .i64 k ∧ Hid (Below w.heap.size w wr) ∧ Hid (Bxs wr w.heap.size [.slice a n c, .slice b m d]) ∧ Hid (Bxs wr (w.heap.size + 1) [.slice none 0 0, .slice none 0 0]) ∧ Hid (Bxs wr w3.heap.size [.slice a1 n n1, .slice b' k d']) ∧
      Hid (StW wr (w.heap.size + 2) a1 n n1 b' k d' rs' ⟨s.bag, s.vols.take k⟩) ∧ Hid (∀ v ∈ (Value.slice b' k d') :: rs'.map Rw.sl, ∀ j, v.ownBlock = some j → w3.heap.size < j))
    (fun x _ => m - (intOf x).toNat)
  case atStart => exact ⟨0, none, 0, [], Nat.zero_le _, rfl, HB4 |> fun h => Lib.hid (h.out _), Lib.hid (HX4.out _), Lib.hid (HY4.out _), HZ4, HS4, Lib.hid fun v hv j hj => by
    rcases List.mem_cons.1 hv with rfl | hv
    · cases hj
    · cases hv⟩
  case round =>
    obtain ⟨k, b', d', rs', hk, rfl, BW, XW, YW, ZW, SW, OW⟩ := hrel
    have hsz := BW.out.size
    have hzl := ZW.out.lt
    by_cases hlt : k < m
    · have hkv : k < s.vols.length := by rw [HS.out.vlen]; exact hlt
      have hkr : k < rs.length := by rw [HS.out.rlen]; exact hlt
      obtain ⟨g, rfl, hg, d0, d1⟩ := rv_at (own_keep HS.out.row BW.out) hkr
      obtain ⟨e1, e2, e3⟩ := HS.out.vol k rs[k] s.vols[k] (List.getElem?_eq_getElem hkr) (List.getElem?_eq_getElem hkv)
      have hn1 : rs[k].n ≤ 1000 := by rw [← e3]; exact HI.out s.vols[k] (List.getElem_mem hkv)
      have CD : Hid (∀ V, Below w.heap.size w V → Calls Tryz.prog 62 #[.slice rs[k].a rs[k].n rs[k].c] V fun e w' => ∃ a5 c5, e = .returned (.slice a5 rs[k].n c5) ∧ w'.ownsRow V.heap.size 81 3 (.slice a5 rs[k].n c5) rs[k].n (dv s.vols[k].ids) ∧ Below V.heap.size V w') := Lib.hid fun V hb =>
        (Clone_D rs[k].a rs[k].n rs[k].c base s.vols[k].ids V (own_keep e2 hb) (by omega)).mono fun e w' ⟨v, he, ho, hb⟩ => by
          obtain ⟨a5, c5, rfl⟩ := own_shape ho
          exact ⟨a5, c5, he, ho, hb⟩
      have HT : Hid (s.vols.take (k + 1) = s.vols.take k ++ [⟨rs[k].name, s.vols[k].ids⟩]) := Lib.hid (by rw [List.take_succ_eq_append_getElem hkv, e1])
      have HE3 := Lib.hid e3
      clear e1 e2 e3
      generalize rs[k].name = f1 at *
      generalize rs[k].a = f2 at *
      generalize rs[k].n = f3 at *
      generalize rs[k].c = f4 at *
      generalize s.vols[k].ids = ids at *
      obtain ⟨V, hV⟩ : ∃ V, (wr.alloc (.cells #[.string f1, .slice f2 f3 f4] 78)).drew = V := ⟨_, rfl⟩
      have hVb : Below wr.heap.size wr V := by rw [← hV]; exact ((Below.refl _ wr).alloc (Nat.le_refl _) _).drew
      have hVs : wr.heap.size < V.heap.size := by rw [← hV]; show _ < (wr.alloc _).heap.size; rw [World.size_alloc]; omega
      have HVS := Lib.hid hVs
      have CV := CD.out V (BW.out.trans (hVb.mono hsz))
      have HVB := Lib.hid hVb
      have SV := Lib.hid (SW.out.keep hVb)
      have ZV := Lib.hid (ZW.out.on hVb)
      have z1 := ZV.out.c 1 _ rfl
      have hTV : Bxs V wr.heap.size [.string f1, .slice f2 f3 f4] := by rw [← hV]; exact (bxs_new wr 78 #[.string f1, .slice f2 f3 f4] [.string f1, .slice f2 f3 f4] rfl).drew
      have t0 := hTV.c 0 _ rfl
      have t1 := hTV.c 1 _ rfl
      have HTV := Lib.hid hTV
      have XV := Lib.hid (XW.out.on hVb)
      have YV := Lib.hid (YW.out.on hVb)
      have HNB : Hid (some w3.heap.size ≠ (Value.slice b' k d').ownBlock) := Lib.hid fun e => by
        have := OW.out _ List.mem_cons_self _ e.symm
        omega
      have HNT : Hid (some wr.heap.size ≠ (Value.slice b' k d').ownBlock) := Lib.hid fun e => by
        have := own_block_lt SW.out.row _ e.symm
        omega
      have BV := Lib.hid (BW.out.trans (hVb.mono hsz))
      clear hTV
      have HB3V := Lib.hid ZV.out.lt
      have HB3S : Hid (w.heap.size + 2 ≤ w3.heap.size) := Lib.hid (by omega)
      have HAP : Hid (∀ (w5 : World) (a5 : Option Addr) (c5 : Nat), Below V.heap.size V w5 → ∀ j u, [Value.string f1, .slice a5 f3 c5][j]? = some u → (w5.alloc (.cells #[.string f1, .slice a5 f3 c5] 78)).cell? ((⟨w5.heap.size, 0, none⟩ : Addr).add j) = some u) := Lib.hid fun w5 a5 c5 hb j u hu => by
        rw [addr_lit, Nat.zero_add]
        exact cell_new w5 (k := j) (by simpa using hu)
      have HSO : Hid (∀ (w5 : World) o, Below V.heap.size V w5 → (w5.alloc o).ownsRow (w.heap.size + 2) 78 2 (.slice b' k d') k (rv rs')) := Lib.hid fun w5 o hb => own_keep SV.out.row (hb.alloc hb.size o)
      have HSZ : Hid (∀ (w5 : World) o, Below V.heap.size V w5 → w.heap.size + 2 ≤ (w5.alloc o).heap.size) := Lib.hid fun w5 o hb => by
        have := hb.size
        rw [World.size_alloc]
        omega
      have H5 : Hid (k + 1 ≤ maxLen ∧ (k + 1) * 40 ≤ 140737488355328) := Lib.hid ⟨by unfold maxLen; omega, by omega⟩
      clear hVb hVs CD
      go_wp2_with fail
      clear d0 d1
      refine wp_region_noPanic ?_
      refine region_L (S := (fun X : World => X.cell? ⟨w3.heap.size, 1, none⟩ = some (.slice b' k d') ∧ X.cell? ⟨wr.heap.size, 0, none⟩ = some (.string f1) ∧ X.cell? ⟨wr.heap.size, 1, none⟩ = some (.slice f2 f3 f4))) (E := [11]) (by kernel_rfl) (by rw [hV]; exact ⟨z1, t0, t1⟩) (fun hS => ?_)
      refine take_L (i := 0) (oi := _) (v := ?_) rfl (by kernel_rfl) (by kernel_rfl) (by kernel_rfl) (by kernel_rfl) (by kernel_rfl) (by kernel_rfl) (fun _ _ _ h => h) (Or.inl ⟨by rfl, ?_⟩) hS ?_
      rotate_left
      next => (rintro w' ⟨k0, k1, k2⟩; go_simp; (try with_reducible rfl))
      (try simp only [Act.put, List.setIfInBounds_toArray])
      refine take_L (i := 1) (oi := _) (v := ?_) rfl (by kernel_rfl) (by kernel_rfl) (by kernel_rfl) (by kernel_rfl) (by kernel_rfl) (by kernel_rfl) (fun _ _ _ h => h) (Or.inl ⟨by rfl, ?_⟩) hS ?_
      rotate_left
      next => (rintro w' ⟨k0, k1, k2⟩; go_simp; (try with_reducible rfl))
      (try simp only [Act.put])
      refine take_L (i := 2) (oi := _) (v := ?_) rfl (by kernel_rfl) (by kernel_rfl) (by kernel_rfl) (by kernel_rfl) (by kernel_rfl) (by kernel_rfl) (fun _ _ _ h => h) (Or.inl ⟨by rfl, ?_⟩) hS ?_
      rotate_left
      next => (rintro w' ⟨k0, k1, k2⟩; go_simp; (try with_reducible rfl))
      (try simp only [Act.put])
      refine take_L (i := 3) (oi := _) (v := ?_) rfl (by kernel_rfl) (by kernel_rfl) (by kernel_rfl) (by kernel_rfl) (by kernel_rfl) (by kernel_rfl) (fun _ _ _ h => h) (Or.inl ⟨by rfl, ?_⟩) hS ?_
      rotate_left
      next => (rintro w' ⟨k0, k1, k2⟩; go_simp; (try with_reducible rfl))
      (try simp only [Act.put])
      refine take_L (i := 4) (oi := _) (v := ?_) rfl (by kernel_rfl) (by kernel_rfl) (by kernel_rfl) (by kernel_rfl) (by kernel_rfl) (by kernel_rfl) (fun _ _ _ h => h) (Or.inl ⟨by rfl, ?_⟩) hS ?_
      rotate_left
      next => (rintro w' ⟨k0, k1, k2⟩; go_simp; (try with_reducible rfl))
      (try simp only [Act.put])
      refine take_L (i := 5) (oi := _) (v := ?_) rfl (by kernel_rfl) (by kernel_rfl) (by kernel_rfl) (by kernel_rfl) (by kernel_rfl) (by kernel_rfl) (fun _ _ _ h => h) (Or.inl ⟨by rfl, ?_⟩) hS ?_
      rotate_left
      next => (rintro w' ⟨k0, k1, k2⟩; go_simp; (try with_reducible rfl))
      (try simp only [Act.put])
      refine one_L (i := 6) (o := _) (by kernel_rfl) rfl (fun K hK => ?_)
      go_simp
      go_at_call 62
      with_reducible refine CV.mono ?_
      rintro e w5 ⟨a5, c5, rfl, ho5, hb5⟩
      have hs5 := hb5.size; have Z5 := Lib.hid (ZV.out.on hb5); have z5 := Z5.out.c 1 _ rfl; have l5 := Z5.out.lt; have T5 := Lib.hid (HTV.out.on hb5); have t50 := T5.out.c 0 _ rfl; have t51 := T5.out.c 1 _ rfl; have l51 := T5.out.lt; have HB5 := Lib.hid hb5; have HO5 := Lib.hid ho5; clear hb5 ho5
      refine hK.out _ _ (by exact ⟨z5, t50, t51⟩) (fun hSn => ?_)
      clear hK K hS
      (try simp only [Act.put, List.setIfInBounds_toArray, List.set_cons_zero, List.set_cons_succ])
      have hS := hSn
      clear hSn
      refine take_L (i := 7) (oi := _) (v := ?_) rfl (by kernel_rfl) (by kernel_rfl) (by kernel_rfl) (by kernel_rfl) (by kernel_rfl) (by kernel_rfl) (fun _ _ _ h => h) (Or.inl ⟨by rfl, ?_⟩) hS ?_
      rotate_left
      next => (rintro w' ⟨k0, k1, k2⟩; go_simp; (try with_reducible rfl))
      (try simp only [Act.put, List.setIfInBounds_toArray])
      refine one_L (i := 8) (o := _) (by kernel_rfl) rfl (fun K hK => ?_)
      go_simp
      refine hK.out _ _ (by exact ⟨(Z5.out.alloc _).c 1 _ rfl, (T5.out.alloc _).c 0 _ rfl, (T5.out.alloc _).c 1 _ rfl⟩) (fun hSn => ?_)
      clear hK K hS
      (try simp only [Act.put, List.setIfInBounds_toArray, List.set_cons_zero, List.set_cons_succ])
      have hS := hSn
      clear hSn
      refine one_L (i := 9) (o := _) (by kernel_rfl) rfl (fun K hK => ?_)
      refine step_append_lies _ (by rfl) (.tmp 18) (.tmp 25) 31 (by rfl) (w.heap.size + 2) 78 i0 (.agg #[.string ⟨#[]⟩, .slice none 0 0]) 2 40 Tryz.underlying31 hi0 hz0 hz1 hz2 rfl (by decide) (.slice b' k d') k (rv rs') (by simp [Act.eval]) (HSO.out _ _ HB5.out) ⟨w5.heap.size, 0, none⟩ 1 1 [.string f1, .slice a5 f3 c5] (by simp [Act.eval]) (by rfl) (HAP.out _ _ _ HB5.out) (vol_ones _ _ _ _) (by decide) H5.out.1 H5.out.2 (HSZ.out _ _ HB5.out) _ rfl ?_
      intro g6 cap6 w6 q1 q2 q3 q4
      have Z6 := Lib.hid ((Z5.out.alloc (.cells #[.string f1, .slice a5 f3 c5] 78)).grown q2 HNB.out); have z6 := Z6.out.c 1 _ rfl; have f6 := Z6.out.z 1 (show 1 < 2 by decide); have T6 := Lib.hid ((T5.out.alloc (.cells #[.string f1, .slice a5 f3 c5] 78)).grown q2 HNT.out); have Q1 := Lib.hid q1; have Q2 := Lib.hid q2; have Q3 := Lib.hid q3; clear q1 q2 q3
      refine hK.out _ _ (by exact ⟨z6, T6.out.c 0 _ rfl, T6.out.c 1 _ rfl⟩) (fun hSn => ?_)
      clear hK K hS
      (try simp only [Act.put, List.setIfInBounds_toArray])
      have hS := hSn
      clear hSn
      refine take_L (i := 10) (oi := _) (v := ?_) rfl (by kernel_rfl) (by kernel_rfl) (by kernel_rfl) (by kernel_rfl) (by kernel_rfl) (by kernel_rfl) (fun _ _ _ h => h) (Or.inl ⟨by rfl, ?_⟩) hS ?_
      rotate_left
      next => (rintro w' ⟨k0, k1, k2⟩; go_simp; (try with_reducible rfl))
      (try simp only [Act.put])
      refine oneE_L (i := 11) (o := _) (by kernel_rfl) rfl (by kernel_rfl) (fun K hK => ?_)
      clear hS
      go_simp
      refine hK.out _ _ ?_
      clear hK K
      (try simp only [Act.put, List.setIfInBounds_toArray, List.set_cons_zero, List.set_cons_succ])
      refine done_L (by kernel_rfl) ?_ _
      refine NoPanic.normal ?_
      next =>
        have HW := Lib.hid (cp_end HB3S.out HB3V.out BV.out XV.out YV.out SV.out OW.out HA.out HB5.out HO5.out HE3.out Z6.out Q1.out Q2.out Q3.out)
        go_wp2_with fail
        go_roundw
        case rel => exact ⟨k + 1, _, _, _, hlt, by go_num, Lib.hid HW.out.1, Lib.hid HW.out.2.1, Lib.hid HW.out.2.2.1, Lib.hid HW.out.2.2.2.1, Lib.hid (by rw [HT.out]; exact HW.out.2.2.2.2.1), Lib.hid HW.out.2.2.2.2.2⟩
        case measure => simp [intOf]; omega
    · obtain rfl : k = m := by omega
      have hte : s.vols.take k = s.vols := List.take_of_length_le (by rw [HS.out.vlen]; exact Nat.le_refl _)
      have SF : Hid (StW wr (w.heap.size + 2) a1 n n1 b' k d' rs' s) := Lib.hid (by have := SW.out; rw [hte] at this; exact this)
      have z0 := ZW.out.c 0 _ rfl
      have z1 := ZW.out.c 1 _ rfl
      have y0 := YW.out.c 0 _ rfl
      have y1 := YW.out.c 1 _ rfl
      have yf0 := YW.out.z 0 (show 0 < 2 by decide)
      have yf1 := YW.out.z 1 (show 1 < 2 by decide)
      have hne : w.heap.size + 1 ≠ w3.heap.size := by omega
      clear hte
      go_wp2_with fail
      have s1 := SF.out.other (B := w.heap.size + 1) (i := 0) (SF.out.off (by omega)) (.slice a1 n n1)
      have s2 := s1.other (B := w.heap.size + 1) (i := 1) (s1.off (by omega)) (.slice b' k d')
      refine bodyPost_ret (copied_result (B := w.heap.size + 1) rfl (YW.out.set2 _ _)) rfl ?_
      exact ⟨_, _, _, _, _, _, _, rfl, s2.low (by omega), below_set2 BW.out (by omega) _ _⟩

end Go.Proofs.YtenkdpogdfcbgaaGreat
