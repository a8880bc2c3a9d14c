/- How often the blocks of a right state are used, plain. No program in sight. -/
import Derived.Test.YteddendidjhmbaaMdW
namespace Go.Proofs.Yteddendidjhmbaa.Vo
open Go.Proofs.Yteddendidjhmbaa Go.Proofs.Yteddendidjhmbaa.Bg

/-- How many of the ids are not empty. -/
def usedN (l : List Bg.Id) : Nat := l.countP fun z => z.is

theorem usedN_app (l m : List Bg.Id) : usedN (l ++ m) = usedN l + usedN m := List.countP_append
theorem usedN_le (l : List Bg.Id) : usedN l ≤ l.length := List.countP_le_length
theorem usedN_take {l : List Bg.Id} {k : Nat} (hk : k < l.length) : usedN (l.take (k + 1)) = usedN (l.take k) + if l[k].is = true then 1 else 0 := by
  rw [List.take_succ_eq_append_getElem hk, usedN_app]
  unfold usedN
  rw [List.countP_singleton]

theorem refsV_app (l m : List It) : Bg.refsV (l ++ m) = Bg.refsV l + Bg.refsV m := by
  unfold Bg.refsV
  rw [List.map_append, List.sum_append]
theorem refsV_cons (x : It) (l : List It) : Bg.refsV (x :: l) = x.refs + Bg.refsV l := by unfold Bg.refsV; rw [List.map_cons, List.sum_cons]

/-- All uses together are the places that are not empty. -/
theorem refs_used : ∀ (l : List Bg.Id) (bag : List It), Exact bag l → Bg.refsV bag = (usedN l : Int)
  | [], bag, h => by
    cases bag with
    | nil => rfl
    | cons x t =>
      have := h.used List.mem_cons_self
      exact absurd this (by unfold cnt; simp)
  | id :: l, bag, h => by
    rcases h.ids id List.mem_cons_self with rfl | ⟨x, hx, rfl⟩
    · rw [refs_used l bag h.unhole]
      unfold usedN
      rw [List.countP_cons_of_neg (by decide)]
    · obtain ⟨P, Q, rfl⟩ := List.append_of_mem hx
      have h2 := (exact_unuse h).1
      have hu : unuse (P ++ x :: Q) (idOf x) = if x.refs = 1 then P ++ Q else P ++ ⟨x.sum, x.n, x.text, x.refs - 1⟩ :: Q := by
        unfold unuse
        rw [if_pos (show (idOf x).is = true from rfl), drop_mid h.good (hit_idOf.2 rfl)]
      have ih := refs_used l _ h2
      rw [hu] at ih
      have hc : usedN (idOf x :: l) = usedN l + 1 := by unfold usedN; rw [List.countP_cons_of_pos (by rfl)]
      rw [hc, refsV_app, refsV_cons]
      split at ih
      · rename_i h1
        rw [refsV_app] at ih
        omega
      · rw [refsV_app, refsV_cons] at ih
        dsimp only at ih
        omega

theorem refs_in {l : List It} (h : Bg.Good l) : ∀ x ∈ l, 1 ≤ x.refs ∧ x.refs ≤ 1000000 := fun x hx => (Bg.one_fit (h.one x hx)).2.2.2.2.2

theorem refs_right {s : St} (h : Right s) : Bg.refsV s.bag = (usedN (allIds s.vols) : Int) := refs_used _ _ (right_iff.1 h).1

theorem used_step {vs : List Vl} {k : Nat} (hk : k < vs.length) : usedN (allIds (vs.take (k + 1))) = usedN (allIds (vs.take k)) + usedN vs[k].ids := by
  rw [List.take_succ_eq_append_getElem hk, allIds_app, usedN_app]
  congr 2
  unfold allIds
  simp

theorem used_small {s : St} (h : Right s) (k : Nat) : usedN (allIds (s.vols.take k)) ≤ 192 := by
  have key : ∀ vs : List Vl, (∀ v ∈ vs, v.ids.length ≤ 32) → usedN (allIds vs) ≤ 32 * vs.length := fun vs => by
    induction vs with
    | nil => intro _; exact Nat.zero_le _
    | cons v t ih =>
      intro hv
      have h1 := ih fun u hu => hv u (List.mem_cons_of_mem _ hu)
      have h2 := hv v List.mem_cons_self
      have h3 := usedN_le v.ids
      rw [allIds_cons, usedN_app, List.length_cons]
      omega
  have h1 := key (s.vols.take k) fun v hv => (h.vol v (List.mem_of_mem_take hv)).len
  have h2 : (s.vols.take k).length ≤ 6 := Nat.le_trans (List.length_take_le' ..) h.len
  omega

end Go.Proofs.Yteddendidjhmbaa.Vo
