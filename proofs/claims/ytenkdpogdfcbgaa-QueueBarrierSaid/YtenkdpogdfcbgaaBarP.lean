/- QueueBarrier, plain: what an ordered task waits for. No program in sight. -/
import Derived.Test.YtenkdpogdfcbgaaQuW4
namespace Go.Proofs.Ytenkdpogdfcbgaa.Rs

/-- Must the second wait for the first, that stands ahead of it? -/
def Wt (a b : Qu.T) : Prop := b.2 = 1 ∨ (a.2 = 1 ∧ b.2 ≠ 2)

/-- Where a task stands among those that are done; where its tag stands in a queue. -/
def pl (O : List Qu.T) (t : Qu.T) : Int := idx (fun u => decide (t = u)) O
def ps (q : List Qu.T) (t : Qu.T) : Int := idx (Qu.tg t.1) q

theorem may_wait {L : List Qu.T} {j : Nat} (hj : j < L.length) (hm : Qu.may L j = true) {i : Nat} (hi : i < j) : ¬ Wt (L[i]'(by omega)) L[j] := by
  have e : L.getD j (0, 0) = L[j] := by simp [List.getD, hj]
  unfold Qu.may at hm
  rw [e] at hm
  unfold Wt
  by_cases h2 : L[j].2 = 2
  · rintro (h | ⟨-, h⟩)
    · rw [h] at h2; cases h2
    · exact h h2
  · rw [if_neg h2] at hm
    by_cases h1 : L[j].2 = 1
    · rw [if_pos h1] at hm
      have := of_decide_eq_true hm
      omega
    · rw [if_neg h1] at hm
      rintro (h | ⟨h, -⟩)
      · exact h1 h
      · have hn : (L.take j).any Qu.ns = false := by simpa using hm
        rw [List.any_eq_false] at hn
        have hmem : L[i]'(by omega) ∈ L.take j := by
          rw [List.mem_take_iff_getElem]
          exact ⟨i, by omega, rfl⟩
        have := hn _ hmem
        simp [Qu.ns, h] at this

theorem idx_in {p : Qu.T → Bool} {O : List Qu.T} {a : Qu.T} (ha : a ∈ O) (hp : p a = true) : ∃ i : Nat, O.findIdx? p = some i ∧ i < O.length := by
  cases h : O.findIdx? p with
  | none => rw [List.findIdx?_eq_none_iff] at h; rw [h a ha] at hp; cases hp
  | some i => obtain ⟨h1, -⟩ := List.findIdx?_eq_some_iff_getElem.1 h; exact ⟨i, rfl, h1⟩

theorem pl_in {O : List Qu.T} {a : Qu.T} (ha : a ∈ O) : pl O a < O.length := by
  obtain ⟨i, h, hi⟩ := idx_in (p := fun u => decide (a = u)) ha (by simp)
  unfold pl idx
  rw [h]
  show (i : Int) < _
  omega

theorem pl_old {O : List Qu.T} {a s : Qu.T} (ha : a ∈ O) : pl (O ++ [s]) a = pl O a := by
  obtain ⟨i, h, hi⟩ := idx_in (p := fun u => decide (a = u)) ha (by simp)
  unfold pl idx
  rw [List.findIdx?_append, h]
  rfl

theorem pl_new {O : List Qu.T} {a : Qu.T} (ha : a ∉ O) : pl (O ++ [a]) a = O.length := by
  have h : O.findIdx? (fun u => decide (a = u)) = none := by
    rw [List.findIdx?_eq_none_iff]
    intro u hu
    exact decide_eq_false fun e => ha (e ▸ hu)
  unfold pl idx
  rw [List.findIdx?_append, h]
  simp [List.findIdx?_cons]

theorem ps_at {q : List Qu.T} (h : Qu.Good q) {i : Nat} (hi : i < q.length) : ps q q[i] = (i : Int) := by
  have := Qu.tag_at h.nd hi
  have e : q.getD i (0, 0) = q[i] := by simp [List.getD, hi]
  rw [e] at this
  unfold ps idx
  rw [this]

theorem ps_inc {q : List Qu.T} (h : Qu.Good q) : q.Pairwise fun a b => ps q a < ps q b := by
  rw [List.pairwise_iff_getElem]
  intro i j hi hj hij
  rw [ps_at h hi, ps_at h hj]
  omega

/-- What is left and what is done, while they are done. -/
structure Bar (q L O : List Qu.T) : Prop where
  sub : L.Sublist q
  all : ∀ a ∈ q, a ∈ L ∨ a ∈ O
  ord : ∀ a ∈ q, ∀ b ∈ q, ps q a < ps q b → Wt a b → b ∈ O → a ∈ O ∧ pl O a ≤ pl O b

theorem bar_start (q : List Qu.T) : Bar q q [] := ⟨List.Sublist.refl _, fun _ h => Or.inl h, fun _ _ _ _ _ _ h => by cases h⟩

theorem cut_erase (L : List Qu.T) (j : Nat) : cut L j = L.eraseIdx j := by unfold cut; rw [List.eraseIdx_eq_take_drop_succ]

theorem Bar.step {q L O : List Qu.T} (h : Bar q L O) (hG : Qu.Good q) {j : Nat} (hj : j < L.length) (hm : Qu.may L j = true) : Bar q (cut L j) (O ++ [L[j]]) := by
  have hinc : L.Pairwise fun a b => ps q a < ps q b := (ps_inc hG).sublist h.sub
  rw [List.pairwise_iff_getElem] at hinc
  refine ⟨?_, fun a ha => ?_, fun a ha b hb hab hw hbO => ?_⟩
  · rw [cut_erase]; exact (List.eraseIdx_sublist L j).trans h.sub
  · rcases h.all a ha with h1 | h1
    · obtain ⟨i, hi, rfl⟩ := List.getElem_of_mem h1
      rcases Nat.lt_trichotomy i j with hij | rfl | hij
      · left
        unfold cut
        refine List.mem_append_left _ ?_
        rw [List.mem_take_iff_getElem]
        exact ⟨i, by omega, rfl⟩
      · right; simp
      · left
        unfold cut
        refine List.mem_append_right _ ?_
        rw [List.mem_drop_iff_getElem]
        exact ⟨i - (j + 1), by omega, by congr 1; omega⟩
    · exact Or.inr (List.mem_append_left _ h1)
  · by_cases hb0 : b ∈ O
    · obtain ⟨h1, h2⟩ := h.ord a ha b hb hab hw hb0
      exact ⟨List.mem_append_left _ h1, by rw [pl_old h1, pl_old hb0]; exact h2⟩
    · have hbe : b = L[j] := by
        rcases List.mem_append.1 hbO with h1 | h1
        · exact absurd h1 hb0
        · exact List.mem_singleton.1 h1
      have haO : a ∈ O := by
        rcases h.all a ha with h1 | h1
        · obtain ⟨i, hi, rfl⟩ := List.getElem_of_mem h1
          subst hbe
          rcases Nat.lt_trichotomy i j with hij | rfl | hij
          · exact absurd hw (may_wait hj hm hij)
          · omega
          · have := hinc j i hj hi hij
            omega
        · exact h1
      refine ⟨List.mem_append_left _ haO, ?_⟩
      rw [pl_old haO]
      subst hbe
      rw [pl_new hb0]
      exact Int.le_of_lt (pl_in haO)

/-- In the end none stands behind what waits for it. -/
theorem Bar.done {q O : List Qu.T} (h : Bar q [] O) (hG : Qu.Good q) {i j : Nat} (hi : i < q.length) (hj : j < q.length) (hij : i < j) (hw : Wt q[i] q[j]) : pl O q[i] ≤ pl O q[j] :=
  (h.ord _ (List.getElem_mem hi) _ (List.getElem_mem hj) (by rw [ps_at hG hi, ps_at hG hj]; omega) hw ((h.all _ (List.getElem_mem hj)).resolve_left (by simp))).2

end Go.Proofs.Ytenkdpogdfcbgaa.Rs
