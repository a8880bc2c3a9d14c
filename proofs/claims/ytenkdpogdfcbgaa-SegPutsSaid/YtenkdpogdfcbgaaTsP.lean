import Derived.Test.YtenkdpogdfcbgaaSgN
/- Segments and a bag, plain: what is cleaned keeps all that is live. -/
namespace Go.Proofs.Ytenkdpogdfcbgaa.Sg
open Go.Proofs.Ytenkdpogdfcbgaa

theorem snoc_take {α : Type} {l : List α} (h : l ≠ []) : ∃ A x, l = A ++ [x] := ⟨l.dropLast, l.getLast h, (List.dropLast_concat_getLast h).symm⟩

theorem putL_last {A : List (List R)} {s : List R} {r : R} : putL (A ++ [s]) r = if full s + sz r ≤ 200 then some (A ++ [s ++ [r]]) else if A.length + 1 = 16 then none else some (A ++ [s] ++ [[r]]) := by
  have h1 : (A ++ [s]).length - 1 = A.length := by simp
  have h2 : (A ++ [s]).getD A.length [] = s := by simp [List.getD]
  have h3 : (A ++ [s]).take A.length = A := by simp
  unfold putL
  rw [h1, h2, h3]
  by_cases h : full s + sz r ≤ 200
  · rw [if_pos ⟨by simp, h⟩, if_pos h]
  · rw [if_neg (fun h' => h h'.2), if_neg h]
    simp
theorem putL_nil {r : R} : putL [] r = some [[r]] := rfl

/-- All of them go to the last segment. -/
theorem fold_last : ∀ (rs : List R) (A : List (List R)) (s : List R), full s + full rs ≤ 200 → rs.foldl putS (A ++ [s]) = A ++ [s ++ rs]
  | [], A, s, _ => by simp
  | r :: rs, A, s, h => by
    rw [full_cons] at h
    rw [List.foldl_cons]
    have : putS (A ++ [s]) r = A ++ [s ++ [r]] := by
      unfold putS
      rw [putL_last, if_pos (by omega)]
      rfl
    rw [this, fold_last rs A (s ++ [r]) (by rw [full_app, full_cons, full_nil]; omega)]
    simp
theorem fold_flat : ∀ (rs : List R) (out : List (List R)), out.length ≤ 15 → full rs ≤ 200 → (rs.foldl putS out).flatten = out.flatten ++ rs ∧ (rs.foldl putS out).length ≤ out.length + 1
  | [], out, _, _ => by simp
  | r :: rs, out, h1, h2 => by
    rw [full_cons] at h2
    rw [List.foldl_cons]
    by_cases h0 : out = []
    · subst h0
      have : putS [] r = [] ++ [[r]] := rfl
      rw [this, fold_last rs [] [r] (by rw [full_cons, full_nil]; omega)]
      simp
    · obtain ⟨A, s, rfl⟩ := snoc_take h0
      rw [List.length_append] at h1
      simp at h1
      by_cases hr : full s + sz r ≤ 200
      · have hp : putS (A ++ [s]) r = A ++ [s ++ [r]] := by
          unfold putS
          rw [putL_last, if_pos hr]
          rfl
        rw [hp]
        obtain ⟨h3, h4⟩ := fold_flat rs (A ++ [s ++ [r]]) (by simp; omega) (by omega)
        refine ⟨?_, by simpa using h4⟩
        rw [h3]
        simp
      · have hp : putS (A ++ [s]) r = A ++ [s] ++ [[r]] := by
          unfold putS
          rw [putL_last, if_neg hr, if_neg (by omega)]
          rfl
        rw [hp, fold_last rs (A ++ [s]) [r] (by rw [full_cons, full_nil]; omega)]
        simp

theorem cut_flat {l : List (List R)} {q : Nat} (hq : q < l.length) : l.flatten = (l.take q).flatten ++ (l[q] ++ (l.drop (q + 1)).flatten) := by
  have h : l = l.take q ++ l[q] :: l.drop (q + 1) := by rw [← List.drop_eq_getElem_cons hq, List.take_append_drop]
  have h2 := congrArg List.flatten h
  rw [List.flatten_append, List.flatten_cons] at h2
  exact h2
theorem clean_flat {b : List Bg.It} {l : List (List R)} (h : Good l) {q : Nat} (hq : q < l.length) :
    (cleanL b l q).flatten = ((l.take q).flatten ++ (l.drop (q + 1)).flatten) ++ liveR b l[q] (l.drop (q + 1)).flatten ∧ (cleanL b l q).length ≤ l.length := by
  have hs : l.getD q [] = l[q] := by simp [List.getD, hq]
  unfold cleanL
  rw [hs]
  have hl : (l.take q ++ l.drop (q + 1)).length + 1 = l.length := by rw [List.length_append, List.length_take, List.length_drop]; omega
  obtain ⟨h1, h2⟩ := fold_flat (liveR b l[q] (l.drop (q + 1)).flatten) (l.take q ++ l.drop (q + 1)) (by have := h.len; omega) (Nat.le_trans (live_le _ _ _) (h.seg _ (List.getElem_mem hq)).room)
  rw [h1]
  exact ⟨by simp, by omega⟩
/-- What is cleaned keeps what is used. -/
theorem clean_mem {b : List Bg.It} {l : List (List R)} (h : Good l) {q : Nat} (hq : q < l.length) {r : R} (ho : okB b r = true) : r ∈ l.flatten ↔ r ∈ (cleanL b l q).flatten := by
  rw [(clean_flat h hq).1, cut_flat hq]
  simp only [List.mem_append]
  constructor
  · rintro (h1 | h1 | h1)
    · exact Or.inl (Or.inl h1)
    · rcases live_or (tl := (l.drop (q + 1)).flatten) h1 ho with h2 | h2
      · exact Or.inr h2
      · exact Or.inl (Or.inr h2)
    · exact Or.inl (Or.inr h1)
  · rintro ((h1 | h1) | h1)
    · exact Or.inl h1
    · exact Or.inr (Or.inr h1)
    · exact Or.inr (Or.inl (live_mem h1).1)
theorem clean_full {b : List Bg.It} {l : List (List R)} (h : Good l) {q : Nat} (hq : q < l.length) : full (cleanL b l q).flatten ≤ full l.flatten := by
  rw [(clean_flat h hq).1, cut_flat hq]
  simp only [full_app]
  have := live_le b l[q] (l.drop (q + 1)).flatten
  omega
theorem best_lt {b : List Bg.It} {l : List (List R)} (h : l.length ≠ 0) : best (usedL b l) < l.length := by
  have hu : usedL b l ≠ [] := fun e => h (by rw [← used_length b l, e]; rfl)
  have hq := (best_is hu).1
  rwa [used_length] at hq
theorem clean_is {b : List Bg.It} {l : List (List R)} (hb : Bg.Good b) : cleanR b l = if l.length = 0 then ⟨[], 4⟩ else ⟨cleanL b l (best (usedL b l)), 0⟩ := by
  unfold cleanR
  rw [Bg.good_check hb, if_neg (by simp)]

theorem has_ok {b : List Bg.It} (hb : Bg.Good b) {id : Bg.Id} {t : ByteArray} (h : Bg.Has b id t) : okB b ⟨id, t⟩ = true := by
  obtain ⟨x, hx, h1, h2⟩ := h
  unfold okB
  cases hf : b.find? (Bg.hit id) with
  | none =>
    rw [List.find?_eq_none] at hf
    exact absurd h1 (by simpa using hf x hx)
  | some y =>
    have hy := List.find?_some hf
    have hym := List.mem_of_find?_eq_some hf
    have hxy : x = y := Vo.idOf_inj hb hx hym ((Vo.hit_idOf.1 h1).symm.trans (Vo.hit_idOf.1 hy))
    subst hxy
    show Bg.same t x = true
    unfold Bg.same
    rw [beq_iff_eq, Bg.bs_same]
    exact h2

/-- A bag, segments, ids of all that was put and not dropped. -/
structure Ts (b : List Bg.It) (l : List (List R)) (ids : List Bg.Id) : Prop where
  ex : Vo.Exact b ids
  real : ∀ id ∈ ids, id ≠ Bg.noId
  good : Good l
  st : ∀ id t, Bg.Has b id t → (⟨id, t⟩ : R) ∈ l.flatten

theorem ts_new : Ts [] [] [] := by
  refine ⟨⟨Bg.good_nil, ?_, ?_⟩, ?_, good_nil, ?_⟩
  · intro x hx
    cases hx
  · intro id hi
    cases hi
  · intro id hi
    cases hi
  · rintro id t ⟨x, hx, -⟩
    cases hx

theorem ts_put {b : List Bg.It} {l : List (List R)} {ids : List Bg.Id} (h : Ts b l ids) {t : ByteArray} (he : (Bg.putR Bg.Pr b t).e = 0) (hg : (putR l ⟨(Bg.putR Bg.Pr b t).id, t⟩).e = 0) (hl : ids.length < 1000000) :
    Ts (Bg.putR Bg.Pr b t).l (putR l ⟨(Bg.putR Bg.Pr b t).id, t⟩).l (ids ++ [(Bg.putR Bg.Pr b t).id]) := by
  obtain ⟨h1, h2⟩ := Vo.exact_put h.ex hl he
  have hp := Bg.put_ok he
  have hfl : (putR l ⟨(Bg.putR Bg.Pr b t).id, t⟩).l.flatten = l.flatten ++ [⟨(Bg.putR Bg.Pr b t).id, t⟩] := by
    unfold putR at hg ⊢
    by_cases c1 : chkE l ≠ 0
    · rw [if_pos c1] at hg; exact absurd hg c1
    · rw [if_neg c1] at hg ⊢
      by_cases c2 : chkE [[(⟨(Bg.putR Bg.Pr b t).id, t⟩ : R)]] ≠ 0
      · rw [if_pos c2] at hg; exact absurd hg c2
      · rw [if_neg c2] at hg ⊢
        cases hq : putL l ⟨(Bg.putR Bg.Pr b t).id, t⟩ with
        | none => rw [hq] at hg; cases hg
        | some m => exact putL_flat hq
  refine ⟨h1.congr fun id => ?_, fun id hi => ?_, put_good h.good, fun id s hs => ?_⟩
  · rw [Vo.cnt_app, Vo.cnt_cons, Vo.cnt_cons]
    show _ = _ + (0 + _)
    omega
  · rcases List.mem_append.1 hi with hi | hi
    · exact h.real id hi
    · rw [List.mem_singleton.1 hi]; exact h2
  · rw [hfl]
    rcases hp.less id s hs with h3 | ⟨rfl, rfl⟩
    · exact List.mem_append_left _ (h.st id s h3)
    · exact List.mem_append_right _ (List.mem_singleton.2 rfl)

theorem ts_drop {b : List Bg.It} {l : List (List R)} {ids : List Bg.Id} (h : Ts b l ids) {k : Nat} {id : Bg.Id} (hk : ids[k]? = some id) :
    (Bg.dropR Bg.Pr b id).2 = 0 ∧ Ts (Bg.dropR Bg.Pr b id).1 l (ids.take k ++ ids.drop (k + 1)) := by
  obtain ⟨hkl, rfl⟩ := List.getElem?_eq_some_iff.1 hk
  have hm := List.getElem_mem hkl
  obtain ⟨x, hx, he⟩ := (h.ex.ids _ hm).resolve_left (h.real _ hm)
  have hcut : ids = ids.take k ++ ids[k] :: ids.drop (k + 1) := by rw [← List.drop_eq_getElem_cons hkl, List.take_append_drop]
  have hex : Vo.Exact b (ids[k] :: (ids.take k ++ ids.drop (k + 1))) := h.ex.congr fun z => by
    have h2 : Vo.cnt ids z = Vo.cnt (ids.take k ++ ids[k] :: ids.drop (k + 1)) z := congrArg (fun l => Vo.cnt l z) hcut
    rw [h2, Vo.cnt_app, Vo.cnt_cons, Vo.cnt_cons, Vo.cnt_app]
    omega
  obtain ⟨h1, h2⟩ := Vo.exact_unuse hex
  have his : ids[k].is = true := by rw [he]; rfl
  have hu : Vo.unuse b ids[k] = (Bg.dropR Bg.Pr b ids[k]).1 := by unfold Vo.unuse; rw [if_pos his]
  rw [hu] at h1 h2
  refine ⟨?_, h1, fun id hi => h.real id ?_, h.good, fun id t ht => h.st id t ((h2 id t).1 ht).1⟩
  · unfold Bg.dropR
    rw [Bg.good_check h.ex.good, if_neg (by simp)]
    cases hf : b.findIdx? (Bg.hit ids[k]) with
    | none =>
      have := List.findIdx?_eq_none_iff.1 hf x hx
      rw [Vo.hit_idOf.2 he] at this
      cases this
    | some i => rfl
  · rcases List.mem_append.1 hi with hi | hi
    · exact List.mem_of_mem_take hi
    · exact List.mem_of_mem_drop hi

theorem ts_clean {b : List Bg.It} {l : List (List R)} {ids : List Bg.Id} (h : Ts b l ids) {q : Nat} (hq : q < l.length) (hG : Good (cleanL b l q)) : Ts b (cleanL b l q) ids :=
  ⟨h.ex, h.real, hG, fun id t ht => (clean_mem h.good hq (has_ok h.ex.good ht)).1 (h.st id t ht)⟩

end Go.Proofs.Ytenkdpogdfcbgaa.Sg
