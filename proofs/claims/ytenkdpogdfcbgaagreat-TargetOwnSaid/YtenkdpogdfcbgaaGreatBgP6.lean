import Derived.Test.YtenkdpogdfcbgaaGreatBgW2
import Derived.Test.YtenkdpogdfcbgaaGreatBgW6
import Derived.Test.YtenkdpogdfcbgaaGreatArgsIt
/- Bags, plain facts, continued: what Put and Drop leave of a right bag. -/
namespace Go.Proofs.YtenkdpogdfcbgaaGreat.Bg
open Go.Proofs.YtenkdpogdfcbgaaGreat

theorem cmp_congr {a a' b b' : It} (h1 : a.sum = a'.sum) (h2 : a.n = a'.n) (h3 : b.sum = b'.sum) (h4 : b.n = b'.n) : cmp a b = cmp a' b' := by
  unfold cmp
  rw [h1, h2, h3, h4]

/-- Right with an item in the midst. -/
theorem good_mid {P Q : List It} {x : It} : Good (P ++ x :: Q) ↔ Good (P ++ Q) ∧ (P ++ Q).length < 64 ∧ oneE Pr x = 0 ∧ (∀ p ∈ P, cmp p x < 0 ∧ p.text ≠ x.text) ∧ ∀ q ∈ Q, cmp x q < 0 ∧ x.text ≠ q.text := by
  constructor
  · rintro ⟨h1, h2, h3, h4⟩
    rw [List.pairwise_append, List.pairwise_cons] at h3 h4
    obtain ⟨a1, ⟨a2, a3⟩, a4⟩ := h3
    obtain ⟨b1, ⟨b2, b3⟩, b4⟩ := h4
    have hl : (P ++ x :: Q).length = (P ++ Q).length + 1 := by rw [List.length_append, List.length_append, List.length_cons]; omega
    refine ⟨⟨by omega, fun y hy => h2 y ?_, ?_, ?_⟩, by omega, h2 x (by simp), fun p hp => ⟨a4 p hp x (by simp), b4 p hp x (by simp)⟩, fun q hq => ⟨a2 q hq, b2 q hq⟩⟩
    · rw [List.mem_append] at hy ⊢
      rcases hy with h | h
      · exact Or.inl h
      · exact Or.inr (List.mem_cons_of_mem _ h)
    · exact List.pairwise_append.2 ⟨a1, a3, fun p hp q hq => a4 p hp q (List.mem_cons_of_mem _ hq)⟩
    · exact List.pairwise_append.2 ⟨b1, b3, fun p hp q hq => b4 p hp q (List.mem_cons_of_mem _ hq)⟩
  · rintro ⟨⟨h1, h2, h3, h4⟩, hl, ho, hP, hQ⟩
    rw [List.pairwise_append] at h3 h4
    obtain ⟨a1, a2, a3⟩ := h3
    obtain ⟨b1, b2, b3⟩ := h4
    have hl' : (P ++ x :: Q).length = (P ++ Q).length + 1 := by rw [List.length_append, List.length_append, List.length_cons]; omega
    refine ⟨by omega, fun y hy => ?_, ?_, ?_⟩
    · rw [List.mem_append, List.mem_cons] at hy
      rcases hy with h | rfl | h
      · exact h2 y (by simp [h])
      · exact ho
      · exact h2 y (by simp [h])
    · refine List.pairwise_append.2 ⟨a1, List.pairwise_cons.2 ⟨fun q hq => (hQ q hq).1, a2⟩, fun p hp q hq => ?_⟩
      rcases List.mem_cons.1 hq with rfl | hq
      · exact (hP p hp).1
      · exact a3 p hp q hq
    · refine List.pairwise_append.2 ⟨b1, List.pairwise_cons.2 ⟨fun q hq => (hQ q hq).2, b2⟩, fun p hp q hq => ?_⟩
      rcases List.mem_cons.1 hq with rfl | hq
      · exact (hP p hp).2
      · exact b3 p hp q hq

/-- An item's number of uses may be another. -/
theorem good_refs {P Q : List It} {x : It} {r : Int} (h : Good (P ++ x :: Q)) (h1 : 1 ≤ r) (h2 : r ≤ 1000000) : Good (P ++ ⟨x.sum, x.n, x.text, r⟩ :: Q) := by
  rw [good_mid] at h ⊢
  obtain ⟨a, b, c, d, e⟩ := h
  have hc := one_fit c
  refine ⟨a, b, ?_, fun p hp => ⟨?_, (d p hp).2⟩, fun q hq => ⟨?_, (e q hq).2⟩⟩
  · unfold oneE
    rw [if_neg (by show ¬ 64 < x.text.size; omega), if_neg (by show ¬ x.sum ≠ Pr x.text; intro h; exact h hc.2.2.1), if_neg (by show ¬ (x.n < 0 ∨ 64 ≤ x.n ∨ r < 1 ∨ 1000000 < r); omega)]
  · exact (d p hp).1
  · exact (e q hq).1

theorem split_at {l : List It} {i : Nat} (hi : i < l.length) : l = l.take i ++ l[i] :: l.drop (i + 1) := by
  rw [← List.drop_eq_getElem_cons hi, List.take_append_drop]

theorem set_mid {P Q : List It} {x y : It} {i : Nat} (h : P.length = i) : (P ++ x :: Q).set i y = P ++ y :: Q := by
  subst h
  rw [List.set_append_right _ _ (Nat.le_refl _), Nat.sub_self]
  rfl

theorem find_mid {P Q : List It} {x : It} {id : Id} (h : Good (P ++ x :: Q)) (hx : hit id x = true) : (P ++ x :: Q).findIdx? (hit id) = some P.length := by
  rw [List.findIdx?_eq_some_iff_getElem]
  refine ⟨by simp, by simpa using hx, fun j hj => ?_⟩
  rw [List.getElem_append_left hj]
  have h1 := (good_mid.1 h).2.2.2.1 P[j] (List.getElem_mem hj)
  rw [cmp_lt] at h1
  intro hh
  rw [hitB] at hh hx
  omega

theorem find_text {P Q : List It} {x : It} (h : Good (P ++ x :: Q)) : (P ++ x :: Q).findIdx? (same x.text) = some P.length := by
  rw [List.findIdx?_eq_some_iff_getElem]
  refine ⟨by simp, by simpa using same_iff.2 rfl, fun j hj => ?_⟩
  rw [List.getElem_append_left hj]
  have h1 := (good_mid.1 h).2.2.2.1 P[j] (List.getElem_mem hj)
  intro hh
  exact h1.2 (same_iff.1 hh)

/-- What Drop does to a right bag. -/
theorem drop_mid {P Q : List It} {x : It} {id : Id} (h : Good (P ++ x :: Q)) (hx : hit id x = true) : dropR Pr (P ++ x :: Q) id = (if x.refs = 1 then P ++ Q else P ++ ⟨x.sum, x.n, x.text, x.refs - 1⟩ :: Q, 0) := by
  unfold dropR
  rw [if_neg (fun h' => h' (good_check h)), find_mid h hx]
  show (less (P ++ x :: Q) P.length, 0) = _
  unfold less
  rw [List.getElem?_append_right (Nat.le_refl _), Nat.sub_self]
  show (if x.refs = 1 then _ else _, 0) = _
  split
  · rw [List.take_append_of_le_length (Nat.le_refl _), List.take_length, List.drop_append, List.drop_of_length_le (by omega)]
    simp
  · rw [set_mid rfl]

theorem usedV_of {l : List It} (h : Good l) {x : It} (hx : x ∈ l) {u : ByteArray} (hu : x.text = u) : usedV l u = x.refs := by
  obtain ⟨i, hi, rfl⟩ := List.getElem_of_mem hx
  refine usedV_hit hi (same_iff.2 hu) fun j hj => ?_
  cases hb : same u (l[j]'(by omega)) with
  | false => rfl
  | true =>
    have := h.injT (by omega) hi ((same_iff.1 hb).trans hu.symm)
    omega

theorem usedV_no {l : List It} {u : ByteArray} (h : ∀ x ∈ l, x.text ≠ u) : usedV l u = 0 :=
  usedV_miss fun _ hj => same_no.2 (h _ (List.getElem_mem hj))

theorem refsV_mid {P Q : List It} {x : It} : refsV (P ++ x :: Q) = refsV (P ++ Q) + x.refs := by
  unfold refsV
  simp [List.sum_append]
  omega

/-- What Put leaves. -/
structure PutOk (l : List It) (t : ByteArray) (R : PutA) : Prop where
  was : Good l
  size : t.size ≤ 64
  good : Good R.l
  is : R.id.is = true
  has : Has R.l R.id t
  more : ∀ id s, Has l id s → Has R.l id s
  less : ∀ id s, Has R.l id s → Has l id s ∨ (id = R.id ∧ s = t)
  refs : refsV R.l = refsV l + 1
  used : ∀ u, usedV R.l u = usedV l u + if u = t then 1 else 0
  len : R.l.length = l.length + if usedV l t = 0 then 1 else 0
  back : dropR Pr R.l R.id = (l, 0)

theorem has_mid {P Q : List It} {x : It} {id : Id} {s : ByteArray} : Has (P ++ x :: Q) id s ↔ Has (P ++ Q) id s ∨ (hit id x = true ∧ x.text = s) := by
  unfold Has
  constructor
  · rintro ⟨y, hy, h⟩
    rw [List.mem_append, List.mem_cons] at hy
    rcases hy with hy | rfl | hy
    · exact Or.inl ⟨y, by simp [hy], h⟩
    · exact Or.inr h
    · exact Or.inl ⟨y, by simp [hy], h⟩
  · rintro (⟨y, hy, h⟩ | h)
    · rw [List.mem_append] at hy
      rcases hy with hy | hy
      · exact ⟨y, by simp [hy], h⟩
      · exact ⟨y, by simp [hy], h⟩
    · exact ⟨x, by simp, h⟩

theorem used_mid {P Q : List It} {x : It} (h : Good (P ++ x :: Q)) (u : ByteArray) : usedV (P ++ x :: Q) u = if u = x.text then x.refs else usedV (P ++ Q) u := by
  split
  · rename_i e
    exact usedV_of h (by simp) e.symm
  · rename_i e
    by_cases hu : ∃ y ∈ P ++ Q, y.text = u
    · obtain ⟨y, hy, h2⟩ := hu
      rw [usedV_of (good_mid.1 h).1 hy h2]
      refine usedV_of h ?_ h2
      rw [List.mem_append] at hy
      rcases hy with hy | hy <;> simp [hy]
    · rw [usedV_no (l := P ++ Q) fun y hy h2 => hu ⟨y, hy, h2⟩]
      refine usedV_no fun y hy h2 => ?_
      rw [List.mem_append, List.mem_cons] at hy
      rcases hy with hy | rfl | hy
      · exact hu ⟨y, by simp [hy], h2⟩
      · exact e h2.symm
      · exact hu ⟨y, by simp [hy], h2⟩

theorem put_again {P Q : List It} {x : It} (h : Good (P ++ x :: Q)) (hr : x.refs ≠ 1000000) : PutOk (P ++ x :: Q) x.text ⟨P ++ ⟨x.sum, x.n, x.text, x.refs + 1⟩ :: Q, ⟨true, x.sum, x.n⟩, 0⟩ := by
  have hm := good_mid.1 h
  have hx := one_fit hm.2.2.1
  have hg : Good (P ++ ⟨x.sum, x.n, x.text, x.refs + 1⟩ :: Q) := good_refs h (by omega) (by omega)
  refine ⟨h, by omega, hg, rfl, ?_, fun id s hs => ?_, fun id s hs => ?_, ?_, fun u => ?_, ?_, ?_⟩
  · rw [has_mid]
    exact Or.inr ⟨hitB.2 ⟨rfl, rfl, rfl⟩, rfl⟩
  · rw [has_mid] at hs ⊢
    rcases hs with hs | hs
    · exact Or.inl hs
    · exact Or.inr ⟨hitB.2 (hitB.1 hs.1), hs.2⟩
  · rw [has_mid] at hs ⊢
    rcases hs with hs | hs
    · exact Or.inl (Or.inl hs)
    · exact Or.inl (Or.inr ⟨hitB.2 (hitB.1 hs.1), hs.2⟩)
  · show refsV (P ++ _ :: Q) = _
    rw [refsV_mid, refsV_mid]
    show refsV (P ++ Q) + (x.refs + 1) = _
    omega
  · show usedV (P ++ _ :: Q) u = _
    rw [used_mid hg, used_mid h]
    show (if u = x.text then x.refs + 1 else _) = _
    split <;> omega
  · rw [used_mid h, if_pos rfl, if_neg (by omega)]
    simp
  · show dropR Pr (P ++ _ :: Q) _ = _
    rw [drop_mid hg (hitB.2 ⟨rfl, rfl, rfl⟩)]
    show (if x.refs + 1 = 1 then P ++ Q else P ++ ⟨x.sum, x.n, x.text, x.refs + 1 - 1⟩ :: Q, 0) = _
    rw [if_neg (by omega), show x.refs + 1 - 1 = x.refs by omega]

theorem put_first {P Q : List It} {t : ByteArray} {k : Int} (hg : Good (P ++ ⟨Pr t, k, t, 1⟩ :: Q)) : PutOk (P ++ Q) t ⟨P ++ ⟨Pr t, k, t, 1⟩ :: Q, ⟨true, Pr t, k⟩, 0⟩ := by
  have hm := good_mid.1 hg
  have hx := one_fit hm.2.2.1
  have hn : usedV (P ++ Q) t = 0 := usedV_no fun y hy => by
    rw [List.mem_append] at hy
    rcases hy with hy | hy
    · exact (hm.2.2.2.1 y hy).2
    · exact Ne.symm (hm.2.2.2.2 y hy).2
  refine ⟨hm.1, hx.2.1, hg, rfl, ?_, fun id s hs => ?_, fun id s hs => ?_, ?_, fun u => ?_, ?_, ?_⟩
  · rw [has_mid]
    exact Or.inr ⟨hitB.2 ⟨rfl, rfl, rfl⟩, rfl⟩
  · rw [has_mid]
    exact Or.inl hs
  · rw [has_mid] at hs
    rcases hs with hs | hs
    · exact Or.inl hs
    · refine Or.inr ⟨?_, hs.2.symm⟩
      have := hitB.1 hs.1
      obtain ⟨i0, i1, i2⟩ := id
      dsimp only at this
      obtain ⟨rfl, rfl, rfl⟩ := this
      rfl
  · show refsV (P ++ _ :: Q) = _
    rw [refsV_mid]
  · show usedV (P ++ _ :: Q) u = _
    rw [used_mid hg]
    show (if u = t then 1 else _) = _
    split
    · rename_i e; subst e; rw [hn]; rfl
    · omega
  · rw [hn, if_pos rfl]
    simp
    omega
  · show dropR Pr (P ++ _ :: Q) _ = _
    rw [drop_mid hg (hitB.2 ⟨rfl, rfl, rfl⟩)]
    show (if (1 : Int) = 1 then P ++ Q else _, 0) = _
    rw [if_pos rfl]

theorem ins_good {l : List It} {t : ByteArray} (h : Good l) (ht : t.size ≤ 64) (hn : ∀ x ∈ l, x.text ≠ t) (hl : l.length ≠ 64) : ∃ P Q, l = P ++ Q ∧ ins l ⟨Pr t, free l (Pr t), t, 1⟩ = P ++ ⟨Pr t, free l (Pr t), t, 1⟩ :: Q ∧ Good (P ++ ⟨Pr t, free l (Pr t), t, 1⟩ :: Q) := by
  obtain ⟨k, hk, h1, h2⟩ := free_ex h.srt (Pr t)
  rw [free_at hk h1 h2]
  obtain ⟨x, hx⟩ : ∃ x : It, x = ⟨Pr t, (k : Int), t, 1⟩ := ⟨_, rfl⟩
  rw [← hx]
  obtain ⟨m, hm⟩ : ∃ m, m = l.countP fun y => decide (cmp y x < 0) := ⟨_, rfl⟩
  have hml : m ≤ l.length := by rw [hm]; exact List.countP_le_length
  refine ⟨l.take m, l.drop m, (List.take_append_drop _ _).symm, by rw [ins, ← hm], ?_⟩
  have hne : ∀ y ∈ l, cmp y x ≠ 0 := fun y hy e => by
    rw [cmp_zero] at e
    rw [List.any_eq_false] at h2
    refine h2 y hy (hitB.2 ⟨rfl, ?_, ?_⟩)
    · rw [e.1, hx]
    · rw [e.2, hx]
  have hflip : ∀ y, cmp x y < 0 ↔ ¬ cmp y x < 0 ∧ cmp y x ≠ 0 := fun y => by
    rw [cmp_lt, cmp_lt, ne_eq, cmp_zero]; omega
  -- a sorted list is parted at the count
  have part : ∀ (l : List It), (l.Pairwise fun x y => cmp x y < 0) → (∀ y ∈ l.take (l.countP fun y => decide (cmp y x < 0)), cmp y x < 0) ∧ ∀ y ∈ l.drop (l.countP fun y => decide (cmp y x < 0)), ¬ cmp y x < 0 := fun l => by
    induction l with
    | nil => intro _; simp
    | cons z l ih =>
      intro hp
      rw [List.pairwise_cons] at hp
      obtain ⟨i1, i2⟩ := ih hp.2
      by_cases hz : cmp z x < 0
      · rw [List.countP_cons_of_pos (by simpa using hz), List.take_succ_cons, List.drop_succ_cons]
        refine ⟨fun y hy => ?_, i2⟩
        rcases List.mem_cons.1 hy with rfl | hy
        · exact hz
        · exact i1 y hy
      · have h0 : l.countP (fun y => decide (cmp y x < 0)) = 0 := by
          rw [List.countP_eq_zero]
          intro y hy
          have h1 := hp.1 y hy
          rw [decide_eq_true_iff]
          intro h3
          exact hz (cmp_trans h1 h3)
        rw [List.countP_cons_of_neg (by simpa using hz), h0]
        refine ⟨fun y hy => by simp at hy, fun y hy => ?_⟩
        rcases List.mem_cons.1 hy with rfl | hy
        · exact hz
        · rw [h0] at i2
          exact i2 y hy
  obtain ⟨p1, p2⟩ := part l h.srt
  rw [← hm] at p1 p2
  have hp := Pr_lt t
  have hlen : ¬ 64 ≤ (k : Int) := by have := h.len; omega
  rw [good_mid, List.take_append_drop]
  refine ⟨h, by have := h.len; omega, ?_, fun p hp => ⟨p1 p hp, ?_⟩, fun q hq => ⟨(hflip q).2 ⟨p2 q hq, hne q (List.mem_of_mem_drop hq)⟩, ?_⟩⟩
  · rw [hx]
    unfold oneE
    rw [if_neg (by show ¬ 64 < t.size; omega), if_neg (by show ¬ Pr t ≠ Pr t; exact fun h => h rfl), if_neg (by show ¬ ((k : Int) < 0 ∨ 64 ≤ (k : Int) ∨ (1 : Int) < 1 ∨ 1000000 < (1 : Int)); omega)]
  · rw [hx]; exact hn p (List.mem_of_mem_take hp)
  · rw [hx]; exact Ne.symm (hn q (List.mem_of_mem_drop hq))

/-- What Put answers, whatever it was asked. -/
theorem put_ok {l : List It} {t : ByteArray} (h : (putR Pr l t).e = 0) : PutOk l t (putR Pr l t) := by
  have h0 : checkE Pr l = 0 := by
    by_cases h0 : checkE Pr l = 0
    · exact h0
    · unfold putR at h; rw [if_pos h0] at h; exact absurd h h0
  have hg := check_good h0
  unfold putR at h ⊢
  rw [if_neg (fun h' => h' h0)] at h ⊢
  by_cases ht : 64 < t.size
  · rw [if_pos ht] at h; cases h
  · rw [if_neg ht] at h ⊢
    cases hf : l.findIdx? (same t) with
    | some i =>
      obtain ⟨hi, h1, -⟩ := List.findIdx?_eq_some_iff_getElem.1 hf
      rw [hf] at h
      simp only [List.getElem?_eq_getElem hi] at h ⊢
      by_cases hr : l[i].refs = 1000000
      · rw [if_pos hr] at h; cases h
      · rw [if_neg hr]
        have hs := split_at hi
        have e1 : l[i].text = t := same_iff.1 h1
        have := put_again (hs ▸ hg : Good (l.take i ++ l[i] :: l.drop (i + 1))) hr
        rw [e1] at this
        have hset : l.set i ⟨l[i].sum, l[i].n, t, l[i].refs + 1⟩ = l.take i ++ ⟨l[i].sum, l[i].n, t, l[i].refs + 1⟩ :: l.drop (i + 1) := by
          rw [List.set_eq_take_append_cons_drop, if_pos hi]
        rw [e1, hset]
        rw [← hs] at this
        exact this
    | none =>
      rw [hf] at h
      simp only at h ⊢
      by_cases hl : l.length = 64
      · rw [if_pos hl] at h; cases h
      · rw [if_neg hl]
        rw [List.findIdx?_eq_none_iff] at hf
        obtain ⟨P, Q, h1, h2, h3⟩ := ins_good hg (by omega) (fun x hx => same_no.1 (hf x hx)) hl
        rw [h2]
        have := put_first h3
        rw [← h1] at this
        exact this

/-- Where Put fails. -/
theorem put_err {l : List It} {t : ByteArray} (h : (putR Pr l t).e ≠ 0) : (putR Pr l t).l = [] ∧ (putR Pr l t).id = noId ∧ (checkE Pr l = 0 → (putR Pr l t).e = 8 ∨ (putR Pr l t).e = 2) := by
  unfold putR at h ⊢
  by_cases h0 : checkE Pr l ≠ 0
  · rw [if_pos h0]
    exact ⟨rfl, rfl, fun h1 => absurd h1 h0⟩
  · rw [if_neg h0] at h ⊢
    by_cases ht : 64 < t.size
    · rw [if_pos ht]
      exact ⟨rfl, rfl, fun _ => Or.inr rfl⟩
    · rw [if_neg ht] at h ⊢
      cases hf : l.findIdx? (same t) with
      | some i =>
        obtain ⟨hi, h1, -⟩ := List.findIdx?_eq_some_iff_getElem.1 hf
        rw [hf] at h
        simp only [List.getElem?_eq_getElem hi] at h ⊢
        by_cases hr : l[i].refs = 1000000
        · rw [if_pos hr]; exact ⟨rfl, rfl, fun _ => Or.inl rfl⟩
        · rw [if_neg hr] at h; exact absurd rfl h
      | none =>
        rw [hf] at h
        simp only at h ⊢
        by_cases hl : l.length = 64
        · rw [if_pos hl]; exact ⟨rfl, rfl, fun _ => Or.inl rfl⟩
        · rw [if_neg hl] at h; exact absurd rfl h

end Go.Proofs.YtenkdpogdfcbgaaGreat.Bg

/- Bags: what is handed on to the laws. -/
namespace Go.Proofs.YtenkdpogdfcbgaaGreat
open Go.RowKit

theorem good_small {l : List Bg.It} (h : Bg.Good l) : ∀ t ∈ l, t.text.size ≤ maxLen := fun t ht => by
  have := (Bg.one_fit (h.one t ht)).2.1
  unfold maxLen
  omega

theorem put_small (l : List Bg.It) (t : ByteArray) : ∀ x ∈ (Bg.putR Bg.Pr l t).l, x.text.size ≤ maxLen := by
  by_cases h : (Bg.putR Bg.Pr l t).e = 0
  · exact good_small (Bg.put_ok h).good
  · rw [(Bg.put_err h).1]
    intro x hx
    simp at hx

theorem put_len (l : List Bg.It) (t : ByteArray) : (Bg.putR Bg.Pr l t).l.length ≤ 64 := by
  by_cases h : (Bg.putR Bg.Pr l t).e = 0
  · exact (Bg.put_ok h).good.len
  · rw [(Bg.put_err h).1]
    simp

theorem two_good : Bg.Good Bg.twoL := Bg.check_good two_check

theorem int_z {E : Nat} (h : E = 0) : ((E : Int) != 0) = false := by subst h; rfl

theorem int_ne {E : Nat} (h : E ≠ 0) : ((E : Int) != 0) = true := bne_iff_ne.2 (by omega)

end Go.Proofs.YtenkdpogdfcbgaaGreat
