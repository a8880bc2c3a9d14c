/- Writing apart, and how many unlike texts there are, plain. No program in sight. -/
import Derived.Test.YteddendidjhmbaaVolTwP
namespace Go.Proofs.Yteddendidjhmbaa.Vo
open Go.Proofs.Yteddendidjhmbaa Go.Proofs.Yteddendidjhmbaa.Bg

/-- Is a place used? -/
def flagAt (vs : List Vl) (i j : Nat) : Option Bool := (vs[i]?).bind fun v => (v.ids[j]?).map Bg.Id.is

theorem flag_setV (vs : List Vl) (i k : Nat) (z : Bg.Id) (i' j' : Nat) : flagAt (setV vs i k z) i' j' = if i' = i ∧ j' = k then (flagAt vs i k).map fun _ => z.is else flagAt vs i' j' := by
  by_cases hi : i < vs.length
  · by_cases hii : i' = i
    · subst hii
      unfold flagAt
      rw [setV_at hi, List.getElem?_eq_getElem hi]
      dsimp only [Option.bind_some]
      by_cases hk : j' = k
      · subst hk
        rw [if_pos ⟨rfl, rfl⟩]
        by_cases hj : j' < vs[i'].ids.length
        · rw [List.getElem?_set_self hj, List.getElem?_eq_getElem hj]
          rfl
        · rw [List.getElem?_eq_none_iff.2 (by rw [List.length_set]; omega), List.getElem?_eq_none_iff.2 (by omega)]
          rfl
      · rw [if_neg (fun e => hk e.2), List.getElem?_set_ne (fun e => hk e.symm)]
    · rw [if_neg (fun e => hii e.1)]
      unfold flagAt
      rw [setV_ne (fun e => hii e.symm)]
  · have h0 : vs[i]? = none := List.getElem?_eq_none_iff.2 (by omega)
    have e : setV vs i k z = vs := by
      unfold setV
      rw [h0]
    rw [e]
    split
    · rename_i h
      obtain ⟨rfl, rfl⟩ := h
      unfold flagAt
      rw [h0]
      rfl
    · rfl

/-- A text stands at a used place. -/
def Stands (s : St) (t : ByteArray) : Prop := ∃ (i j : Nat) (nm : ByteArray), (s.vols.map Vl.name)[i]? = some nm ∧ flagAt s.vols i j = some true ∧ readR s nm (j : Int) = (t, 0)

theorem mem_texts {s : St} (h : Right s) (t : ByteArray) : t ∈ s.bag.map It.text ↔ Stands s t := by
  have he := (right_iff.1 h).1
  constructor
  · intro hm
    obtain ⟨x, hx, rfl⟩ := List.mem_map.1 hm
    obtain ⟨v, hv, hi⟩ := mem_allIds.1 (mem_cnt.1 (he.used hx))
    obtain ⟨i, hi', rfl⟩ := List.getElem_of_mem hv
    obtain ⟨j, hj, hz⟩ := List.getElem_of_mem hi
    refine ⟨i, j, s.vols[i].name, ?_, ?_, ?_⟩
    · rw [List.getElem?_map, List.getElem?_eq_getElem hi']
      rfl
    · unfold flagAt
      rw [List.getElem?_eq_getElem hi']
      dsimp only [Option.bind_some]
      rw [List.getElem?_eq_getElem hj, hz]
      rfl
    · rw [read_at h hi' hj, hz, if_pos (show (idOf x).is = true from rfl)]
      exact (getR_iff he.good).2 (has_iff.2 ⟨x, hx, rfl, rfl⟩)
  · rintro ⟨i, j, nm, h1, h2, h3⟩
    rw [List.getElem?_map] at h1
    unfold flagAt at h2
    cases hv : s.vols[i]? with
    | none => rw [hv] at h1; cases h1
    | some v =>
      obtain ⟨hi, rfl⟩ := List.getElem?_eq_some_iff.1 hv
      rw [hv] at h1 h2
      dsimp only [Option.bind_some] at h2
      cases h1
      cases hz : s.vols[i].ids[j]? with
      | none => rw [hz] at h2; cases h2
      | some z =>
        obtain ⟨hj, rfl⟩ := List.getElem?_eq_some_iff.1 hz
        rw [hz] at h2
        have h4 : s.vols[i].ids[j].is = true := Option.some.inj h2
        rw [read_at h hi hj, if_pos h4] at h3
        obtain ⟨x, hx, -, e⟩ := has_iff.1 ((getR_iff he.good).1 h3)
        exact List.mem_map.2 ⟨x, hx, e⟩

theorem texts_nodup {s : St} (h : Right s) : (s.bag.map It.text).Nodup := by
  unfold List.Nodup
  rw [List.pairwise_map]
  exact h.bag.txt

/-- Two states whose used places hold the same texts have as many items. -/
theorem bag_length {s s' : St} (h : Right s) (h' : Right s') (hs : ∀ t, Stands s t ↔ Stands s' t) : s.bag.length = s'.bag.length := by
  have hp := (List.perm_ext_iff_of_nodup (texts_nodup h) (texts_nodup h')).2 fun t => by rw [mem_texts h, mem_texts h', hs]
  have := hp.length_eq
  rwa [List.length_map, List.length_map] at this

/-- A list of the unlike texts is as long as the bag. -/
theorem room_length {s : St} (h : Right s) {l : List ByteArray} (hn : l.Nodup) (hl : ∀ t, t ∈ l ↔ Stands s t) : l.length = s.bag.length := by
  have hp := (List.perm_ext_iff_of_nodup hn (texts_nodup h)).2 fun t => by rw [mem_texts h, hl]
  have := hp.length_eq
  rwa [List.length_map] at this

theorem put_size {l : List It} {t : ByteArray} (h : (putR Pr l t).e = 0) : t.size ≤ 64 := by
  unfold putR at h
  split at h
  · rename_i h0
    exact absurd h h0
  · split at h
    · cases h
    · omega

theorem put_two {l : List It} {t : ByteArray} (hg : Bg.Good l) (hs : t.size ≤ 64) : (putR Pr l t).e = 0 ∨ (putR Pr l t).e = 8 := by
  by_cases h0 : (putR Pr l t).e = 0
  · exact Or.inl h0
  · rcases (put_err h0).2.2 (Bg.good_check hg) with h1 | h1
    · exact Or.inr h1
    · exfalso
      unfold putR at h1
      rw [if_neg (by rw [Bg.good_check hg]; decide), if_neg (by omega)] at h1
      split at h1
      · split at h1
        · split at h1
          · cases h1
          · cases h1
        · cases h1
      · split at h1
        · cases h1
        · cases h1

theorem setV_place {s s' : St} {i k : Nat} {z : Bg.Id} (hv : s'.vols = setV s.vols i k z) (name : ByteArray) (at_ : Int) : placeE s' name at_ = placeE s name at_ := by
  have hf : find s'.vols name = find s.vols name := by rw [hv]; exact find_names (setV_names _ _ _ _) name
  have hb := setV_blocks hv name
  unfold blocksR at hb
  rw [hf] at hb
  unfold placeE
  rw [hf]
  cases hj : find s.vols name with
  | none => rfl
  | some j =>
    rw [hj] at hb
    dsimp only at hb ⊢
    have hl' : s'.vols.length = s.vols.length := by rw [hv]; exact setV_len _ _ _ _
    by_cases hjl : j < s.vols.length
    · rw [List.getElem?_eq_getElem hjl, List.getElem?_eq_getElem (show j < s'.vols.length by omega)] at hb ⊢
      dsimp only at hb ⊢
      rw [hb]
    · rw [List.getElem?_eq_none_iff.2 (by omega), List.getElem?_eq_none_iff.2 (by omega)]

/-- What a write that goes well changes of the volumes. -/
theorem write_vols {s : St} (h : Right s) {name : ByteArray} {at_ : Int} {t : ByteArray} (he : (writeR s name at_ t).e = 0) :
    ∃ (i k : Nat) (z : Bg.Id), find s.vols name = some i ∧ at_ = (k : Int) ∧ z.is = true ∧ t.size ≤ 64 ∧ placeE s name at_ = 0 ∧ (writeR s name at_ t).s.vols = setV s.vols i k z ∧ (flagAt s.vols i k).isSome = true := by
  obtain ⟨i, k, hi, hk, hf, hn, rfl, h0, hw⟩ := write_is he
  refine ⟨i, k, (putR Pr (hole s i k).bag t).id, hf, rfl, (put_ok h0).is, put_size h0, ?_, ?_, ?_⟩
  · rw [← hn]; exact place_at h hi hk
  · rw [hw]
    show setV (hole s i k).vols i k _ = _
    rw [hole_vols h hi hk, setV_setV]
  · unfold flagAt
    rw [List.getElem?_eq_getElem hi]
    dsimp only [Option.bind_some]
    rw [List.getElem?_eq_getElem hk]
    rfl

/-- A second write finds its place, and room alone can lack. -/
theorem write_second {s s' : St} (h' : Right s') {i k : Nat} {z : Bg.Id} (hv : s'.vols = setV s.vols i k z) {name : ByteArray} {at_ : Int} {t : ByteArray} (hp : placeE s name at_ = 0) (ht : t.size ≤ 64) :
    (writeR s' name at_ t).e = 0 ∨ (writeR s' name at_ t).e = 8 := by
  have hp' : placeE s' name at_ = 0 := by rw [setV_place hv]; exact hp
  obtain ⟨i', k', hi, hk, -, -, hfd, hkj⟩ := place_parts hp'
  have hg := (hole_right h' hi hk).bag
  unfold writeR
  rw [if_neg (by rw [hp']; decide), hfd, hkj]
  rcases put_two hg ht with h0 | h0
  · rw [if_neg (by rw [h0]; decide)]
    exact Or.inl rfl
  · rw [if_pos (by rw [h0]; decide)]
    exact Or.inr h0

/-- Two writes at unlike places: in either order the same texts at the same places. -/
theorem writes_apart {S : St} (h : Right S) {a b : ByteArray} {p q : Int} {s t : ByteArray} (hne : ¬ (a = b ∧ p = q)) (e1 : (writeR S a p s).e = 0) (e2 : (writeR S b q t).e = 0) :
    ((writeR (writeR S a p s).s b q t).e = 0 ∨ (writeR (writeR S a p s).s b q t).e = 8) ∧ ((writeR (writeR S b q t).s a p s).e = 0 ∨ (writeR (writeR S b q t).s a p s).e = 8) ∧
    ((writeR (writeR S a p s).s b q t).e = 0 → (writeR (writeR S b q t).s a p s).e = 0 →
      (∀ nm, textsR (writeR (writeR S a p s).s b q t).s nm = textsR (writeR (writeR S b q t).s a p s).s nm) ∧ (writeR (writeR S a p s).s b q t).s.bag.length = (writeR (writeR S b q t).s a p s).s.bag.length) := by
  have rX := vwrite_right h a p s
  have rY := vwrite_right h b q t
  have rX2 := vwrite_right rX b q t
  have rY2 := vwrite_right rY a p s
  obtain ⟨i1, k1, z1, f1, rfl, is1, sz1, pl1, vX, g1⟩ := write_vols h e1
  obtain ⟨i2, k2, z2, f2, rfl, is2, sz2, pl2, vY, g2⟩ := write_vols h e2
  refine ⟨write_second rX vX pl2 sz2, write_second rY vY pl1 sz1, fun e3 e4 => ?_⟩
  obtain ⟨i3, k3, z3, f3, k3e, is3, -, -, vX2, g3⟩ := write_vols rX e3
  obtain ⟨i4, k4, z4, f4, k4e, is4, -, -, vY2, g4⟩ := write_vols rY e4
  have hf3 : find (writeR S a (k1 : Int) s).s.vols b = find S.vols b := by rw [vX]; exact find_names (setV_names _ _ _ _) b
  have hf4 : find (writeR S b (k2 : Int) t).s.vols a = find S.vols a := by rw [vY]; exact find_names (setV_names _ _ _ _) a
  obtain rfl : i3 = i2 := by rw [hf3, f2] at f3; exact (Option.some.inj f3).symm
  obtain rfl : i4 = i1 := by rw [hf4, f1] at f4; exact (Option.some.inj f4).symm
  obtain rfl : k3 = k2 := by omega
  obtain rfl : k4 = k1 := by omega
  have hplace : ¬ (i4 = i3 ∧ k4 = k3) := fun ⟨h1, h2⟩ => hne (by
    obtain ⟨_, e, -⟩ := List.findIdx?_eq_some_iff_getElem.1 f1
    obtain ⟨_, e', -⟩ := List.findIdx?_eq_some_iff_getElem.1 f2
    have e := called_iff.1 e
    have e' := called_iff.1 e'
    subst h1
    exact ⟨e.symm.trans e', by rw [h2]⟩)
  -- what is read
  have wX := trim_write h a (k4 : Int) s
  have wY := trim_write h b (k3 : Int) t
  have wX2 := trim_write rX b (k3 : Int) t
  have wY2 := trim_write rY a (k4 : Int) s
  have get : ∀ {s' : St} {n : ByteArray} {x : Int} {u : ByteArray}, (writeR s' n x u).e = 0 → (((trimR s' n x).e ≠ 0 ∧ (writeR s' n x u).e = (trimR s' n x).e) ∨ ((trimR s' n x).e = 0 ∧ readR (trimR s' n x).s n x = (Bg.noText, 0) ∧ (∀ also other, ¬ (n = also ∧ x = other) → readR (trimR s' n x).s also other = readR s' also other) ∧ (((writeR s' n x u).e = 0 ∧ readR (writeR s' n x u).s n x = (u, 0) ∧ ∀ also other, ¬ (n = also ∧ x = other) → readR (writeR s' n x u).s also other = readR s' also other) ∨ (writeR s' n x u).e ≠ 0 ∧ ((writeR s' n x u).e = 8 ∨ (writeR s' n x u).e = 2)))) → readR (writeR s' n x u).s n x = (u, 0) ∧ ∀ also other, ¬ (n = also ∧ x = other) → readR (writeR s' n x u).s also other = readR s' also other := fun he hh => by
    rcases hh with ⟨h1, h2⟩ | ⟨-, -, -, h4⟩
    · exact absurd (h2.symm.trans he) h1
    · rcases h4 with ⟨-, h5, h6⟩ | ⟨h5, -⟩
      · exact ⟨h5, h6⟩
      · exact absurd he h5
  obtain ⟨x1, x2⟩ := get e1 wX
  obtain ⟨y1, y2⟩ := get e2 wY
  obtain ⟨x3, x4⟩ := get e3 wX2
  obtain ⟨y3, y4⟩ := get e4 wY2
  have hread : ∀ nm at_, readR (writeR (writeR S a (k4 : Int) s).s b (k3 : Int) t).s nm at_ = readR (writeR (writeR S b (k3 : Int) t).s a (k4 : Int) s).s nm at_ := fun nm at_ => by
    by_cases hb : b = nm ∧ (k3 : Int) = at_
    · obtain ⟨rfl, rfl⟩ := hb
      rw [x3, y4 b _ hne, y1]
    · rw [x4 nm at_ hb]
      by_cases ha : a = nm ∧ (k4 : Int) = at_
      · obtain ⟨rfl, rfl⟩ := ha
        rw [x1, y3]
      · rw [x2 nm at_ ha, y4 nm at_ ha, y2 nm at_ hb]
  refine ⟨fun nm => texts_eq ?_ fun p => hread nm p, ?_⟩
  · rw [write_blocks rX e3, write_blocks h e1, write_blocks rY e4, write_blocks h e2]
  · refine bag_length rX2 rY2 fun u => ?_
    have hn : (writeR (writeR S a (k4 : Int) s).s b (k3 : Int) t).s.vols.map Vl.name = (writeR (writeR S b (k3 : Int) t).s a (k4 : Int) s).s.vols.map Vl.name := by
      rw [vX2, vY2, setV_names, setV_names, vX, vY, setV_names, setV_names]
    have hfl : ∀ i j, flagAt (writeR (writeR S a (k4 : Int) s).s b (k3 : Int) t).s.vols i j = flagAt (writeR (writeR S b (k3 : Int) t).s a (k4 : Int) s).s.vols i j := fun i j => by
      have c : ∀ {o : Option Bool} {z : Bg.Id}, o.isSome = true → z.is = true → (o.map fun _ => z.is) = some true := fun {o z} h1 h2 => by
        cases o with
        | none => cases h1
        | some _ => rw [Option.map_some, h2]
      rw [vX2, vY2, flag_setV, flag_setV]
      by_cases hj : i = i3 ∧ j = k3
      · have hj' : ¬ (i = i4 ∧ j = k4) := fun e => hplace ⟨e.1.symm.trans hj.1, e.2.symm.trans hj.2⟩
        rw [if_pos hj, if_neg hj', c g3 is3, vY, flag_setV, if_pos hj, c g2 is2]
      · rw [if_neg hj]
        by_cases hj' : i = i4 ∧ j = k4
        · rw [if_pos hj', c g4 is4, vX, flag_setV, if_pos hj', c g1 is1]
        · rw [if_neg hj', vX, vY, flag_setV, flag_setV, if_neg hj', if_neg hj]
    unfold Stands
    constructor
    · rintro ⟨i, j, nm, h1, h2, h3⟩
      exact ⟨i, j, nm, by rw [← hn]; exact h1, by rw [← hfl]; exact h2, by rw [← hread]; exact h3⟩
    · rintro ⟨i, j, nm, h1, h2, h3⟩
      exact ⟨i, j, nm, by rw [hn]; exact h1, by rw [hfl]; exact h2, by rw [hread]; exact h3⟩

end Go.Proofs.Yteddendidjhmbaa.Vo
