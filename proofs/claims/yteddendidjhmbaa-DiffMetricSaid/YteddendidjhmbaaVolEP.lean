/- What trimming all and dropping all leaves, plain. No program in sight. -/
import Derived.Test.YteddendidjhmbaaVolRP
namespace Go.Proofs.Yteddendidjhmbaa.Vo
open Go.Proofs.Yteddendidjhmbaa Go.Proofs.Yteddendidjhmbaa.Bg

/-- A volume with nothing in it. -/
def clr (v : Vl) : Vl := ⟨v.name, List.replicate v.ids.length Bg.noId⟩
/-- The first volumes with nothing in them. -/
def clN (vs : List Vl) (k : Nat) : List Vl := (vs.take k).map clr ++ vs.drop k
/-- Also the first places of the next. -/
def inN (vs : List Vl) (k j : Nat) : List Vl := match vs[k]? with
  | some v => (clN vs k).set k ⟨v.name, List.replicate j Bg.noId ++ v.ids.drop j⟩
  | none => clN vs k

theorem clN_length (vs : List Vl) (k : Nat) : (clN vs k).length = vs.length := by
  unfold clN
  rw [List.length_append, List.length_map, List.length_take, List.length_drop]
  omega
theorem clN_at {vs : List Vl} {k : Nat} (hk : k < vs.length) : (clN vs k)[k]? = some vs[k] := by
  unfold clN
  rw [List.getElem?_append_right (by rw [List.length_map, List.length_take]; omega), List.length_map, List.length_take, Nat.min_eq_left (by omega), Nat.sub_self, List.getElem?_drop, Nat.add_zero, List.getElem?_eq_getElem hk]
theorem inN_is {vs : List Vl} {k : Nat} (hk : k < vs.length) (j : Nat) : inN vs k j = (clN vs k).set k ⟨vs[k].name, List.replicate j Bg.noId ++ vs[k].ids.drop j⟩ := by
  unfold inN
  rw [List.getElem?_eq_getElem hk]
theorem inN_zero {vs : List Vl} {k : Nat} (hk : k < vs.length) : inN vs k 0 = clN vs k := by
  rw [inN_is hk]
  obtain ⟨h1, h2⟩ := List.getElem?_eq_some_iff.1 (clN_at hk)
  have : (⟨vs[k].name, List.replicate 0 Bg.noId ++ vs[k].ids.drop 0⟩ : Vl) = (clN vs k)[k] := by rw [h2]; rfl
  rw [this, List.set_getElem_self]
theorem inN_length {vs : List Vl} {k : Nat} (hk : k < vs.length) (j : Nat) : (inN vs k j).length = vs.length := by rw [inN_is hk, List.length_set, clN_length]
theorem inN_at {vs : List Vl} {k : Nat} (hk : k < vs.length) (j : Nat) : (inN vs k j)[k]? = some ⟨vs[k].name, List.replicate j Bg.noId ++ vs[k].ids.drop j⟩ := by
  rw [inN_is hk, List.getElem?_set_self (by rw [clN_length]; exact hk)]
theorem inN_step {vs : List Vl} {k j : Nat} (hk : k < vs.length) (hj : j < vs[k].ids.length) : setV (inN vs k j) k j Bg.noId = inN vs k (j + 1) := by
  unfold setV
  rw [inN_at hk]
  dsimp only
  rw [inN_is hk, inN_is hk, List.set_set]
  congr 2
  rw [List.set_append_right _ _ (by rw [List.length_replicate]; exact Nat.le_refl _), List.length_replicate, Nat.sub_self, List.drop_eq_getElem_cons hj, List.set_cons_zero, List.replicate_succ', List.append_assoc]
  rfl
theorem inN_end {vs : List Vl} {k : Nat} (hk : k < vs.length) : inN vs k vs[k].ids.length = clN vs (k + 1) := by
  rw [inN_is hk, List.drop_length, List.append_nil]
  unfold clN
  rw [List.set_append_right _ _ (by rw [List.length_map, List.length_take]; omega), List.length_map, List.length_take, Nat.min_eq_left (by omega), Nat.sub_self, List.drop_eq_getElem_cons hk, List.set_cons_zero, List.take_succ_eq_append_getElem hk, List.map_append, List.append_assoc]
  rfl

theorem hole_vols {s : St} (h : Right s) {i k : Nat} (hi : i < s.vols.length) (hk : k < s.vols[i].ids.length) : (hole s i k).vols = setV s.vols i k Bg.noId := by
  unfold hole
  split
  · rfl
  · rename_i h0
    rw [idAt_get hi hk] at h0
    have hz : s.vols[i].ids[k] = Bg.noId := by
      rcases (h.vol _ (List.getElem_mem hi)).ids _ (List.getElem_mem hk) with e | ⟨x, -, e⟩
      · exact e
      · rw [e] at h0
        exact absurd rfl h0
    unfold setV
    rw [List.getElem?_eq_getElem hi]
    dsimp only
    rw [← hz, List.set_getElem_self]
    exact (List.set_getElem_self hi).symm

/-- One place more is trimmed. -/
theorem trim_step {S s : St} {k j : Nat} (h : Right s) (hk : k < S.vols.length) (hj : j < S.vols[k].ids.length) (hv : s.vols = inN S.vols k j) :
    ∃ s', trimR s S.vols[k].name (j : Int) = ⟨s', 0⟩ ∧ Right s' ∧ s'.vols = inN S.vols k (j + 1) := by
  have hks : k < s.vols.length := by rw [hv, inN_length hk]; exact hk
  have he : s.vols[k] = ⟨S.vols[k].name, List.replicate j Bg.noId ++ S.vols[k].ids.drop j⟩ := by
    have := inN_at hk j
    rw [← hv, List.getElem?_eq_getElem hks] at this
    exact Option.some.inj this
  have hn : s.vols[k].name = S.vols[k].name := by rw [he]
  have hl : j < s.vols[k].ids.length := by
    rw [he]
    dsimp only
    rw [List.length_append, List.length_replicate, List.length_drop]
    omega
  refine ⟨hole s k j, ?_, hole_right h hks hl, ?_⟩
  · rw [← hn]
    exact trimR_ok (place_at h hks hl) (by unfold fd; rw [find_at h.srt hks]; rfl)
  · rw [hole_vols h hks hl, hv, inN_step hk hj]

/-- One volume more is dropped. -/
theorem drop_step {S s : St} {k : Nat} (h : Right s) (hk : k < S.vols.length) (hv : s.vols = S.vols.drop k) :
    ∃ s', dropR s S.vols[k].name = ⟨s', 0⟩ ∧ Right s' ∧ s'.vols = S.vols.drop (k + 1) := by
  have h0 : 0 < s.vols.length := by rw [hv, List.length_drop]; omega
  have he : s.vols[0] = S.vols[k] := by
    have e : s.vols[0]? = S.vols[k]? := by rw [hv, List.getElem?_drop, Nat.add_zero]
    rw [List.getElem?_eq_getElem h0, List.getElem?_eq_getElem hk] at e
    exact Option.some.inj e
  have hf := find_at h.srt h0
  rw [he] at hf
  have hd : dropR s S.vols[k].name = ⟨⟨s.vols[0].ids.foldl unuse s.bag, s.vols.eraseIdx 0⟩, 0⟩ := by
    unfold dropR
    rw [hf]
    dsimp only
    rw [List.getElem?_eq_getElem h0]
  have hr := drop_right h S.vols[k].name
  rw [hd] at hr
  refine ⟨_, hd, hr, ?_⟩
  show s.vols.eraseIdx 0 = _
  rw [hv, List.eraseIdx_zero, List.tail_drop]

/-- Where nothing is used the bag is empty. -/
theorem bag_empty {s : St} (h : Right s) (hn : ∀ v ∈ s.vols, ∀ id ∈ v.ids, id = Bg.noId) : s.bag = [] := by
  have he := (right_iff.1 h).1
  cases hb : s.bag with
  | nil => rfl
  | cons x t =>
    have hx : x ∈ s.bag := by rw [hb]; exact List.mem_cons_self
    have hu := he.used hx
    have hm := mem_cnt.1 hu
    unfold allIds at hm
    obtain ⟨v, hv, hi⟩ := List.mem_flatMap.1 hm
    exact absurd (hn v hv _ hi) (idOf_ne x)

theorem clN_empty (vs : List Vl) : ∀ v ∈ clN vs vs.length, ∀ id ∈ v.ids, id = Bg.noId := by
  unfold clN
  rw [List.take_length, List.drop_length, List.append_nil]
  intro v hv id hi
  obtain ⟨u, -, rfl⟩ := List.mem_map.1 hv
  exact List.eq_of_mem_replicate hi

end Go.Proofs.Yteddendidjhmbaa.Vo
