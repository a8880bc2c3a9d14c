/- What is read behind a place that was written, plain. No program in sight. -/
import Derived.Test.YteddendidjhmbaaVolEP
namespace Go.Proofs.Yteddendidjhmbaa.Vo
open Go.Proofs.Yteddendidjhmbaa Go.Proofs.Yteddendidjhmbaa.Bg

theorem setV_names (vs : List Vl) (i k : Nat) (z : Bg.Id) : (setV vs i k z).map Vl.name = vs.map Vl.name := by
  unfold setV
  split
  · rename_i v hv
    obtain ⟨hi, rfl⟩ := List.getElem?_eq_some_iff.1 hv
    rw [List.map_set]
    have : vs[i].name = (vs.map Vl.name)[i]'(by rw [List.length_map]; exact hi) := by rw [List.getElem_map]
    conv => lhs; arg 3; rw [this]
    rw [List.set_getElem_self]
  · rfl

theorem find_names {vs ws : List Vl} (h : vs.map Vl.name = ws.map Vl.name) (x : ByteArray) : find vs x = find ws x := by
  have e : ∀ l : List Vl, find l x = (l.map Vl.name).findIdx? (fun n => n.toList == x.toList) := fun l => by
    unfold find
    rw [List.findIdx?_map]
    rfl
  rw [e, e, h]

theorem mem_others {vs : List Vl} {i k j p : Nat} (hj : j < vs.length) (hp : p < vs[j].ids.length) (hne : ¬ (j = i ∧ p = k)) (hi : i < vs.length) : vs[j].ids[p] ∈ others vs i k := by
  unfold others
  rw [getD_vol hi]
  rcases Nat.lt_trichotomy j i with h | rfl | h
  · refine List.mem_append_left _ (List.mem_flatMap.2 ⟨vs[j], ?_, List.getElem_mem hp⟩)
    exact List.mem_take_iff_getElem.2 ⟨j, by omega, rfl⟩
  · refine List.mem_append_right _ (List.mem_append_left _ ?_)
    exact List.mem_eraseIdx_iff_getElem.2 ⟨p, hp, fun e => hne ⟨rfl, e⟩, rfl⟩
  · refine List.mem_append_right _ (List.mem_append_right _ (List.mem_flatMap.2 ⟨vs[j], ?_, List.getElem_mem hp⟩))
    exact List.mem_drop_iff_getElem.2 ⟨j - (i + 1), by omega, by congr 1; omega⟩

/-- Elsewhere all reads as it did. -/
theorem read_same {s s' : St} (h : Right s) (h' : Right s') {i k : Nat} {z : Bg.Id} (hi : i < s.vols.length) (hv : s'.vols = setV s.vols i k z)
    (hh : ∀ y t, 0 < cnt (others s.vols i k) y → Bg.Has s.bag y t → Bg.Has s'.bag y t) (name : ByteArray) (at_ : Int) (hne : ¬ (find s.vols name = some i ∧ at_ = (k : Int))) : readR s' name at_ = readR s name at_ := by
  have hf : find s'.vols name = find s.vols name := by rw [hv]; exact find_names (setV_names _ _ _ _) name
  cases hfi : find s.vols name with
  | none =>
    rw [hfi] at hf
    have e : placeE s name at_ = 4 := placeE_none hfi
    have e' : placeE s' name at_ = 4 := placeE_none hf
    rw [readR_bad (s := s') (by rw [e']; decide), readR_bad (s := s) (by rw [e]; decide), e, e']
  | some j =>
    rw [hfi] at hf
    obtain ⟨hj, hn, -⟩ := List.findIdx?_eq_some_iff_getElem.1 hfi
    have hn := called_iff.1 hn
    have hl' : s'.vols.length = s.vols.length := by rw [hv]; exact setV_len _ _ _ _
    have hj' : j < s'.vols.length := by rw [hl']; exact hj
    have hn' : s'.vols[j].name = name := by
      obtain ⟨_, e, -⟩ := List.findIdx?_eq_some_iff_getElem.1 hf
      exact called_iff.1 e
    have hs : s'.vols[j]? = if i = j then some ⟨s.vols[j].name, s.vols[j].ids.set k z⟩ else some s.vols[j] := by
      rw [hv]
      by_cases hij : i = j
      · subst hij
        rw [if_pos rfl, setV_at hi]
      · rw [if_neg hij, setV_ne hij, List.getElem?_eq_getElem hj]
    have hids : s'.vols[j].ids = if i = j then s.vols[j].ids.set k z else s.vols[j].ids := by
      rw [List.getElem?_eq_getElem hj'] at hs
      by_cases hij : i = j
      · rw [if_pos hij] at hs ⊢
        exact congrArg Vl.ids (Option.some.inj hs)
      · rw [if_neg hij] at hs ⊢
        exact congrArg Vl.ids (Option.some.inj hs)
    have hlen : s'.vols[j].ids.length = s.vols[j].ids.length := by
      rw [hids]
      split
      · exact List.length_set ..
      · rfl
    by_cases hb : at_ < 0 ∨ (s.vols[j].ids.length : Int) ≤ at_
    · have e : placeE s name at_ = 1 := by
        unfold placeE
        rw [hfi]
        dsimp only
        rw [List.getElem?_eq_getElem hj]
        exact if_pos hb
      have e' : placeE s' name at_ = 1 := by
        unfold placeE
        rw [hf]
        dsimp only
        rw [List.getElem?_eq_getElem hj']
        exact if_pos (by rw [hlen]; exact hb)
      rw [readR_bad (s := s') (by rw [e']; decide), readR_bad (s := s) (by rw [e]; decide), e, e']
    · obtain ⟨p, rfl⟩ : ∃ p : Nat, at_ = (p : Int) := ⟨at_.toNat, by omega⟩
      have hp : p < s.vols[j].ids.length := by omega
      have hp' : p < s'.vols[j].ids.length := by rw [hlen]; exact hp
      have r := read_at h hj hp
      have r' := read_at h' hj' hp'
      rw [hn] at r
      rw [hn'] at r'
      have hne2 : ¬ (j = i ∧ p = k) := fun ⟨e1, e2⟩ => hne ⟨by rw [hfi, e1], by rw [e2]⟩
      have hq : s'.vols[j].ids[p] = s.vols[j].ids[p] := by
        have e : s'.vols[j].ids[p]? = s.vols[j].ids[p]? := by
          rw [hids]
          split
          · rename_i hij
            rw [List.getElem?_set_ne (fun e => hne2 ⟨hij.symm, e.symm⟩)]
          · rfl
        rw [List.getElem?_eq_getElem hp', List.getElem?_eq_getElem hp] at e
        exact Option.some.inj e
      have hm := mem_others hj hp hne2 hi
      rw [r, r', hq]
      generalize hx : s.vols[j].ids[p] = q at *
      rcases (h.vol _ (List.getElem_mem hj)).ids _ (List.getElem_mem hp) with e | ⟨x, hx2, e⟩
      · rw [hx] at e
        subst e
        rw [if_neg (by decide), if_neg (by decide)]
      · rw [hx] at e
        have h1 : Bg.Has s.bag q x.text := has_iff.2 ⟨x, hx2, e, rfl⟩
        have h2 := hh q x.text (cnt_pos hm) h1
        rw [(Bg.getR_iff h.bag).2 h1, (Bg.getR_iff h'.bag).2 h2]

/-- What a trim leaves to be read. -/
theorem hole_read {s : St} (h : Right s) {i k : Nat} (hi : i < s.vols.length) (hk : k < s.vols[i].ids.length) :
    readR (hole s i k) s.vols[i].name (k : Int) = (Bg.noText, 0) ∧ ∀ name (at_ : Int), ¬ (find s.vols name = some i ∧ at_ = (k : Int)) → readR (hole s i k) name at_ = readR s name at_ := by
  have hr := hole_right h hi hk
  have hv := hole_vols h hi hk
  obtain ⟨hi', hn, hl⟩ := hole_vol (k := k) hi
  have hk' : k < (hole s i k).vols[i].ids.length := by rw [hl]; exact hk
  obtain ⟨-, -, -, hh⟩ := hole_exact h hi hk
  refine ⟨?_, fun name at_ hne => read_same h hr hi hv (fun y t hy ht => (hh y t).2 ⟨ht, hy⟩) name at_ hne⟩
  have r := read_at hr hi' hk'
  rw [hn] at r
  rw [r]
  have e : (hole s i k).vols[i].ids[k] = Bg.noId := by
    have e1 : (hole s i k).vols[i]? = some ⟨s.vols[i].name, s.vols[i].ids.set k Bg.noId⟩ := by rw [hv]; exact setV_at hi
    rw [List.getElem?_eq_getElem hi'] at e1
    have e2 := congrArg Vl.ids (Option.some.inj e1)
    have e3 : (hole s i k).vols[i].ids[k]? = some Bg.noId := by
      rw [e2]
      exact List.getElem?_set_self hk
    rw [List.getElem?_eq_getElem hk'] at e3
    exact Option.some.inj e3
  have e' : ((hole s i k).vols[i].ids[k]).is = false := congrArg Bg.Id.is e
  exact if_neg (fun h => by rw [e'] at h; cases h)

theorem setV_id {vs : List Vl} {i k : Nat} {z : Bg.Id} (hi : i < vs.length) (hk : k < vs[i].ids.length) : ∃ (hi' : i < (setV vs i k z).length) (hk' : k < (setV vs i k z)[i].ids.length), (setV vs i k z)[i].name = vs[i].name ∧ (setV vs i k z)[i].ids[k] = z := by
  have hi' : i < (setV vs i k z).length := by rw [setV_len]; exact hi
  have e : (setV vs i k z)[i] = ⟨vs[i].name, vs[i].ids.set k z⟩ := by
    have e1 := setV_at (k := k) (id := z) hi
    rw [List.getElem?_eq_getElem hi'] at e1
    exact Option.some.inj e1
  have e2 := congrArg Vl.ids e
  dsimp only at e2
  have hk' : k < (setV vs i k z)[i].ids.length := by rw [e2, List.length_set]; exact hk
  have e0 := congrArg Vl.name e
  refine ⟨hi', hk', e0, ?_⟩
  have e3 : (setV vs i k z)[i].ids[k]? = some z := by rw [e2]; exact List.getElem?_set_self hk
  rw [List.getElem?_eq_getElem hk'] at e3
  exact Option.some.inj e3

/-- What a write leaves to be read. -/
theorem write_read {s : St} (h : Right s) {i k : Nat} {t : ByteArray} (hi : i < s.vols.length) (hk : k < s.vols[i].ids.length) (he : (putR Pr (hole s i k).bag t).e = 0) :
    readR ⟨(putR Pr (hole s i k).bag t).l, setV (hole s i k).vols i k (putR Pr (hole s i k).bag t).id⟩ s.vols[i].name (k : Int) = (t, 0) ∧
    ∀ name (at_ : Int), ¬ (find s.vols name = some i ∧ at_ = (k : Int)) → readR ⟨(putR Pr (hole s i k).bag t).l, setV (hole s i k).vols i k (putR Pr (hole s i k).bag t).id⟩ name at_ = readR s name at_ := by
  have hr := write_right h hi hk he
  have hp := put_ok he
  obtain ⟨hi', hn, hl⟩ := hole_vol (k := k) hi
  have hk' : k < (hole s i k).vols[i].ids.length := by rw [hl]; exact hk
  constructor
  · obtain ⟨j1, j2, j3, j4⟩ := setV_id (z := (putR Pr (hole s i k).bag t).id) hi' hk'
    have r := read_at hr (i := i) (j := k) j1 j2
    dsimp only at r
    rw [j3, hn] at r
    rw [r, j4, if_pos hp.is]
    exact (getR_iff hp.good).2 hp.has
  · intro name at_ hne
    rw [← (hole_read h hi hk).2 name at_ hne]
    have hf : find (hole s i k).vols name = find s.vols name := by rw [hole_vols h hi hk]; exact find_names (setV_names _ _ _ _) name
    exact read_same (hole_right h hi hk) hr hi' rfl (fun y t _ ht => hp.more y t ht) name at_ (by rw [hf]; exact hne)

end Go.Proofs.Yteddendidjhmbaa.Vo
