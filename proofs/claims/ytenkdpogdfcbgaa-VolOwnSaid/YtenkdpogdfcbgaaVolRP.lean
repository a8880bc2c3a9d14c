import Derived.Test.YtenkdpogdfcbgaaMdW
/- How often the blocks of a right state are used, plain. No program in sight. -/
namespace Go.Proofs.Ytenkdpogdfcbgaa.Vo
open Go.Proofs.Ytenkdpogdfcbgaa Go.Proofs.Ytenkdpogdfcbgaa.Bg

/-- How many of the ids are not empty. -/
def usedN (l : List Bg.Id) : Nat := l.countP fun z => z.is

theorem usedN_app (l m : List Bg.Id) : usedN (l ++ m) = usedN l + usedN m := List.countP_append
theorem usedN_le (l : List Bg.Id) : usedN l ≤ l.length := List.countP_le_length
theorem usedN_take {l : List Bg.Id} {k : Nat} (hk : k < l.length) : usedN (l.take (k + 1)) = usedN (l.take k) + if l[k].is = true then 1 else 0 := by
  rw [List.take_succ_eq_append_getElem hk, usedN_app]
  unfold usedN
  rw [List.countP_singleton]

theorem refsV_app (l m : List It) : Bg.refsV (l ++ m) = Bg.refsV l + Bg.refsV m := by
  unfold Bg.refsV
  rw [List.map_append, List.sum_append]
theorem refsV_cons (x : It) (l : List It) : Bg.refsV (x :: l) = x.refs + Bg.refsV l := by unfold Bg.refsV; rw [List.map_cons, List.sum_cons]

/-- All uses together are the places that are not empty. -/
theorem refs_used : ∀ (l : List Bg.Id) (bag : List It), Exact bag l → Bg.refsV bag = (usedN l : Int)
  | [], bag, h => by
    cases bag with
    | nil => rfl
    | cons x t =>
      have := h.used List.mem_cons_self
      exact absurd this (by unfold cnt; simp)
  | id :: l, bag, h => by
    rcases h.ids id List.mem_cons_self with rfl | ⟨x, hx, rfl⟩
    · rw [refs_used l bag h.unhole]
      unfold usedN
      rw [List.countP_cons_of_neg (by decide)]
    · obtain ⟨P, Q, rfl⟩ := List.append_of_mem hx
      have h2 := (exact_unuse h).1
      have hu : unuse (P ++ x :: Q) (idOf x) = if x.refs = 1 then P ++ Q else P ++ ⟨x.sum, x.n, x.text, x.refs - 1⟩ :: Q := by
        unfold unuse
        rw [if_pos (show (idOf x).is = true from rfl), drop_mid h.good (hit_idOf.2 rfl)]
      have ih := refs_used l _ h2
      rw [hu] at ih
      have hc : usedN (idOf x :: l) = usedN l + 1 := by unfold usedN; rw [List.countP_cons_of_pos (by rfl)]
      rw [hc, refsV_app, refsV_cons]
      split at ih
      · rename_i h1
        rw [refsV_app] at ih
        omega
      · rw [refsV_app, refsV_cons] at ih
        dsimp only at ih
        omega

theorem refs_in {l : List It} (h : Bg.Good l) : ∀ x ∈ l, 1 ≤ x.refs ∧ x.refs ≤ 1000000 := fun x hx => (Bg.one_fit (h.one x hx)).2.2.2.2.2

theorem refs_right {s : St} (h : Right s) : Bg.refsV s.bag = (usedN (allIds s.vols) : Int) := refs_used _ _ (right_iff.1 h).1

theorem used_step {vs : List Vl} {k : Nat} (hk : k < vs.length) : usedN (allIds (vs.take (k + 1))) = usedN (allIds (vs.take k)) + usedN vs[k].ids := by
  rw [List.take_succ_eq_append_getElem hk, allIds_app, usedN_app]
  congr 2
  unfold allIds
  simp

theorem used_small {s : St} (h : Right s) (k : Nat) : usedN (allIds (s.vols.take k)) ≤ 192 := by
  have key : ∀ vs : List Vl, (∀ v ∈ vs, v.ids.length ≤ 32) → usedN (allIds vs) ≤ 32 * vs.length := fun vs => by
    induction vs with
    | nil => intro _; exact Nat.zero_le _
    | cons v t ih =>
      intro hv
      have h1 := ih fun u hu => hv u (List.mem_cons_of_mem _ hu)
      have h2 := hv v List.mem_cons_self
      have h3 := usedN_le v.ids
      rw [allIds_cons, usedN_app, List.length_cons]
      omega
  have h1 := key (s.vols.take k) fun v hv => (h.vol v (List.mem_of_mem_take hv)).len
  have h2 : (s.vols.take k).length ≤ 6 := Nat.le_trans (List.length_take_le' ..) h.len
  omega

end Go.Proofs.Ytenkdpogdfcbgaa.Vo

/- What trimming all and dropping all leaves, plain. No program in sight. -/
namespace Go.Proofs.Ytenkdpogdfcbgaa.Vo
open Go.Proofs.Ytenkdpogdfcbgaa Go.Proofs.Ytenkdpogdfcbgaa.Bg

/-- A volume with nothing in it. -/
def clr (v : Vl) : Vl := ⟨v.name, List.replicate v.ids.length Bg.noId⟩
/-- The first volumes with nothing in them. -/
def clN (vs : List Vl) (k : Nat) : List Vl := (vs.take k).map clr ++ vs.drop k
/-- Also the first places of the next. -/
def inN (vs : List Vl) (k j : Nat) : List Vl := match vs[k]? with
  | some v => (clN vs k).set k ⟨v.name, List.replicate j Bg.noId ++ v.ids.drop j⟩
  | none => clN vs k

theorem clN_length (vs : List Vl) (k : Nat) : (clN vs k).length = vs.length := by
  unfold clN
  rw [List.length_append, List.length_map, List.length_take, List.length_drop]
  omega
theorem clN_at {vs : List Vl} {k : Nat} (hk : k < vs.length) : (clN vs k)[k]? = some vs[k] := by
  unfold clN
  rw [List.getElem?_append_right (by rw [List.length_map, List.length_take]; omega), List.length_map, List.length_take, Nat.min_eq_left (by omega), Nat.sub_self, List.getElem?_drop, Nat.add_zero, List.getElem?_eq_getElem hk]
theorem inN_is {vs : List Vl} {k : Nat} (hk : k < vs.length) (j : Nat) : inN vs k j = (clN vs k).set k ⟨vs[k].name, List.replicate j Bg.noId ++ vs[k].ids.drop j⟩ := by
  unfold inN
  rw [List.getElem?_eq_getElem hk]
theorem inN_zero {vs : List Vl} {k : Nat} (hk : k < vs.length) : inN vs k 0 = clN vs k := by
  rw [inN_is hk]
  obtain ⟨h1, h2⟩ := List.getElem?_eq_some_iff.1 (clN_at hk)
  have : (⟨vs[k].name, List.replicate 0 Bg.noId ++ vs[k].ids.drop 0⟩ : Vl) = (clN vs k)[k] := by rw [h2]; rfl
  rw [this, List.set_getElem_self]
theorem inN_length {vs : List Vl} {k : Nat} (hk : k < vs.length) (j : Nat) : (inN vs k j).length = vs.length := by rw [inN_is hk, List.length_set, clN_length]
theorem inN_at {vs : List Vl} {k : Nat} (hk : k < vs.length) (j : Nat) : (inN vs k j)[k]? = some ⟨vs[k].name, List.replicate j Bg.noId ++ vs[k].ids.drop j⟩ := by
  rw [inN_is hk, List.getElem?_set_self (by rw [clN_length]; exact hk)]
theorem inN_step {vs : List Vl} {k j : Nat} (hk : k < vs.length) (hj : j < vs[k].ids.length) : setV (inN vs k j) k j Bg.noId = inN vs k (j + 1) := by
  unfold setV
  rw [inN_at hk]
  dsimp only
  rw [inN_is hk, inN_is hk, List.set_set]
  congr 2
  rw [List.set_append_right _ _ (by rw [List.length_replicate]; exact Nat.le_refl _), List.length_replicate, Nat.sub_self, List.drop_eq_getElem_cons hj, List.set_cons_zero, List.replicate_succ', List.append_assoc]
  rfl
theorem inN_end {vs : List Vl} {k : Nat} (hk : k < vs.length) : inN vs k vs[k].ids.length = clN vs (k + 1) := by
  rw [inN_is hk, List.drop_length, List.append_nil]
  unfold clN
  rw [List.set_append_right _ _ (by rw [List.length_map, List.length_take]; omega), List.length_map, List.length_take, Nat.min_eq_left (by omega), Nat.sub_self, List.drop_eq_getElem_cons hk, List.set_cons_zero, List.take_succ_eq_append_getElem hk, List.map_append, List.append_assoc]
  rfl

theorem hole_vols {s : St} (h : Right s) {i k : Nat} (hi : i < s.vols.length) (hk : k < s.vols[i].ids.length) : (hole s i k).vols = setV s.vols i k Bg.noId := by
  unfold hole
  split
  · rfl
  · rename_i h0
    rw [idAt_get hi hk] at h0
    have hz : s.vols[i].ids[k] = Bg.noId := by
      rcases (h.vol _ (List.getElem_mem hi)).ids _ (List.getElem_mem hk) with e | ⟨x, -, e⟩
      · exact e
      · rw [e] at h0
        exact absurd rfl h0
    unfold setV
    rw [List.getElem?_eq_getElem hi]
    dsimp only
    rw [← hz, List.set_getElem_self]
    exact (List.set_getElem_self hi).symm

/-- One place more is trimmed. -/
theorem trim_step {S s : St} {k j : Nat} (h : Right s) (hk : k < S.vols.length) (hj : j < S.vols[k].ids.length) (hv : s.vols = inN S.vols k j) :
    ∃ s', trimR s S.vols[k].name (j : Int) = ⟨s', 0⟩ ∧ Right s' ∧ s'.vols = inN S.vols k (j + 1) := by
  have hks : k < s.vols.length := by rw [hv, inN_length hk]; exact hk
  have he : s.vols[k] = ⟨S.vols[k].name, List.replicate j Bg.noId ++ S.vols[k].ids.drop j⟩ := by
    have := inN_at hk j
    rw [← hv, List.getElem?_eq_getElem hks] at this
    exact Option.some.inj this
  have hn : s.vols[k].name = S.vols[k].name := by rw [he]
  have hl : j < s.vols[k].ids.length := by
    rw [he]
    dsimp only
    rw [List.length_append, List.length_replicate, List.length_drop]
    omega
  refine ⟨hole s k j, ?_, hole_right h hks hl, ?_⟩
  · rw [← hn]
    exact trimR_ok (place_at h hks hl) (by unfold fd; rw [find_at h.srt hks]; rfl)
  · rw [hole_vols h hks hl, hv, inN_step hk hj]

/-- One volume more is dropped. -/
theorem drop_step {S s : St} {k : Nat} (h : Right s) (hk : k < S.vols.length) (hv : s.vols = S.vols.drop k) :
    ∃ s', dropR s S.vols[k].name = ⟨s', 0⟩ ∧ Right s' ∧ s'.vols = S.vols.drop (k + 1) := by
  have h0 : 0 < s.vols.length := by rw [hv, List.length_drop]; omega
  have he : s.vols[0] = S.vols[k] := by
    have e : s.vols[0]? = S.vols[k]? := by rw [hv, List.getElem?_drop, Nat.add_zero]
    rw [List.getElem?_eq_getElem h0, List.getElem?_eq_getElem hk] at e
    exact Option.some.inj e
  have hf := find_at h.srt h0
  rw [he] at hf
  have hd : dropR s S.vols[k].name = ⟨⟨s.vols[0].ids.foldl unuse s.bag, s.vols.eraseIdx 0⟩, 0⟩ := by
    unfold dropR
    rw [hf]
    dsimp only
    rw [List.getElem?_eq_getElem h0]
  have hr := drop_right h S.vols[k].name
  rw [hd] at hr
  refine ⟨_, hd, hr, ?_⟩
  show s.vols.eraseIdx 0 = _
  rw [hv, List.eraseIdx_zero, List.tail_drop]

/-- Where nothing is used the bag is empty. -/
theorem bag_empty {s : St} (h : Right s) (hn : ∀ v ∈ s.vols, ∀ id ∈ v.ids, id = Bg.noId) : s.bag = [] := by
  have he := (right_iff.1 h).1
  cases hb : s.bag with
  | nil => rfl
  | cons x t =>
    have hx : x ∈ s.bag := by rw [hb]; exact List.mem_cons_self
    have hu := he.used hx
    have hm := mem_cnt.1 hu
    unfold allIds at hm
    obtain ⟨v, hv, hi⟩ := List.mem_flatMap.1 hm
    exact absurd (hn v hv _ hi) (idOf_ne x)

theorem clN_empty (vs : List Vl) : ∀ v ∈ clN vs vs.length, ∀ id ∈ v.ids, id = Bg.noId := by
  unfold clN
  rw [List.take_length, List.drop_length, List.append_nil]
  intro v hv id hi
  obtain ⟨u, -, rfl⟩ := List.mem_map.1 hv
  exact List.eq_of_mem_replicate hi

end Go.Proofs.Ytenkdpogdfcbgaa.Vo

/- What is read behind a place that was written, plain. No program in sight. -/
namespace Go.Proofs.Ytenkdpogdfcbgaa.Vo
open Go.Proofs.Ytenkdpogdfcbgaa Go.Proofs.Ytenkdpogdfcbgaa.Bg

theorem setV_names (vs : List Vl) (i k : Nat) (z : Bg.Id) : (setV vs i k z).map Vl.name = vs.map Vl.name := by
  unfold setV
  split
  · rename_i v hv
    obtain ⟨hi, rfl⟩ := List.getElem?_eq_some_iff.1 hv
    rw [List.map_set]
    have : vs[i].name = (vs.map Vl.name)[i]'(by rw [List.length_map]; exact hi) := by rw [List.getElem_map]
    conv => lhs; arg 3; rw [this]
    rw [List.set_getElem_self]
  · rfl

theorem find_names {vs ws : List Vl} (h : vs.map Vl.name = ws.map Vl.name) (x : ByteArray) : find vs x = find ws x := by
  have e : ∀ l : List Vl, find l x = (l.map Vl.name).findIdx? (fun n => n.toList == x.toList) := fun l => by
    unfold find
    rw [List.findIdx?_map]
    rfl
  rw [e, e, h]

theorem mem_others {vs : List Vl} {i k j p : Nat} (hj : j < vs.length) (hp : p < vs[j].ids.length) (hne : ¬ (j = i ∧ p = k)) (hi : i < vs.length) : vs[j].ids[p] ∈ others vs i k := by
  unfold others
  rw [getD_vol hi]
  rcases Nat.lt_trichotomy j i with h | rfl | h
  · refine List.mem_append_left _ (List.mem_flatMap.2 ⟨vs[j], ?_, List.getElem_mem hp⟩)
    exact List.mem_take_iff_getElem.2 ⟨j, by omega, rfl⟩
  · refine List.mem_append_right _ (List.mem_append_left _ ?_)
    exact List.mem_eraseIdx_iff_getElem.2 ⟨p, hp, fun e => hne ⟨rfl, e⟩, rfl⟩
  · refine List.mem_append_right _ (List.mem_append_right _ (List.mem_flatMap.2 ⟨vs[j], ?_, List.getElem_mem hp⟩))
    exact List.mem_drop_iff_getElem.2 ⟨j - (i + 1), by omega, by congr 1; omega⟩

/-- Elsewhere all reads as it did. -/
theorem read_same {s s' : St} (h : Right s) (h' : Right s') {i k : Nat} {z : Bg.Id} (hi : i < s.vols.length) (hv : s'.vols = setV s.vols i k z)
    (hh : ∀ y t, 0 < cnt (others s.vols i k) y → Bg.Has s.bag y t → Bg.Has s'.bag y t) (name : ByteArray) (at_ : Int) (hne : ¬ (find s.vols name = some i ∧ at_ = (k : Int))) : readR s' name at_ = readR s name at_ := by
  have hf : find s'.vols name = find s.vols name := by rw [hv]; exact find_names (setV_names _ _ _ _) name
  cases hfi : find s.vols name with
  | none =>
    rw [hfi] at hf
    have e : placeE s name at_ = 4 := placeE_none hfi
    have e' : placeE s' name at_ = 4 := placeE_none hf
    rw [readR_bad (s := s') (by rw [e']; decide), readR_bad (s := s) (by rw [e]; decide), e, e']
  | some j =>
    rw [hfi] at hf
    obtain ⟨hj, hn, -⟩ := List.findIdx?_eq_some_iff_getElem.1 hfi
    have hn := called_iff.1 hn
    have hl' : s'.vols.length = s.vols.length := by rw [hv]; exact setV_len _ _ _ _
    have hj' : j < s'.vols.length := by rw [hl']; exact hj
    have hn' : s'.vols[j].name = name := by
      obtain ⟨_, e, -⟩ := List.findIdx?_eq_some_iff_getElem.1 hf
      exact called_iff.1 e
    have hs : s'.vols[j]? = if i = j then some ⟨s.vols[j].name, s.vols[j].ids.set k z⟩ else some s.vols[j] := by
      rw [hv]
      by_cases hij : i = j
      · subst hij
        rw [if_pos rfl, setV_at hi]
      · rw [if_neg hij, setV_ne hij, List.getElem?_eq_getElem hj]
    have hids : s'.vols[j].ids = if i = j then s.vols[j].ids.set k z else s.vols[j].ids := by
      rw [List.getElem?_eq_getElem hj'] at hs
      by_cases hij : i = j
      · rw [if_pos hij] at hs ⊢
        exact congrArg Vl.ids (Option.some.inj hs)
      · rw [if_neg hij] at hs ⊢
        exact congrArg Vl.ids (Option.some.inj hs)
    have hlen : s'.vols[j].ids.length = s.vols[j].ids.length := by
      rw [hids]
      split
      · exact List.length_set ..
      · rfl
    by_cases hb : at_ < 0 ∨ (s.vols[j].ids.length : Int) ≤ at_
    · have e : placeE s name at_ = 1 := by
        unfold placeE
        rw [hfi]
        dsimp only
        rw [List.getElem?_eq_getElem hj]
        exact if_pos hb
      have e' : placeE s' name at_ = 1 := by
        unfold placeE
        rw [hf]
        dsimp only
        rw [List.getElem?_eq_getElem hj']
        exact if_pos (by rw [hlen]; exact hb)
      rw [readR_bad (s := s') (by rw [e']; decide), readR_bad (s := s) (by rw [e]; decide), e, e']
    · obtain ⟨p, rfl⟩ : ∃ p : Nat, at_ = (p : Int) := ⟨at_.toNat, by omega⟩
      have hp : p < s.vols[j].ids.length := by omega
      have hp' : p < s'.vols[j].ids.length := by rw [hlen]; exact hp
      have r := read_at h hj hp
      have r' := read_at h' hj' hp'
      rw [hn] at r
      rw [hn'] at r'
      have hne2 : ¬ (j = i ∧ p = k) := fun ⟨e1, e2⟩ => hne ⟨by rw [hfi, e1], by rw [e2]⟩
      have hq : s'.vols[j].ids[p] = s.vols[j].ids[p] := by
        have e : s'.vols[j].ids[p]? = s.vols[j].ids[p]? := by
          rw [hids]
          split
          · rename_i hij
            rw [List.getElem?_set_ne (fun e => hne2 ⟨hij.symm, e.symm⟩)]
          · rfl
        rw [List.getElem?_eq_getElem hp', List.getElem?_eq_getElem hp] at e
        exact Option.some.inj e
      have hm := mem_others hj hp hne2 hi
      rw [r, r', hq]
      generalize hx : s.vols[j].ids[p] = q at *
      rcases (h.vol _ (List.getElem_mem hj)).ids _ (List.getElem_mem hp) with e | ⟨x, hx2, e⟩
      · rw [hx] at e
        subst e
        rw [if_neg (by decide), if_neg (by decide)]
      · rw [hx] at e
        have h1 : Bg.Has s.bag q x.text := has_iff.2 ⟨x, hx2, e, rfl⟩
        have h2 := hh q x.text (cnt_pos hm) h1
        rw [(Bg.getR_iff h.bag).2 h1, (Bg.getR_iff h'.bag).2 h2]

/-- What a trim leaves to be read. -/
theorem hole_read {s : St} (h : Right s) {i k : Nat} (hi : i < s.vols.length) (hk : k < s.vols[i].ids.length) :
    readR (hole s i k) s.vols[i].name (k : Int) = (Bg.noText, 0) ∧ ∀ name (at_ : Int), ¬ (find s.vols name = some i ∧ at_ = (k : Int)) → readR (hole s i k) name at_ = readR s name at_ := by
  have hr := hole_right h hi hk
  have hv := hole_vols h hi hk
  obtain ⟨hi', hn, hl⟩ := hole_vol (k := k) hi
  have hk' : k < (hole s i k).vols[i].ids.length := by rw [hl]; exact hk
  obtain ⟨-, -, -, hh⟩ := hole_exact h hi hk
  refine ⟨?_, fun name at_ hne => read_same h hr hi hv (fun y t hy ht => (hh y t).2 ⟨ht, hy⟩) name at_ hne⟩
  have r := read_at hr hi' hk'
  rw [hn] at r
  rw [r]
  have e : (hole s i k).vols[i].ids[k] = Bg.noId := by
    have e1 : (hole s i k).vols[i]? = some ⟨s.vols[i].name, s.vols[i].ids.set k Bg.noId⟩ := by rw [hv]; exact setV_at hi
    rw [List.getElem?_eq_getElem hi'] at e1
    have e2 := congrArg Vl.ids (Option.some.inj e1)
    have e3 : (hole s i k).vols[i].ids[k]? = some Bg.noId := by
      rw [e2]
      exact List.getElem?_set_self hk
    rw [List.getElem?_eq_getElem hk'] at e3
    exact Option.some.inj e3
  have e' : ((hole s i k).vols[i].ids[k]).is = false := congrArg Bg.Id.is e
  exact if_neg (fun h => by rw [e'] at h; cases h)

theorem setV_id {vs : List Vl} {i k : Nat} {z : Bg.Id} (hi : i < vs.length) (hk : k < vs[i].ids.length) : ∃ (hi' : i < (setV vs i k z).length) (hk' : k < (setV vs i k z)[i].ids.length), (setV vs i k z)[i].name = vs[i].name ∧ (setV vs i k z)[i].ids[k] = z := by
  have hi' : i < (setV vs i k z).length := by rw [setV_len]; exact hi
  have e : (setV vs i k z)[i] = ⟨vs[i].name, vs[i].ids.set k z⟩ := by
    have e1 := setV_at (k := k) (id := z) hi
    rw [List.getElem?_eq_getElem hi'] at e1
    exact Option.some.inj e1
  have e2 := congrArg Vl.ids e
  dsimp only at e2
  have hk' : k < (setV vs i k z)[i].ids.length := by rw [e2, List.length_set]; exact hk
  have e0 := congrArg Vl.name e
  refine ⟨hi', hk', e0, ?_⟩
  have e3 : (setV vs i k z)[i].ids[k]? = some z := by rw [e2]; exact List.getElem?_set_self hk
  rw [List.getElem?_eq_getElem hk'] at e3
  exact Option.some.inj e3

/-- What a write leaves to be read. -/
theorem write_read {s : St} (h : Right s) {i k : Nat} {t : ByteArray} (hi : i < s.vols.length) (hk : k < s.vols[i].ids.length) (he : (putR Pr (hole s i k).bag t).e = 0) :
    readR ⟨(putR Pr (hole s i k).bag t).l, setV (hole s i k).vols i k (putR Pr (hole s i k).bag t).id⟩ s.vols[i].name (k : Int) = (t, 0) ∧
    ∀ name (at_ : Int), ¬ (find s.vols name = some i ∧ at_ = (k : Int)) → readR ⟨(putR Pr (hole s i k).bag t).l, setV (hole s i k).vols i k (putR Pr (hole s i k).bag t).id⟩ name at_ = readR s name at_ := by
  have hr := write_right h hi hk he
  have hp := put_ok he
  obtain ⟨hi', hn, hl⟩ := hole_vol (k := k) hi
  have hk' : k < (hole s i k).vols[i].ids.length := by rw [hl]; exact hk
  constructor
  · obtain ⟨j1, j2, j3, j4⟩ := setV_id (z := (putR Pr (hole s i k).bag t).id) hi' hk'
    have r := read_at hr (i := i) (j := k) j1 j2
    dsimp only at r
    rw [j3, hn] at r
    rw [r, j4, if_pos hp.is]
    exact (getR_iff hp.good).2 hp.has
  · intro name at_ hne
    rw [← (hole_read h hi hk).2 name at_ hne]
    have hf : find (hole s i k).vols name = find s.vols name := by rw [hole_vols h hi hk]; exact find_names (setV_names _ _ _ _) name
    exact read_same (hole_right h hi hk) hr hi' rfl (fun y t _ ht => hp.more y t ht) name at_ (by rw [hf]; exact hne)

end Go.Proofs.Ytenkdpogdfcbgaa.Vo

/- What trims and writes answer and leave to be read, plain: at the place and elsewhere. No program in sight. -/
namespace Go.Proofs.Ytenkdpogdfcbgaa.Vo
open Go.Proofs.Ytenkdpogdfcbgaa Go.Proofs.Ytenkdpogdfcbgaa.Bg

/-- What a trim and a write at a place answer, and what is read behind them. -/
theorem trim_write {s : St} (h : Right s) (name : ByteArray) (at_ : Int) (t : ByteArray) :
    ((trimR s name at_).e ≠ 0 ∧ (writeR s name at_ t).e = (trimR s name at_).e) ∨
    ((trimR s name at_).e = 0 ∧ readR (trimR s name at_).s name at_ = (Bg.noText, 0) ∧ (∀ also other, ¬ (name = also ∧ at_ = other) → readR (trimR s name at_).s also other = readR s also other) ∧
      (((writeR s name at_ t).e = 0 ∧ readR (writeR s name at_ t).s name at_ = (t, 0) ∧ ∀ also other, ¬ (name = also ∧ at_ = other) → readR (writeR s name at_ t).s also other = readR s also other) ∨
        (writeR s name at_ t).e ≠ 0 ∧ ((writeR s name at_ t).e = 8 ∨ (writeR s name at_ t).e = 2))) := by
  by_cases hp : placeE s name at_ = 0
  · obtain ⟨i, k, hi, hk, hf, hk', hfd, hkj⟩ := place_parts hp
    refine Or.inr ?_
    have hne : ∀ also other, ¬ (name = also ∧ at_ = other) → ¬ (find s.vols also = some i ∧ other = (k : Int)) := fun also other hh ⟨e1, e2⟩ => hh (by
      obtain ⟨_, e, -⟩ := List.findIdx?_eq_some_iff_getElem.1 e1
      have e := called_iff.1 e
      obtain ⟨_, e', -⟩ := List.findIdx?_eq_some_iff_getElem.1 hf
      have e' := called_iff.1 e'
      exact ⟨e'.symm.trans e, by omega⟩)
    have hnm : s.vols[i].name = name := by
      obtain ⟨_, e', -⟩ := List.findIdx?_eq_some_iff_getElem.1 hf
      exact called_iff.1 e'
    have hT : trimR s name at_ = ⟨hole s i k, 0⟩ := by unfold trimR; rw [if_neg (by rw [hp]; decide), hfd, hkj]
    obtain ⟨r1, r2⟩ := hole_read h hi hk
    rw [hnm, ← hk'] at r1
    rw [hT]
    refine ⟨rfl, r1, fun also other hh => r2 also other (hne also other hh), ?_⟩
    by_cases he : (putR Pr (hole s i k).bag t).e = 0
    · have hW : writeR s name at_ t = ⟨⟨(putR Pr (hole s i k).bag t).l, setV (hole s i k).vols i k (putR Pr (hole s i k).bag t).id⟩, 0⟩ := by
        unfold writeR
        rw [if_neg (by rw [hp]; decide), hfd, hkj, if_neg (by rw [he]; decide)]
      obtain ⟨q1, q2⟩ := write_read (t := t) h hi hk he
      rw [hnm, ← hk'] at q1
      rw [hW]
      exact Or.inl ⟨rfl, q1, fun also other hh => q2 also other (hne also other hh)⟩
    · have hW : writeR s name at_ t = ⟨st0, (putR Pr (hole s i k).bag t).e⟩ := by
        unfold writeR
        rw [if_neg (by rw [hp]; decide), hfd, hkj, if_pos he]
      rw [hW]
      exact Or.inr ⟨he, (put_err he).2.2 (Bg.good_check (hole_right h hi hk).bag)⟩
  · refine Or.inl ⟨?_, ?_⟩
    · unfold trimR
      rw [if_pos hp]
      exact hp
    · unfold trimR writeR
      rw [if_pos hp, if_pos hp]

end Go.Proofs.Ytenkdpogdfcbgaa.Vo

/- A volume that is made and dropped leaves what was, plain. No program in sight. -/
namespace Go.Proofs.Ytenkdpogdfcbgaa.Vo
open Go.Proofs.Ytenkdpogdfcbgaa Go.Proofs.Ytenkdpogdfcbgaa.Bg

theorem unuse_noId (bag : List It) : unuse bag Bg.noId = bag := if_neg (by decide)
theorem unuse_noIds (bag : List It) (n : Nat) : (List.replicate n Bg.noId).foldl unuse bag = bag := by
  induction n with
  | zero => rfl
  | succ n ih => rw [List.replicate_succ, List.foldl_cons, unuse_noId, ih]

/-- Where a volume goes. -/
def posV (vs : List Vl) (v : Vl) : Nat := vs.countP fun u => decide (cmpN u.name v.name < 0)
theorem posV_le (vs : List Vl) (v : Vl) : posV vs v ≤ vs.length := List.countP_le_length
theorem insV_is (vs : List Vl) (v : Vl) : insV vs v = vs.take (posV vs v) ++ v :: vs.drop (posV vs v) := rfl
theorem insV_at (vs : List Vl) (v : Vl) : ∃ h : posV vs v < (insV vs v).length, (insV vs v)[posV vs v] = v := by
  have h0 := posV_le vs v
  have hl : (vs.take (posV vs v)).length = posV vs v := by rw [List.length_take]; omega
  have h : posV vs v < (insV vs v).length := by rw [insV_length]; omega
  refine ⟨h, ?_⟩
  have e : (insV vs v)[posV vs v]? = some v := by
    rw [insV_is, List.getElem?_append_right (by rw [hl]; exact Nat.le_refl _), hl, Nat.sub_self]
    rfl
  rw [List.getElem?_eq_getElem h] at e
  exact Option.some.inj e
theorem insV_erase (vs : List Vl) (v : Vl) : (insV vs v).eraseIdx (posV vs v) = vs := by
  have h0 := posV_le vs v
  have hl : (vs.take (posV vs v)).length = posV vs v := by rw [List.length_take]; omega
  rw [insV_is, List.eraseIdx_append_of_length_le (by rw [hl]; exact Nat.le_refl _), hl, Nat.sub_self, List.eraseIdx_zero, List.tail_cons, List.take_append_drop]

theorem make_is {s : St} {name : ByteArray} {k : Int} (h : (makeR s name k).e = 0) : makeR s name k = ⟨⟨s.bag, insV s.vols ⟨name, List.replicate k.toNat Bg.noId⟩⟩, 0⟩ := by
  unfold makeR at h ⊢
  split
  · rename_i h1
    rw [if_pos h1] at h
    cases h
  · rename_i h1
    rw [if_neg h1] at h
    split
    · rename_i h2
      rw [if_pos h2] at h
      exact absurd h h2
    · rfl

theorem make_drop {s : St} (hR : Right s) {name : ByteArray} {k : Int} (h : (makeR s name k).e = 0) : dropR (makeR s name k).s name = ⟨s, 0⟩ := by
  have hr := make_right hR name k
  rw [make_is h] at hr ⊢
  obtain ⟨hi, hv⟩ := insV_at s.vols ⟨name, List.replicate k.toNat Bg.noId⟩
  have hf := find_at hr.srt hi
  rw [hv] at hf
  dsimp only at hf ⊢
  unfold dropR
  dsimp only
  rw [hf]
  dsimp only
  rw [List.getElem?_eq_getElem hi, hv]
  dsimp only
  rw [unuse_noIds, insV_erase]

theorem clone_is {s : St} {name nm2 : ByteArray} (h : (cloneR s name nm2).e = 0) : ∃ (i : Nat) (hi : i < s.vols.length), find s.vols name = some i ∧ cloneR s name nm2 = ⟨⟨s.vols[i].ids.foldl reuse s.bag, insV s.vols ⟨nm2, s.vols[i].ids⟩⟩, 0⟩ := by
  cases hf : find s.vols name with
  | none =>
    unfold cloneR at h
    rw [hf] at h
    cases h
  | some i =>
    obtain ⟨hi, -⟩ := List.findIdx?_eq_some_iff_getElem.1 hf
    have e : cloneR s name nm2 = if freshE s.vols nm2 ≠ 0 then ⟨st0, freshE s.vols nm2⟩ else ⟨⟨s.vols[i].ids.foldl reuse s.bag, insV s.vols ⟨nm2, s.vols[i].ids⟩⟩, 0⟩ := by
      unfold cloneR
      rw [hf]
      dsimp only
      rw [List.getElem?_eq_getElem hi]
    refine ⟨i, hi, rfl, ?_⟩
    rw [e] at h ⊢
    split
    · rename_i h2
      rw [if_pos h2] at h
      exact absurd h h2
    · rfl

/-- A clone that is dropped again leaves what was. -/
theorem clone_drop {s : St} (hR : Right s) {name nm2 : ByteArray} (h : (cloneR s name nm2).e = 0) : dropR (cloneR s name nm2).s nm2 = ⟨s, 0⟩ ∧ (cloneR s name nm2).s.bag.length = s.bag.length := by
  have hr := clone_right hR name nm2
  obtain ⟨i, hi, -, e⟩ := clone_is h
  rw [e] at hr ⊢
  obtain ⟨he, hv⟩ := right_iff.1 hR
  have hl := allIds_len s.vols hv
  have hi32 : s.vols[i].ids.length ≤ 32 := (hR.vol _ (List.getElem_mem hi)).len
  obtain ⟨u1, u2, u3⟩ := fold_reuse (ids := s.vols[i].ids) he (fun id h => List.mem_flatMap.2 ⟨s.vols[i], List.getElem_mem hi, h⟩) (by omega)
  obtain ⟨w1, w2⟩ := fold_unuse u1
  have hb : s.vols[i].ids.foldl unuse (s.vols[i].ids.foldl reuse s.bag) = s.bag := exact_ext w1 he (fun _ => rfl) fun id t => by
    rw [w2, u2]
    refine ⟨fun h => h.1, fun h => ⟨h, ?_⟩⟩
    obtain ⟨x, hx, rfl, -⟩ := has_iff.1 h
    exact he.used hx
  refine ⟨?_, u3⟩
  obtain ⟨hp, hq⟩ := insV_at s.vols ⟨nm2, s.vols[i].ids⟩
  have hf := find_at hr.srt hp
  rw [hq] at hf
  dsimp only at hf ⊢
  unfold dropR
  dsimp only
  rw [hf]
  dsimp only
  rw [List.getElem?_eq_getElem hp, hq]
  dsimp only
  rw [hb, insV_erase]

end Go.Proofs.Ytenkdpogdfcbgaa.Vo
