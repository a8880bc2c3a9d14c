/- Writing twice, writing apart, clones: what states are and read then, plain. No program in sight. -/
import Derived.Test.YtenkdpogdfcbgaaVolRP
import Derived.Test.YtenkdpogdfcbgaaTxW
namespace Go.Proofs.Ytenkdpogdfcbgaa.Vo
open Go.Proofs.Ytenkdpogdfcbgaa Go.Proofs.Ytenkdpogdfcbgaa.Bg

theorem setV_setV (vs : List Vl) (i k : Nat) (z z' : Bg.Id) : setV (setV vs i k z) i k z' = setV vs i k z' := by
  by_cases hi : i < vs.length
  · have h1 := setV_at (k := k) (id := z) hi
    unfold setV at h1 ⊢
    rw [List.getElem?_eq_getElem hi] at h1 ⊢
    dsimp only at h1 ⊢
    rw [h1]
    dsimp only
    rw [List.set_set, List.set_set]
  · have h0 : vs[i]? = none := List.getElem?_eq_none_iff.2 (by omega)
    have e : ∀ z, setV vs i k z = vs := fun z => by
      unfold setV
      rw [h0]
    rw [e, e]

/-- What was written is taken away again: nothing is left of it. -/
theorem write_hole {s : St} (h : Right s) {i k : Nat} {t : ByteArray} (hi : i < s.vols.length) (hk : k < s.vols[i].ids.length) (he : (putR Pr (hole s i k).bag t).e = 0) :
    hole ⟨(putR Pr (hole s i k).bag t).l, setV (hole s i k).vols i k (putR Pr (hole s i k).bag t).id⟩ i k = hole s i k := by
  obtain ⟨h1, -, -, -⟩ := hole_exact h hi hk
  have hp := put_ok he
  obtain ⟨p1, -⟩ := exact_put h1 (exact_len (right_iff.1 h).2 hi hk) he
  obtain ⟨hi', -, hl⟩ := hole_vol (k := k) hi
  have hk' : k < (hole s i k).vols[i].ids.length := by rw [hl]; exact hk
  have hv := hole_vols h hi hk
  generalize putR Pr (hole s i k).bag t = R at *
  obtain ⟨j1, j2, -, j4⟩ := setV_id (z := R.id) hi' hk'
  have hid : idAt ⟨R.l, setV (hole s i k).vols i k R.id⟩ i k = R.id := (idAt_get (s := ⟨R.l, setV (hole s i k).vols i k R.id⟩) j1 j2).trans j4
  have hb : unuse R.l R.id = (hole s i k).bag := exact_ext (exact_unuse p1).1 h1 (fun _ => rfl) fun id u => by
    rw [(exact_unuse p1).2]
    constructor
    · rintro ⟨q1, q2⟩
      rcases h1.ids id (mem_cnt.1 q2) with rfl | ⟨x, hx, rfl⟩
      · obtain ⟨y, -, e, -⟩ := has_iff.1 q1
        exact absurd e.symm (idOf_ne y)
      · have m : Bg.Has (hole s i k).bag (idOf x) x.text := has_iff.2 ⟨x, hx, rfl, rfl⟩
        rw [Bg.Has.inj p1.good q1 (hp.more _ _ m)]
        exact m
    · intro q
      obtain ⟨x, hx, rfl, -⟩ := has_iff.1 q
      exact ⟨hp.more _ _ q, h1.used hx⟩
  have e : hole ⟨R.l, setV (hole s i k).vols i k R.id⟩ i k = ⟨unuse R.l R.id, setV (setV (hole s i k).vols i k R.id) i k Bg.noId⟩ := by
    rw [show hole ⟨R.l, setV (hole s i k).vols i k R.id⟩ i k = if (idAt ⟨R.l, setV (hole s i k).vols i k R.id⟩ i k).is = true then ⟨unuse R.l (idAt ⟨R.l, setV (hole s i k).vols i k R.id⟩ i k), setV (setV (hole s i k).vols i k R.id) i k Bg.noId⟩ else ⟨R.l, setV (hole s i k).vols i k R.id⟩ from rfl, hid, if_pos hp.is]
  rw [e, hb, setV_setV]
  have e2 : setV (hole s i k).vols i k Bg.noId = (hole s i k).vols := by rw [hv, setV_setV]
  rw [e2]

/-- What a write that goes well is. -/
theorem write_is {s : St} {name : ByteArray} {at_ : Int} {t : ByteArray} (he : (writeR s name at_ t).e = 0) :
    ∃ (i k : Nat) (hi : i < s.vols.length) (_ : k < s.vols[i].ids.length), find s.vols name = some i ∧ s.vols[i].name = name ∧ at_ = (k : Int) ∧ (putR Pr (hole s i k).bag t).e = 0 ∧
      writeR s name at_ t = ⟨⟨(putR Pr (hole s i k).bag t).l, setV (hole s i k).vols i k (putR Pr (hole s i k).bag t).id⟩, 0⟩ := by
  by_cases hp : placeE s name at_ = 0
  · obtain ⟨i, k, hi, hk, hf, hk', hfd, hkj⟩ := place_parts hp
    have hnm : s.vols[i].name = name := by
      obtain ⟨_, e', -⟩ := List.findIdx?_eq_some_iff_getElem.1 hf
      exact called_iff.1 e'
    refine ⟨i, k, hi, hk, hf, hnm, hk', ?_⟩
    unfold writeR at he ⊢
    rw [if_neg (by rw [hp]; decide), hfd, hkj] at he ⊢
    by_cases h0 : (putR Pr (hole s i k).bag t).e = 0
    · rw [if_neg (by rw [h0]; decide)]
      exact ⟨h0, rfl⟩
    · rw [if_pos h0] at he
      exact absurd he h0
  · unfold writeR at he
    rw [if_pos hp] at he
    exact absurd he hp

/-- A block written twice is as if it were written once, the last time. -/
theorem write_again {s : St} (h : Right s) {name : ByteArray} {at_ : Int} {t : ByteArray} (u : ByteArray) (he : (writeR s name at_ t).e = 0) : writeR (writeR s name at_ t).s name at_ u = writeR s name at_ u := by
  have hr := vwrite_right h name at_ t
  obtain ⟨i, k, hi, hk, hf, hn, rfl, h0, hw⟩ := write_is he
  have hh := write_hole h hi hk h0
  obtain ⟨hi', hn', hl⟩ := hole_vol (k := k) hi
  have hk' : k < (hole s i k).vols[i].ids.length := by rw [hl]; exact hk
  obtain ⟨j1, j2, j3, -⟩ := setV_id (z := (putR Pr (hole s i k).bag t).id) hi' hk'
  rw [hw] at hr ⊢
  dsimp only at hr ⊢
  generalize hX : (⟨(putR Pr (hole s i k).bag t).l, setV (hole s i k).vols i k (putR Pr (hole s i k).bag t).id⟩ : St) = X at *
  have hXv : X.vols = setV (hole s i k).vols i k (putR Pr (hole s i k).bag t).id := by rw [← hX]
  have x1 : i < X.vols.length := by rw [hXv]; exact j1
  have x3 : X.vols[i].name = name := by
    rw [← hn, ← hn', ← j3]
    congr 1
    congr 1
  have x2 : k < X.vols[i].ids.length := by
    have : X.vols[i].ids = (setV (hole s i k).vols i k (putR Pr (hole s i k).bag t).id)[i].ids := by congr 1; congr 1
    rw [this]; exact j2
  have pX := place_at hr x1 x2
  rw [x3] at pX
  have fX := find_at hr.srt x1
  rw [x3] at fX
  have pS := place_at h hi hk
  rw [hn] at pS
  have e1 : fd X name = i := by unfold fd; rw [fX]; rfl
  have e2 : fd s name = i := by unfold fd; rw [hf]; rfl
  unfold writeR
  rw [pX, pS, e1, e2, Int.toNat_natCast, hh]

/-- Volumes with the same places whose texts are there read alike. -/
theorem texts_same {s s' : St} (h : Right s) (h' : Right s') {i j : Nat} (hi : i < s.vols.length) (hj : j < s'.vols.length) (he : s'.vols[j].ids = s.vols[i].ids) (hh : ∀ y t, Bg.Has s.bag y t → Bg.Has s'.bag y t) :
    textsR s' s'.vols[j].name = textsR s s.vols[i].name := by
  unfold textsR
  rw [blocks_at h hi, blocks_at h' hj, he]
  refine List.map_congr_left fun p hp => ?_
  rw [List.mem_range] at hp
  dsimp only at hp
  have hp' : p < s'.vols[j].ids.length := by rw [he]; exact hp
  have hq : s'.vols[j].ids[p] = s.vols[i].ids[p] := by
    have e : s'.vols[j].ids[p]? = s.vols[i].ids[p]? := by rw [he]
    rw [List.getElem?_eq_getElem hp', List.getElem?_eq_getElem hp] at e
    exact Option.some.inj e
  rw [read_at h hi hp, read_at h' hj hp', hq]
  generalize hx : s.vols[i].ids[p] = q at *
  rcases (h.vol _ (List.getElem_mem hi)).ids _ (List.getElem_mem hp) with e | ⟨x, hx2, e⟩
  · rw [hx] at e
    subst e
    rw [if_neg (by decide), if_neg (by decide)]
  · rw [hx] at e
    have h1 : Bg.Has s.bag q x.text := has_iff.2 ⟨x, hx2, e, rfl⟩
    rw [(Bg.getR_iff h.bag).2 h1, (Bg.getR_iff h'.bag).2 (hh q x.text h1)]

/-- Who has as many places and reads alike has the same texts. -/
theorem texts_eq {s s' : St} {n n' : ByteArray} (hl : (blocksR s' n').1.length = (blocksR s n).1.length) (hr : ∀ at_, readR s' n' at_ = readR s n at_) : textsR s' n' = textsR s n := by
  unfold textsR
  rw [hl]
  exact List.map_congr_left fun p _ => by rw [hr]

/-- A write leaves all volumes their size. -/
theorem setV_blocks {s s' : St} {i k : Nat} {z : Bg.Id} (hv : s'.vols = setV s.vols i k z) (name : ByteArray) : (blocksR s' name).1.length = (blocksR s name).1.length := by
  have hf : find s'.vols name = find s.vols name := by rw [hv]; exact find_names (setV_names _ _ _ _) name
  unfold blocksR
  rw [hf]
  cases find s.vols name with
  | none => rfl
  | some j =>
    dsimp only
    have hl' : s'.vols.length = s.vols.length := by rw [hv]; exact setV_len _ _ _ _
    by_cases hj : j < s.vols.length
    · have hj' : j < s'.vols.length := by rw [hl']; exact hj
      have hs : s'.vols[j]? = if i = j then some ⟨s.vols[j].name, s.vols[j].ids.set k z⟩ else some s.vols[j] := by
        rw [hv]
        by_cases hij : i = j
        · subst hij
          rw [if_pos rfl, setV_at hj]
        · rw [if_neg hij, setV_ne hij, List.getElem?_eq_getElem hj]
      rw [hs, List.getElem?_eq_getElem hj]
      by_cases hij : i = j
      · rw [if_pos hij]
        dsimp only
        rw [List.length_set]
      · rw [if_neg hij]
    · rw [List.getElem?_eq_none_iff.2 (show s.vols.length ≤ j by omega), List.getElem?_eq_none_iff.2 (show s'.vols.length ≤ j by omega)]

theorem write_blocks {s : St} (h : Right s) {name : ByteArray} {at_ : Int} {t : ByteArray} (he : (writeR s name at_ t).e = 0) (nm : ByteArray) : (blocksR (writeR s name at_ t).s nm).1.length = (blocksR s nm).1.length := by
  obtain ⟨i, k, hi, hk, hf, hn, rfl, h0, hw⟩ := write_is he
  rw [hw]
  refine setV_blocks (i := i) (k := k) (z := (putR Pr (hole s i k).bag t).id) ?_ nm
  show setV (hole s i k).vols i k _ = _
  rw [hole_vols h hi hk, setV_setV]

/-- Another volume reads as it did. -/
theorem write_other {s : St} (h : Right s) {name nm : ByteArray} {at_ : Int} {t : ByteArray} (he : (writeR s name at_ t).e = 0) (hne : name ≠ nm) : textsR (writeR s name at_ t).s nm = textsR s nm := by
  refine texts_eq (write_blocks h he nm) fun p => ?_
  rcases trim_write h name at_ t with ⟨h1, h2⟩ | ⟨-, -, -, h4⟩
  · exact absurd (h2.symm.trans he) h1
  · rcases h4 with ⟨-, -, h5⟩ | ⟨h5, -⟩
    · exact h5 nm p fun e => hne e.1
    · exact absurd he h5

/-- A clone reads as what was cloned, and that reads as it did. -/
theorem clone_texts {s : St} (h : Right s) {name nm2 : ByteArray} (he : (cloneR s name nm2).e = 0) : textsR (cloneR s name nm2).s nm2 = textsR s name ∧ textsR (cloneR s name nm2).s name = textsR s name ∧ name ≠ nm2 := by
  have hr := clone_right h name nm2
  obtain ⟨i, hi, hf, e⟩ := clone_is he
  have hnm : s.vols[i].name = name := by
    obtain ⟨_, e', -⟩ := List.findIdx?_eq_some_iff_getElem.1 hf
    exact called_iff.1 e'
  have hne : name ≠ nm2 := fun hh => by
    rw [hh] at hf
    have : freshE s.vols nm2 ≠ 0 := by
      unfold freshE
      rw [hf]
      split
      · decide
      · simp
    unfold cloneR at he
    rw [hh, hf] at he
    dsimp only at he
    rw [List.getElem?_eq_getElem hi] at he
    dsimp only at he
    rw [if_pos this] at he
    exact this he
  rw [e] at hr ⊢
  obtain ⟨hx, hv⟩ := right_iff.1 h
  have hl := allIds_len s.vols hv
  have hi32 : s.vols[i].ids.length ≤ 32 := (h.vol _ (List.getElem_mem hi)).len
  obtain ⟨-, u2, -⟩ := fold_reuse (ids := s.vols[i].ids) hx (fun id h => List.mem_flatMap.2 ⟨s.vols[i], List.getElem_mem hi, h⟩) (by omega)
  dsimp only at hr ⊢
  obtain ⟨hp, hq⟩ := insV_at s.vols ⟨nm2, s.vols[i].ids⟩
  have t1 := texts_same h hr hi hp (by dsimp only; rw [hq]) (fun y t hy => (u2 y t).2 hy)
  dsimp only at t1
  rw [hq, hnm] at t1
  refine ⟨t1, ?_, hne⟩
  have key : ∀ v ∈ s.vols, v ∈ insV s.vols ⟨nm2, s.vols[i].ids⟩ := fun v h3 => by
    have h4 : v ∈ s.vols.take (posV s.vols ⟨nm2, s.vols[i].ids⟩) ++ s.vols.drop (posV s.vols ⟨nm2, s.vols[i].ids⟩) := by rw [List.take_append_drop]; exact h3
    rw [insV_is]
    rw [List.mem_append] at h4 ⊢
    rcases h4 with h4 | h4
    · exact Or.inl h4
    · exact Or.inr (List.mem_cons_of_mem _ h4)
  have hm := key _ (List.getElem_mem hi)
  obtain ⟨p, hp', hq'⟩ := List.getElem_of_mem hm
  have t2 := texts_same h hr hi hp' (by dsimp only; rw [hq']) (fun y t hy => (u2 y t).2 hy)
  dsimp only at t2
  rw [hq', hnm] at t2
  exact t2

end Go.Proofs.Ytenkdpogdfcbgaa.Vo
