/- What copying the differences leaves, plain. No program in sight. -/
import Derived.Test.YteddendidjhmbaaCopyW
import Derived.Test.YteddendidjhmbaaVolApP
namespace Go.Proofs.Yteddendidjhmbaa.Vo
open Go.Proofs.Yteddendidjhmbaa Go.Proofs.Yteddendidjhmbaa.Bg

theorem has_same {l : List It} (h : Bg.Good l) {y z : Bg.Id} {t : ByteArray} (h1 : Bg.Has l y t) (h2 : Bg.Has l z t) : y = z := by
  obtain ⟨u, hu, rfl, e1⟩ := has_iff.1 h1
  obtain ⟨v, hv, rfl, e2⟩ := has_iff.1 h2
  obtain ⟨i, hi, rfl⟩ := List.getElem_of_mem hu
  obtain ⟨j, hj, rfl⟩ := List.getElem_of_mem hv
  have hp := List.pairwise_iff_getElem.1 h.txt
  rcases Nat.lt_trichotomy i j with h0 | rfl | h0
  · exact absurd (e1.trans e2.symm) (hp i j hi hj h0)
  · rfl
  · exact absurd (e2.trans e1.symm) (hp j i hj hi h0)

theorem setV_sub {vs : List Vl} {i k : Nat} {z : Bg.Id} (hi : i < vs.length) (hk : k < vs[i].ids.length) {y : Bg.Id} (hy : y ∈ allIds (setV vs i k z)) : y = z ∨ 0 < cnt (others vs i k) y := by
  have h1 := mem_cnt.2 hy
  rw [cnt_setV hi hk, cnt_cons] at h1
  by_cases h : z = y
  · exact Or.inl h.symm
  · rw [if_neg h] at h1
    exact Or.inr h1

/-- One place is copied. -/
theorem copy1_step {s : St} (h : Right s) {ia ib i : Nat} (ha : ia < s.vols.length) (hb : ib < s.vols.length) (hne : ia ≠ ib) (hia : i < s.vols[ia].ids.length) (hib : i < s.vols[ib].ids.length) {xs : List Bg.Id} (hx : xs = s.vols[ia].ids) :
    (copy1 xs s.vols[ia].name s.vols[ib].name s i).e = 8 ∨
    ((copy1 xs s.vols[ia].name s.vols[ib].name s i).e = 0 ∧ (copy1 xs s.vols[ia].name s.vols[ib].name s i).s.vols = setV s.vols ib i s.vols[ia].ids[i] ∧
      (∀ y ∈ allIds (copy1 xs s.vols[ia].name s.vols[ib].name s i).s.vols, y ∈ allIds s.vols) ∧
      ∀ y ∈ allIds (copy1 xs s.vols[ia].name s.vols[ib].name s i).s.vols, ∀ t, Bg.Has s.bag y t → Bg.Has (copy1 xs s.vols[ia].name s.vols[ib].name s i).s.bag y t) := by
  obtain ⟨hh1, hh2, hh3, hh4⟩ := hole_exact h hb hib
  have hv := hole_vols h hb hib
  have hmem : s.vols[ia].ids[i] ∈ allIds s.vols := mem_allIds.2 ⟨_, List.getElem_mem ha, List.getElem_mem hia⟩
  have hoth : s.vols[ia].ids[i] ∈ others s.vols ib i := mem_others ha hia (fun e => hne e.1) hb
  have hsub : ∀ y, 0 < cnt (others s.vols ib i) y → y ∈ allIds s.vols := fun y hy => mem_cnt.1 (by rw [cnt_others hb hib, cnt_cons]; omega)
  have hp := place_at h hb hib
  have hf := find_at h.srt hb
  have hfd : fd s s.vols[ib].name = ib := by unfold fd; rw [hf]; rfl
  have hc : copy1 xs s.vols[ia].name s.vols[ib].name s i = if s.vols[ia].ids[i].is = true then writeR s s.vols[ib].name (i : Int) (readR s s.vols[ia].name (i : Int)).1 else trimR s s.vols[ib].name (i : Int) := by
    unfold copy1
    rw [hx, if_neg (by omega), List.getD_eq_getElem?_getD, List.getElem?_eq_getElem hia, Option.getD_some]
  rw [hc]
  by_cases hz : s.vols[ia].ids[i].is = true
  · rw [if_pos hz]
    rcases (h.vol _ (List.getElem_mem ha)).ids _ (List.getElem_mem hia) with e | ⟨x, hxm, e⟩
    · rw [e] at hz; cases hz
    · have h1 : Bg.Has s.bag s.vols[ia].ids[i] x.text := has_iff.2 ⟨x, hxm, e, rfl⟩
      have hr : (readR s s.vols[ia].name (i : Int)).1 = x.text := by
        rw [read_at h ha hia, if_pos hz, (Bg.getR_iff h.bag).2 h1]
      have hts : x.text.size ≤ 64 := (one_fit (h.bag.one x hxm)).2.1
      rw [hr]
      have hg := (hole_right h hb hib).bag
      unfold writeR
      rw [if_neg (by rw [hp]; decide), hfd, Int.toNat_natCast]
      rcases put_two hg hts with h0 | h0
      · rw [if_neg (by rw [h0]; decide)]
        have pk := put_ok h0
        have hid : (putR Pr (hole s ib i).bag x.text).id = s.vols[ia].ids[i] := has_same pk.good pk.has (pk.more _ _ ((hh4 _ _).2 ⟨h1, cnt_pos hoth⟩))
        refine Or.inr ⟨rfl, ?_, ?_, ?_⟩
        · show setV (hole s ib i).vols ib i _ = _
          rw [hv, setV_setV, hid]
        · show ∀ y ∈ allIds (setV (hole s ib i).vols ib i _), _
          rw [hv, setV_setV, hid]
          intro y hy
          rcases setV_sub hb hib hy with rfl | h2
          · exact hmem
          · exact hsub y h2
        · show ∀ y ∈ allIds (setV (hole s ib i).vols ib i _), _
          rw [hv, setV_setV, hid]
          intro y hy t ht
          refine pk.more _ _ ((hh4 _ _).2 ⟨ht, ?_⟩)
          rcases setV_sub hb hib hy with rfl | h2
          · exact cnt_pos hoth
          · exact h2
      · rw [if_pos (by rw [h0]; decide)]
        exact Or.inl h0
  · rw [if_neg hz]
    have hn : s.vols[ia].ids[i] = Bg.noId := by
      rcases (h.vol _ (List.getElem_mem ha)).ids _ (List.getElem_mem hia) with e | ⟨x, -, e⟩
      · exact e
      · rw [e] at hz; exact absurd rfl hz
    rw [trimR_ok hp hfd, hn]
    refine Or.inr ⟨rfl, hv, ?_, ?_⟩
    · show ∀ y ∈ allIds (hole s ib i).vols, _
      rw [hv]
      intro y hy
      rcases setV_sub hb hib hy with rfl | h2
      · rw [← hn]; exact hmem
      · exact hsub y h2
    · show ∀ y ∈ allIds (hole s ib i).vols, _
      rw [hv]
      intro y hy t ht
      refine (hh4 _ _).2 ⟨ht, ?_⟩
      rcases setV_sub hb hib hy with rfl | h2
      · rw [← hn]; exact cnt_pos hoth
      · exact h2

/-- A volume with other ids. -/
def withIds (vs : List Vl) (i : Nat) (C : List Bg.Id) : List Vl := match vs[i]? with
  | some v => vs.set i ⟨v.name, C⟩
  | none => vs

theorem withIds_is {vs : List Vl} {i : Nat} (hi : i < vs.length) (C : List Bg.Id) : withIds vs i C = vs.set i ⟨vs[i].name, C⟩ := by
  unfold withIds
  rw [List.getElem?_eq_getElem hi]

theorem withIds_set {vs : List Vl} {i : Nat} (hi : i < vs.length) (C : List Bg.Id) (k : Nat) (z : Bg.Id) : setV (withIds vs i C) i k z = withIds vs i (C.set k z) := by
  rw [withIds_is hi, withIds_is hi]
  unfold setV
  rw [List.getElem?_set_self hi]
  dsimp only
  rw [List.set_set]

/-- Some places are copied. -/
theorem copyN_law {S : St} {ia ib : Nat} (ha : ia < S.vols.length) (hb : ib < S.vols.length) (hne : ia ≠ ib) : ∀ (l : List Nat) (s : St) (C : List Bg.Id), Right s → s.vols = withIds S.vols ib C → C.length = S.vols[ia].ids.length → (∀ i ∈ l, i < S.vols[ia].ids.length) →
    (copyN S.vols[ia].ids S.vols[ia].name S.vols[ib].name s l).e = 8 ∨
    ((copyN S.vols[ia].ids S.vols[ia].name S.vols[ib].name s l).e = 0 ∧ (copyN S.vols[ia].ids S.vols[ia].name S.vols[ib].name s l).s.vols = withIds S.vols ib (l.foldl (fun C i => C.set i (S.vols[ia].ids.getD i Bg.noId)) C) ∧
      (∀ y ∈ allIds (copyN S.vols[ia].ids S.vols[ia].name S.vols[ib].name s l).s.vols, y ∈ allIds s.vols) ∧
      ∀ y ∈ allIds (copyN S.vols[ia].ids S.vols[ia].name S.vols[ib].name s l).s.vols, ∀ t, Bg.Has s.bag y t → Bg.Has (copyN S.vols[ia].ids S.vols[ia].name S.vols[ib].name s l).s.bag y t)
  | [], s, C, hr, hv, hl, hin => Or.inr ⟨rfl, hv, fun _ h => h, fun _ _ _ h => h⟩
  | i :: l, s, C, hr, hv, hl, hin => by
    have hi := hin i List.mem_cons_self
    have la : ia < s.vols.length := by rw [hv, withIds_is hb, List.length_set]; exact ha
    have lb : ib < s.vols.length := by rw [hv, withIds_is hb, List.length_set]; exact hb
    have ea : s.vols[ia] = S.vols[ia] := by
      have e : s.vols[ia]? = S.vols[ia]? := by rw [hv, withIds_is hb, List.getElem?_set_ne (fun e => hne e.symm)]
      rw [List.getElem?_eq_getElem la, List.getElem?_eq_getElem ha] at e
      exact Option.some.inj e
    have eb : s.vols[ib] = ⟨S.vols[ib].name, C⟩ := by
      have e : s.vols[ib]? = some ⟨S.vols[ib].name, C⟩ := by rw [hv, withIds_is hb, List.getElem?_set_self hb]
      rw [List.getElem?_eq_getElem lb] at e
      exact Option.some.inj e
    have hia' : i < s.vols[ia].ids.length := by rw [ea]; exact hi
    have hst := copy1_step hr la lb hne (i := i) hia' (by rw [eb]; dsimp only; omega) (xs := S.vols[ia].ids) (by rw [ea])
    have hs1 : setV s.vols ib i s.vols[ia].ids[i] = withIds S.vols ib (C.set i (S.vols[ia].ids.getD i Bg.noId)) := by
      have e : s.vols[ia].ids[i] = S.vols[ia].ids.getD i Bg.noId := by
        have e2 : s.vols[ia].ids[i]? = S.vols[ia].ids[i]? := by rw [ea]
        rw [List.getElem?_eq_getElem hia'] at e2
        rw [List.getD_eq_getElem?_getD, ← e2]
        rfl
      rw [e, hv, withIds_set hb]
    rw [hs1] at hst
    rw [ea, eb] at hst
    dsimp only at hst
    have hrn := copy1_right (xs := S.vols[ia].ids) (nm1 := S.vols[ia].name) (nm2 := S.vols[ib].name) hr i
    have hd : copyN S.vols[ia].ids S.vols[ia].name S.vols[ib].name s (i :: l) = if (copy1 S.vols[ia].ids S.vols[ia].name S.vols[ib].name s i).e ≠ 0 then ⟨st0, (copy1 S.vols[ia].ids S.vols[ia].name S.vols[ib].name s i).e⟩ else copyN S.vols[ia].ids S.vols[ia].name S.vols[ib].name (copy1 S.vols[ia].ids S.vols[ia].name S.vols[ib].name s i).s l := rfl
    rw [hd]
    generalize copy1 S.vols[ia].ids S.vols[ia].name S.vols[ib].name s i = R at *
    rcases hst with h8 | ⟨h0, h1, h2, h3⟩
    · rw [if_pos (by rw [h8]; decide)]
      exact Or.inl h8
    · rw [if_neg (by rw [h0]; decide)]
      rcases copyN_law ha hb hne l R.s _ hrn h1 (by rw [List.length_set]; exact hl) (fun j hj => hin j (List.mem_cons_of_mem _ hj)) with q | ⟨q0, q1, q2, q3⟩
      · exact Or.inl q
      · exact Or.inr ⟨q0, q1, fun y hy => h2 y (q2 y hy), fun y hy t ht => q3 y hy t (h3 y (q2 y hy) t ht)⟩

theorem fold_set {A : List Bg.Id} : ∀ (l : List Nat) (B : List Bg.Id), (∀ i ∈ l, i < A.length) → B.length = A.length →
    (l.foldl (fun C i => C.set i (A.getD i Bg.noId)) B).length = A.length ∧ ∀ j, (l.foldl (fun C i => C.set i (A.getD i Bg.noId)) B).getD j Bg.noId = if j ∈ l then A.getD j Bg.noId else B.getD j Bg.noId
  | [], B, _, hl => ⟨hl, fun j => by rw [if_neg List.not_mem_nil]; rfl⟩
  | i :: l, B, hin, hl => by
    have hi := hin i List.mem_cons_self
    obtain ⟨h1, h2⟩ := fold_set l (B.set i (A.getD i Bg.noId)) (fun j hj => hin j (List.mem_cons_of_mem _ hj)) (by rw [List.length_set]; exact hl)
    refine ⟨h1, fun j => ?_⟩
    rw [List.foldl_cons, h2 j]
    by_cases hj : j ∈ l
    · rw [if_pos hj, if_pos (List.mem_cons_of_mem _ hj)]
    · rw [if_neg hj]
      by_cases hji : j = i
      · subst hji
        rw [if_pos List.mem_cons_self, List.getD_eq_getElem?_getD, List.getElem?_set_self (by omega)]
        rfl
      · rw [if_neg (fun h => by rcases List.mem_cons.1 h with h | h; exact hji h; exact hj h), List.getD_eq_getElem?_getD, List.getElem?_set_ne (fun e => hji e.symm), ← List.getD_eq_getElem?_getD]

/-- Where all that differs is taken over, all is alike. -/
theorem fold_diff {A B : List Bg.Id} (hl : A.length = B.length) : (dN A B A.length).foldl (fun C i => C.set i (A.getD i Bg.noId)) B = A := by
  obtain ⟨h1, h2⟩ := fold_set (A := A) (dN A B A.length) B (fun i hi => (mem_dN.1 hi).1) hl.symm
  refine List.ext_getElem h1 fun j hj hj' => ?_
  have e := h2 j
  rw [List.getD_eq_getElem?_getD, List.getElem?_eq_getElem hj, Option.getD_some] at e
  rw [e]
  by_cases hm : j ∈ dN A B A.length
  · rw [if_pos hm, List.getD_eq_getElem?_getD, List.getElem?_eq_getElem hj', Option.getD_some]
  · rw [if_neg hm]
    rw [mem_dN] at hm
    have : A.getD j Bg.noId = B.getD j Bg.noId := Classical.not_not.1 fun h => hm ⟨hj', h⟩
    rw [← this, List.getD_eq_getElem?_getD, List.getElem?_eq_getElem hj', Option.getD_some]

/-- Volumes with the same places whose used texts are there read alike. -/
theorem texts_used {s s' : St} (h : Right s) (h' : Right s') {i j : Nat} (hi : i < s.vols.length) (hj : j < s'.vols.length) (he : s'.vols[j].ids = s.vols[i].ids) (hh : ∀ y ∈ s.vols[i].ids, ∀ t, Bg.Has s.bag y t → Bg.Has s'.bag y t) :
    textsR s' s'.vols[j].name = textsR s s.vols[i].name := by
  unfold textsR
  rw [blocks_at h hi, blocks_at h' hj, he]
  refine List.map_congr_left fun p hp => ?_
  rw [List.mem_range] at hp
  dsimp only at hp
  have hp' : p < s'.vols[j].ids.length := by rw [he]; exact hp
  have hq : s'.vols[j].ids[p] = s.vols[i].ids[p] := by
    have e : s'.vols[j].ids[p]? = s.vols[i].ids[p]? := by rw [he]
    rw [List.getElem?_eq_getElem hp', List.getElem?_eq_getElem hp] at e
    exact Option.some.inj e
  have hm := List.getElem_mem hp
  rw [read_at h hi hp, read_at h' hj hp', hq]
  generalize hx : s.vols[i].ids[p] = q at *
  rcases (h.vol _ (List.getElem_mem hi)).ids _ (List.getElem_mem hp) with e | ⟨x, hx2, e⟩
  · rw [hx] at e
    subst e
    rw [if_neg (by decide), if_neg (by decide)]
  · rw [hx] at e
    have h1 : Bg.Has s.bag q x.text := has_iff.2 ⟨x, hx2, e, rfl⟩
    rw [(Bg.getR_iff h.bag).2 h1, (Bg.getR_iff h'.bag).2 (hh q hm x.text h1)]

theorem find_some {s : St} {n : ByteArray} (h : (blocksR s n).2 = 0) : ∃ (i : Nat) (hi : i < s.vols.length), find s.vols n = some i ∧ s.vols[i].name = n ∧ blocksR s n = (s.vols[i].ids, 0) := by
  cases hf : find s.vols n with
  | none =>
    unfold blocksR at h
    rw [hf] at h
    cases h
  | some i =>
    obtain ⟨hi, e, -⟩ := List.findIdx?_eq_some_iff_getElem.1 hf
    exact ⟨i, hi, rfl, called_iff.1 e, blocks_some hf hi⟩

/-- What copying all differences leaves. -/
theorem copy_all {S : St} (h : Right S) {a b : ByteArray} (hd : (diffR S a b).2 = 0) :
    (copyR S a b (diffR S a b).1).e = 8 ∨ ((copyR S a b (diffR S a b).1).e = 0 ∧ diffR (copyR S a b (diffR S a b).1).s a b = ([], 0) ∧ textsR (copyR S a b (diffR S a b).1).s b = textsR S a ∧ ∀ c, b ≠ c → textsR (copyR S a b (diffR S a b).1).s c = textsR S c) := by
  obtain ⟨da, db, dl, de⟩ := diff_ok hd
  obtain ⟨ia, ha, fa, na, ba⟩ := find_some da
  obtain ⟨ib, hb, fb, nb, bb⟩ := find_some db
  have hrx := copyR_right h a b (diffR S a b).1
  have hc : copyR S a b (diffR S a b).1 = copyN S.vols[ia].ids S.vols[ia].name S.vols[ib].name S (diffR S a b).1 := by
    unfold copyR
    rw [if_neg (fun h => h da), if_neg (fun h => h db), ba, na, nb]
  rw [ba, bb] at dl de
  dsimp only at dl de
  by_cases hne : ia = ib
  · subst hne
    have hn : (diffR S a b).1 = [] := by rw [de, dN_self]
    have hab : a = b := na.symm.trans nb
    subst hab
    rw [hc, hn]
    refine Or.inr ⟨rfl, ?_, rfl, fun _ _ => rfl⟩
    exact Prod.ext (diff_self hd) hd
  · have hin : ∀ i ∈ (diffR S a b).1, i < S.vols[ia].ids.length := fun i hi => by rw [de] at hi; exact (mem_dN.1 hi).1
    have hw : S.vols = withIds S.vols ib S.vols[ib].ids := by rw [withIds_is hb, List.set_getElem_self]
    have hl := copyN_law ha hb hne (diffR S a b).1 S S.vols[ib].ids h hw dl.symm hin
    rw [hc] at hrx ⊢
    rw [de, fold_diff dl, ← de] at hl
    generalize copyN S.vols[ia].ids S.vols[ia].name S.vols[ib].name S (diffR S a b).1 = X at *
    rcases hl with h8 | ⟨h0, h1, h2, h3⟩
    · exact Or.inl h8
    · have la : ia < X.s.vols.length := by rw [h1, withIds_is hb, List.length_set]; exact ha
      have lb : ib < X.s.vols.length := by rw [h1, withIds_is hb, List.length_set]; exact hb
      have oth : ∀ {v : Nat} (hv : v < S.vols.length), v ≠ ib → ∃ hv' : v < X.s.vols.length, X.s.vols[v] = S.vols[v] := fun {v} hv hvb => by
        have hv' : v < X.s.vols.length := by rw [h1, withIds_is hb, List.length_set]; exact hv
        refine ⟨hv', ?_⟩
        have e : X.s.vols[v]? = S.vols[v]? := by rw [h1, withIds_is hb, List.getElem?_set_ne (fun e => hvb e.symm)]
        rw [List.getElem?_eq_getElem hv', List.getElem?_eq_getElem hv] at e
        exact Option.some.inj e
      have ea : X.s.vols[ia] = S.vols[ia] := (oth ha hne).2
      have eb : X.s.vols[ib] = ⟨S.vols[ib].name, S.vols[ia].ids⟩ := by
        have e : X.s.vols[ib]? = some ⟨S.vols[ib].name, S.vols[ia].ids⟩ := by rw [h1, withIds_is hb, List.getElem?_set_self hb]
        rw [List.getElem?_eq_getElem lb] at e
        exact Option.some.inj e
      have b1 := blocks_at hrx la
      have b2 := blocks_at hrx lb
      rw [ea, na] at b1
      rw [eb] at b2
      dsimp only at b2
      rw [nb] at b2
      refine Or.inr ⟨h0, ?_, ?_, fun c hcb => ?_⟩
      · unfold diffR
        rw [b1, b2]
        rw [if_neg (fun h => h rfl), if_neg (fun h => h rfl), if_neg (fun h => h rfl), dN_self]
      · have t := texts_used h hrx ha lb (by rw [eb]) (fun y hy t ht => h3 y (mem_allIds.2 ⟨_, List.getElem_mem la, by rw [ea]; exact hy⟩) t ht)
        rw [eb, na] at t
        dsimp only at t
        rw [nb] at t
        exact t
      · rcases blocks_code S c with q | q
        · obtain ⟨ic, hic, fc, ncn, bc⟩ := find_some q
          have hcn : ic ≠ ib := fun e => by
            subst e
            exact hcb (nb.symm.trans ncn)
          obtain ⟨hv', ev⟩ := oth hic hcn
          have t := texts_used h hrx hic hv' (by rw [ev]) (fun y hy t ht => h3 y (mem_allIds.2 ⟨_, List.getElem_mem hv', by rw [ev]; exact hy⟩) t ht)
          rw [ev, ncn] at t
          exact t
        · have hnone : find S.vols c = none := by
            cases hf : find S.vols c with
            | none => rfl
            | some i =>
              obtain ⟨hi, -, -⟩ := List.findIdx?_eq_some_iff_getElem.1 hf
              rw [blocks_some hf hi] at q
              cases q
          have hnm : X.s.vols.map Vl.name = S.vols.map Vl.name := by
            rw [h1, withIds_is hb, List.map_set]
            dsimp only
            have : S.vols[ib].name = (S.vols.map Vl.name)[ib]'(by rw [List.length_map]; exact hb) := by rw [List.getElem_map]
            conv => lhs; arg 3; rw [this]
            rw [List.set_getElem_self]
          have hnone' : find X.s.vols c = none := by rw [find_names hnm c]; exact hnone
          unfold textsR
          rw [blocks_none hnone, blocks_none hnone']
          rfl

end Go.Proofs.Yteddendidjhmbaa.Vo
