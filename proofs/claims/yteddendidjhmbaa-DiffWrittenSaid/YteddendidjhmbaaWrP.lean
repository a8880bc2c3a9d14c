/- A map from numbers to truths; a clone that was written in places, plain. -/
import Derived.Test.YteddendidjhmbaaCopyP
namespace Go.Proofs.Yteddendidjhmbaa
open Go.RowKit Go.Maps Go.ChangeShapes Go.WideShapes

theorem Try.keyedInt : Keyed Try.prog 3 := int_keyed Try.underlying3
theorem Try.zeroBool (w : World) : (zeroValue 4).run Try.prog w = .ok (.bool false) w := by kernel_rfl

set_option maxRecDepth 100000 in
theorem plain_bool_inv {v : Value} {z : DataW Unit × List MemPlace} (h : plainElem Try.prog 4 v = some z) : ∃ x, v = .bool x ∧ z = (.lit (.bool x), []) := by
  unfold plainElem at h
  rw [Try.underlying4] at h
  cases v <;> simp at h
  exact ⟨_, rfl, h.symm⟩

/-- A map whose entries say whether a number stands in a list. -/
def Bm (W : World) (b : Nat) (N : Nat) (l : List Int) : Prop :=
  ∃ n D, n ≤ N ∧ W.ownsMap (H := Unit) Try.prog 3 (plainElem Try.prog 4) b n D ∧ ∀ a : Int, (Lit.int .i64 a).wf = true → D.atKey (.int .i64 a) (.lit (.bool false)) = .lit (.bool (decide (a ∈ l)))

theorem Bm.new (w : World) : Bm (w.alloc (.map #[] 0)) w.heap.size 0 [] := ⟨0, .map [], Nat.le_refl _, World.ownsMap_made _ _ _ _, fun a _ => by rw [decide_eq_false List.not_mem_nil]; rfl⟩

theorem Bm.keep {W W' : World} {b N : Nat} {l : List Int} (h : Bm W b N l) (hb : W'.heap[b]? = W.heap[b]?) : Bm W' b N l := by
  obtain ⟨n, D, h1, ⟨es, clock, h2, h3⟩, h4⟩ := h
  exact ⟨n, D, h1, ⟨es, clock, hb.trans h2, h3⟩, h4⟩

theorem Bm.lt {W : World} {b N : Nat} {l : List Int} (h : Bm W b N l) : b < W.heap.size := by
  obtain ⟨n, D, h1, h2, h4⟩ := h
  exact h2.lt

theorem Bm.on {W W' : World} {b N : Nat} {l : List Int} (h : Bm W b N l) (hb : Below W.heap.size W W') : Bm W' b N l := h.keep (hb.block b h.lt)

theorem Bm.more {W : World} {b N N' : Nat} {l : List Int} (h : Bm W b N l) (hN : N ≤ N') : Bm W b N' l := by
  obtain ⟨n, D, h1, h2, h4⟩ := h
  exact ⟨n, D, Nat.le_trans h1 hN, h2, h4⟩

set_option maxRecDepth 100000 in
theorem Bm.look {W : World} {b N : Nat} {l : List Int} (h : Bm W b N l) {a : Int} (ha : (Lit.int .i64 a).wf = true) : (Instr.lookup 81 (.map (some b)) (.int .i64 a) false).run Try.prog W = .ok (.bool (decide (a ∈ l))) W := by
  obtain ⟨n, D, h1, h2, h4⟩ := h
  obtain ⟨v, ps, hr, hv⟩ := h2.lookup Try.keyedInt Try.underlying81 (Try.zeroBool W) (plainElem_bool Try.underlying4 false) (keyOf_int_mk Try.underlying3 ha)
  obtain ⟨x, rfl, hz⟩ := plain_bool_inv hv
  rw [h4 a ha] at hz
  have hx : x = decide (a ∈ l) := by
    have := congrArg Prod.fst hz
    injection this with e
    injection e with e
    exact e.symm
  rw [← hx]
  exact hr

set_option maxRecDepth 100000 in
theorem Bm.put {W : World} {b N : Nat} {l : List Int} (h : Bm W b N l) {a : Int} (ha : (Lit.int .i64 a).wf = true) (hN : N < maxLen) :
    ∃ W', (Instr.mapUpdate 81 (.map (some b)) (.int .i64 a) (.bool true)).run Try.prog W = .ok () W' ∧ Bm W' b (N + 1) (a :: l) ∧ W.grownBy W' (some b) := by
  obtain ⟨n, D, h1, h2, h4⟩ := h
  have hk := keyOf_int_mk Try.underlying3 ha
  obtain ⟨w', e1, e2, e3⟩ := h2.update Try.keyedInt Try.underlying81 (by omega) hk (plainElem_bool Try.underlying4 true)
  refine ⟨w', e1, ⟨n + 1, _, by omega, e2, fun a' ha' => ?_⟩, e3⟩
  by_cases haa : a' = a
  · subst haa
    rw [atKey_put_same h2.isMap (Try.keyedInt.key hk), decide_eq_true List.mem_cons_self]
  · have hne : Lit.int .i64 a' ≠ Lit.int .i64 a := fun e => haa (by injection e)
    rw [atKey_put_other hne, h4 a' ha']
    congr 2
    rw [Bool.eq_iff_iff, decide_eq_true_eq, decide_eq_true_eq, List.mem_cons]
    exact ⟨Or.inr, fun h => h.resolve_left haa⟩

theorem write_wf {s : Vo.St} {name : ByteArray} {at_ : Int} {t : ByteArray} (h : Vo.Right s) (he : (Vo.writeR s name at_ t).e = 0) : (Lit.int .i64 at_).wf = true := by
  obtain ⟨i, k, hi, hk, -, -, rfl, -⟩ := Vo.write_is he
  have hl := (h.vol _ (List.getElem_mem hi)).len
  exact WalkArith.wf_i64 (by omega)

section
variable {w w' : World} {base A B : Nat} {a b : Option Addr} {n c m d : Nat} {rs : List Rw} {s : Vo.St}
/-- Where a map is turned. -/
theorem StP.map (h : StP w base A B a n c b m d rs s) (hg : w.grownBy w' (some A)) : StP w' base A B a n c b m d rs s :=
  ⟨h.1.blocks fun v hv k hk => hg.block k (h.1.lt v hv k hk).2 (fun e => h.2.1 v hv (by rw [hk, ← e])), h.2⟩
theorem Bm.set {N : Nat} {l : List Int} (h : Bm w A N l) (hne : B ≠ A) (u0 u1 : Value) : Bm ((w.setCell ⟨B, 0, none⟩ u0).setCell ⟨B, 1, none⟩ u1) A N l :=
  (h.keep (heap_setCell_other w ⟨B, 0, none⟩ A u0 (fun e => hne e.symm))).keep (heap_setCell_other _ ⟨B, 1, none⟩ A u1 (fun e => hne e.symm))
end

end Go.Proofs.Yteddendidjhmbaa

namespace Go.Proofs.Yteddendidjhmbaa.Vo
open Go.Proofs.Yteddendidjhmbaa Go.Proofs.Yteddendidjhmbaa.Bg

/-- A state with a volume and a clone of it that was written at some places. -/
structure Wr (x : St) (nm zz : ByteArray) (A : List Bg.Id) (l : List Int) : Prop where
  right : Right x
  ne : nm ≠ zz
  one : blocksR x nm = (A, 0)
  two : ∃ C, blocksR x zz = (C, 0) ∧ C.length = A.length ∧ ∀ i : Nat, i < A.length → ((i : Int) ∈ l → (C.getD i noId).is = true) ∧ ((i : Int) ∉ l → C.getD i noId = A.getD i noId)

theorem wr_new {s : St} (h : Right s) {nm zz : ByteArray} (he : (cloneR s nm zz).e = 0) : ∃ A, Wr (cloneR s nm zz).s nm zz A [] := by
  have hr := clone_right h nm zz
  have hne := (clone_texts h he).2.2
  obtain ⟨i, hi, hf, e⟩ := clone_is he
  have hnm : s.vols[i].name = nm := by
    obtain ⟨_, e', -⟩ := List.findIdx?_eq_some_iff_getElem.1 hf
    exact called_iff.1 e'
  rw [e] at hr ⊢
  dsimp only at hr ⊢
  obtain ⟨hp, hq⟩ := insV_at s.vols ⟨zz, s.vols[i].ids⟩
  have b2 := blocks_at hr hp
  dsimp only at b2
  rw [hq] at b2
  dsimp only at b2
  have hm : s.vols[i] ∈ insV s.vols ⟨zz, s.vols[i].ids⟩ := by
    have h3 : s.vols[i] ∈ s.vols := List.getElem_mem hi
    generalize s.vols[i] = u at *
    have h4 : u ∈ s.vols.take (posV s.vols ⟨zz, u.ids⟩) ++ s.vols.drop (posV s.vols ⟨zz, u.ids⟩) := by rw [List.take_append_drop]; exact h3
    rw [insV_is]
    rw [List.mem_append] at h4 ⊢
    rcases h4 with h4 | h4
    · exact Or.inl h4
    · exact Or.inr (List.mem_cons_of_mem _ h4)
  obtain ⟨p, hp', hq'⟩ := List.getElem_of_mem hm
  have b1 := blocks_at hr hp'
  dsimp only at b1
  rw [hq', hnm] at b1
  exact ⟨s.vols[i].ids, hr, hne, b1, s.vols[i].ids, b2, rfl, fun i _ => ⟨fun h => absurd h List.not_mem_nil, fun _ => rfl⟩⟩

theorem wr_step {x : St} {nm zz : ByteArray} {A : List Bg.Id} {l : List Int} (h : Wr x nm zz A l) {at_ : Int} {t : ByteArray} (he : (writeR x zz at_ t).e = 0) : Wr (writeR x zz at_ t).s nm zz A (at_ :: l) := by
  have hr := vwrite_right h.right zz at_ t
  obtain ⟨i, k, z, hf, rfl, hz, -, hpl, hv, -⟩ := write_vols h.right he
  obtain ⟨i', k', hi, hk, hf', hkk, -, -⟩ := place_parts hpl
  obtain rfl : i' = i := by rw [hf] at hf'; exact (Option.some.inj hf').symm
  obtain rfl : k = k' := by omega
  obtain ⟨C, hC, hCl, hCA⟩ := h.two
  have eC : x.vols[i'].ids = C := by
    have := blocks_some hf hi
    rw [hC] at this
    exact (congrArg Prod.fst this).symm
  generalize (writeR x zz (k : Int) t).s = x' at *
  have hn : ∀ n, find x'.vols n = find x.vols n := fun n => by rw [hv]; exact find_names (setV_names _ _ _ _) n
  have hl' : x'.vols.length = x.vols.length := by rw [hv]; exact setV_len _ _ _ _
  have hi' : i' < x'.vols.length := by rw [hl']; exact hi
  refine ⟨hr, h.ne, ?_, C.set k z, ?_, by rw [List.length_set]; exact hCl, fun j hj => ?_⟩
  · obtain ⟨ia, ha, fa, na, ba⟩ := find_some (s := x) (n := nm) (by rw [h.one])
    have hia : i' ≠ ia := fun e => h.ne (by
      subst e
      obtain ⟨_, e', -⟩ := List.findIdx?_eq_some_iff_getElem.1 hf
      exact na.symm.trans (called_iff.1 e'))
    have ha' : ia < x'.vols.length := by rw [hl']; exact ha
    have e : x'.vols[ia] = x.vols[ia] := by
      have e : x'.vols[ia]? = x.vols[ia]? := by rw [hv, setV_ne hia]
      rw [List.getElem?_eq_getElem ha', List.getElem?_eq_getElem ha] at e
      exact Option.some.inj e
    rw [blocks_some ((hn nm).trans fa) ha', e, ← ba]
    exact h.one
  · have e : x'.vols[i'] = ⟨x.vols[i'].name, x.vols[i'].ids.set k z⟩ := by
      have e := setV_at (k := k) (id := z) hi
      rw [← hv, List.getElem?_eq_getElem hi'] at e
      exact Option.some.inj e
    rw [blocks_some ((hn zz).trans hf) hi', e, eC]
  · obtain ⟨c1, c2⟩ := hCA j hj
    by_cases hjk : j = k
    · subst hjk
      refine ⟨fun _ => ?_, fun hno => absurd List.mem_cons_self hno⟩
      rw [List.getD_eq_getElem?_getD, List.getElem?_set_self (by omega)]
      exact hz
    · have e : (C.set k z).getD j noId = C.getD j noId := by rw [List.getD_eq_getElem?_getD, List.getElem?_set_ne (fun e => hjk e.symm), ← List.getD_eq_getElem?_getD]
      rw [e]
      refine ⟨fun hm => c1 ?_, fun hno => c2 fun hm => hno (List.mem_cons_of_mem _ hm)⟩
      rcases List.mem_cons.1 hm with hm | hm
      · omega
      · exact hm

theorem wr_none {x : St} {nm zz : ByteArray} {A : List Bg.Id} (h : Wr x nm zz A []) : diffR x nm zz = ([], 0) := by
  obtain ⟨C, hC, hCl, hCA⟩ := h.two
  have e : C = A := List.ext_getElem hCl fun j h1 h2 => by
    have := (hCA j h2).2 List.not_mem_nil
    rwa [List.getD_eq_getElem?_getD, List.getElem?_eq_getElem h1, List.getD_eq_getElem?_getD, List.getElem?_eq_getElem h2] at this
  unfold diffR
  rw [h.one, hC]
  rw [if_neg (fun h => h rfl), if_neg (fun h => h rfl), if_neg (fun h => h hCl.symm), e, dN_self]

theorem textsR_at {s : St} {n : ByteArray} {i : Nat} (h : i < (textsR s n).length) : (textsR s n)[i] = (readR s n (i : Int)).1 := by
  have hl : i < (blocksR s n).1.length := by rw [← textsR_length]; exact h
  have e : (textsR s n)[i]? = some (readR s n (i : Int)).1 := by
    unfold textsR
    rw [List.getElem?_map, List.getElem?_range hl]
    rfl
  rw [List.getElem?_eq_getElem h] at e
  exact Option.some.inj e

theorem wr_diff {x : St} {nm zz : ByteArray} {A : List Bg.Id} {l : List Int} (h : Wr x nm zz A l) : ∃ L, diffR x nm zz = (L, 0) ∧ (textsR x nm).length = A.length ∧ (textsR x zz).length = A.length ∧
    ∀ i (h1 : i < (textsR x nm).length) (h2 : i < (textsR x zz).length) (h3 : i < A.length), (i ∈ L ↔ (i : Int) ∈ l ∧ ((textsR x nm)[i] ≠ (textsR x zz)[i] ∨ A[i].is = false)) := by
  obtain ⟨C, hC, hCl, hCA⟩ := h.two
  have hd : diffR x nm zz = (dN A C A.length, 0) := by
    unfold diffR
    rw [h.one, hC]
    rw [if_neg (fun h => h rfl), if_neg (fun h => h rfl), if_neg (fun h => h hCl.symm)]
  refine ⟨_, hd, ?_, ?_, fun i h1 h2 h3 => ?_⟩
  · rw [textsR_length, h.one]
  · rw [textsR_length, hC]; exact hCl
  · obtain ⟨c1, c2⟩ := hCA i h3
    rw [textsR_at h1, textsR_at h2, mem_dN]
    have hA : A.getD i noId = A[i] := by rw [List.getD_eq_getElem?_getD, List.getElem?_eq_getElem h3, Option.getD_some]
    rw [hA] at c2 ⊢
    by_cases hm : (i : Int) ∈ l
    · have hc := c1 hm
      obtain ⟨ia, ha, fa, na, ba⟩ := find_some (s := x) (n := nm) (by rw [h.one])
      obtain ⟨ib, hb, fb, nb, bb⟩ := find_some (s := x) (n := zz) (by rw [hC])
      have eA : x.vols[ia].ids = A := by rw [h.one] at ba; exact (congrArg Prod.fst ba).symm
      have eC : x.vols[ib].ids = C := by rw [hC] at bb; exact (congrArg Prod.fst bb).symm
      have hia : i < x.vols[ia].ids.length := by rw [eA]; exact h3
      have hib : i < x.vols[ib].ids.length := by rw [eC]; omega
      have r1 := read_at h.right ha hia
      have r2 := read_at h.right hb hib
      rw [na] at r1
      rw [nb] at r2
      have ga : x.vols[ia].ids[i] = A[i] := by
        have : x.vols[ia].ids[i]? = A[i]? := by rw [eA]
        rw [List.getElem?_eq_getElem hia, List.getElem?_eq_getElem h3] at this
        exact Option.some.inj this
      have gc : x.vols[ib].ids[i] = C.getD i noId := by
        have : x.vols[ib].ids[i]? = C[i]? := by rw [eC]
        rw [List.getElem?_eq_getElem hib] at this
        rw [List.getD_eq_getElem?_getD, ← this]
        rfl
      have kC := (h.right.vol _ (List.getElem_mem hb)).ids _ (List.getElem_mem hib)
      have kA := (h.right.vol _ (List.getElem_mem ha)).ids _ (List.getElem_mem hia)
      rw [ga] at r1 kA
      rw [gc] at r2 kC
      rw [if_pos hc] at r2
      obtain ⟨y, hy, ey⟩ : ∃ y ∈ x.bag, C.getD i noId = idOf y := by
        rcases kC with e | e
        · rw [e] at hc; cases hc
        · exact e
      have hasC : Bg.Has x.bag (C.getD i noId) y.text := has_iff.2 ⟨y, hy, ey, rfl⟩
      rw [(getR_iff h.right.bag).2 hasC] at r2
      rw [r2]
      cases hai : A[i].is with
      | false =>
        refine ⟨fun _ => ⟨hm, Or.inr rfl⟩, fun _ => ⟨h3, fun e => ?_⟩⟩
        rw [e, hc] at hai
        cases hai
      | true =>
        obtain ⟨u, hu, eu⟩ : ∃ u ∈ x.bag, A[i] = idOf u := by
          rcases kA with e | e
          · rw [e] at hai; cases hai
          · exact e
        have hasA : Bg.Has x.bag A[i] u.text := has_iff.2 ⟨u, hu, eu, rfl⟩
        rw [if_pos hai, (getR_iff h.right.bag).2 hasA] at r1
        rw [r1]
        dsimp only
        constructor
        · rintro ⟨-, hne⟩
          exact ⟨hm, Or.inl fun e => hne (has_same h.right.bag hasA (by rw [e]; exact hasC))⟩
        · rintro ⟨-, hne | hf⟩
          · exact ⟨h3, fun e => hne (Bg.Has.inj h.right.bag (by rw [← e]; exact hasA) hasC)⟩
          · cases hf
    · exact ⟨fun h => absurd (c2 hm).symm h.2, fun h => absurd h.1 hm⟩

end Go.Proofs.Yteddendidjhmbaa.Vo
