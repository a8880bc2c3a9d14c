/- States that lie there, continued: a volume put in, taken out; another bag; another id. -/
import Derived.Test.YthccdoejnklidaaVoC
namespace Go.Proofs.Ythccdoejnklidaa
open Go.RowKit

theorem apart_symm {u v : Value} (h : ∀ k, u.ownBlock = some k → v.ownBlock ≠ some k) : ∀ k, v.ownBlock = some k → u.ownBlock ≠ some k := fun k h1 h2 => h k h2 h1

theorem Apart.perm {l l' : List Value} (h : Apart l) (hp : l.Perm l') : Apart l' := (hp.pairwise_iff (fun h => apart_symm h)).1 h

section
variable {w w' : World} {base n c m d : Nat} {a b : Option Addr} {rs : List Rw} {s : Vo.St}

/-- A volume is put in at a place. -/
theorem StW.ins {N k cap n5 c5 : Nat} {a5 b' : Option Addr} {nm : ByteArray} {ids : List Bg.Id} {W X w6 : World} (h : StW W base a n c b m d rs s) (_hN : N = W.heap.size) (hX : Below W.heap.size W X) (hR : X.ownsRow base 68 3 (.slice a5 n5 c5) n5 (dv ids)) (hl : ids.length = n5) (hk : k ≤ m)
    (h5 : ∀ v ∈ sls a n c b m d rs, ∀ j, v.ownBlock = some j → (Value.slice a5 n5 c5).ownBlock ≠ some j) (hG : X.grownBy w6 (Value.slice b m d).ownBlock) (hO : w6.ownsRow base 65 2 (.slice b' (m + 1) cap) (m + 1) (rv (rs.take k ++ ⟨nm, a5, n5, c5⟩ :: rs.drop k)))
    (hat : ∀ j, (Value.slice b' (m + 1) cap).ownBlock = some j → (Value.slice b m d).ownBlock = some j ∨ X.heap.size ≤ j) : StW w6 base a n c b' (m + 1) cap (rs.take k ++ ⟨nm, a5, n5, c5⟩ :: rs.drop k) ⟨s.bag, s.vols.take k ++ ⟨nm, ids⟩ :: s.vols.drop k⟩ := by
  have hlt := h.lt
  have hap := h.apart'
  have hsz := hX.size
  unfold sls at hlt hap h5
  rw [apart_cons, apart_cons] at hap
  obtain ⟨p1, p2, p3⟩ := hap
  have hm1 : ∀ {v}, v ∈ (Value.slice a n c) :: rs.map Rw.sl → v ∈ Value.slice a n c :: Value.slice b m d :: rs.map Rw.sl := fun {v} hv => by
    rcases List.mem_cons.1 hv with rfl | hv
    · exact List.mem_cons_self
    · exact List.mem_cons_of_mem _ (List.mem_cons_of_mem _ hv)
  have hab : ∀ v ∈ (Value.slice a n c) :: rs.map Rw.sl, ∀ j, v.ownBlock = some j → (Value.slice b m d).ownBlock ≠ some j := fun v hv j hj e => by
    rcases List.mem_cons.1 hv with rfl | hv
    · exact p1 _ List.mem_cons_self j hj e
    · exact p2 v hv j e hj
  have hkp : ∀ v ∈ (Value.slice a n c) :: rs.map Rw.sl, ∀ j, v.ownBlock = some j → w6.heap[j]? = W.heap[j]? := fun v hv j hj => by
    have h1 := (hlt v (hm1 hv) j hj).2
    rw [hG.block j (by omega) (fun e => hab v hv j hj e.symm), hX.block j h1]
  have h5x : ∀ j, (Value.slice a5 n5 c5).ownBlock = some j → j < X.heap.size := fun j hj => own_block_lt hR j hj
  have hgn : ∀ v ∈ (Value.slice a n c) :: rs.map Rw.sl, ∀ j, v.ownBlock = some j → (Value.slice b' (m + 1) cap).ownBlock ≠ some j := fun v hv j hj e => by
    rcases hat j e with h1 | h1
    · exact hab v hv j hj h1
    · have := (hlt v (hm1 hv) j hj).2
      omega
  have hg5 : ∀ j, (Value.slice a5 n5 c5).ownBlock = some j → (Value.slice b' (m + 1) cap).ownBlock ≠ some j := fun j hj e => by
    rcases hat j e with h1 | h1
    · exact h5 _ (List.mem_cons_of_mem _ List.mem_cons_self) j h1 hj
    · have := h5x j hj
      omega
  have hrk : k ≤ rs.length := by rw [h.rlen]; exact hk
  have hvk : k ≤ s.vols.length := by rw [h.vlen]; exact hk
  refine ⟨own_kept3 h.bag (hkp _ List.mem_cons_self), h.len, hO, by rw [List.length_append, List.length_cons, List.length_take, List.length_drop, h.rlen]; omega, by show (s.vols.take k ++ _ :: s.vols.drop k).length = _; rw [List.length_append, List.length_cons, List.length_take, List.length_drop, h.vlen]; omega, fun i r v hr hv => ?_, ?_⟩
  · have hv' : (s.vols.take k ++ (⟨nm, ids⟩ : Vo.Vl) :: s.vols.drop k)[i]? = some v := hv
    have old : ∀ i' : Nat, rs[i']? = some r → s.vols[i']? = some v → r.name = v.name ∧ w6.ownsRow base 68 3 (.slice r.a r.n r.c) r.n (dv v.ids) ∧ v.ids.length = r.n := fun i' q1 q2 => by
      obtain ⟨h1, h2, h3⟩ := h.vol i' r v q1 q2
      exact ⟨h1, own_kept3 h2 (hkp r.sl (List.mem_cons_of_mem _ (List.mem_map_of_mem (List.mem_of_getElem? q1)))), h3⟩
    rcases Nat.lt_trichotomy i k with hi | hi | hi
    · rw [List.getElem?_append_left (by rw [List.length_take]; omega), List.getElem?_take, if_pos hi] at hr hv'
      exact old i hr hv'
    · rw [List.getElem?_append_right (by rw [List.length_take]; omega), List.length_take, hi, Nat.min_eq_left (by assumption), Nat.sub_self] at hr hv'
      obtain rfl : (⟨nm, a5, n5, c5⟩ : Rw) = r := by simpa using hr
      obtain rfl : (⟨nm, ids⟩ : Vo.Vl) = v := by simpa using hv'
      exact ⟨rfl, own_kept3 hR fun j hj => hG.block j (h5x j hj) fun e => h5 _ (List.mem_cons_of_mem _ List.mem_cons_self) j e.symm hj, hl⟩
    · obtain ⟨q, rfl⟩ : ∃ q, i = k + 1 + q := ⟨i - k - 1, by omega⟩
      rw [List.getElem?_append_right (by rw [List.length_take]; omega), List.length_take, Nat.min_eq_left (by assumption), show k + 1 + q - k = q + 1 by omega, List.getElem?_cons_succ, List.getElem?_drop] at hr hv'
      exact old (k + q) hr hv'
  · have hP : (Value.slice a n c :: Value.slice b' (m + 1) cap :: (rs.take k ++ (⟨nm, a5, n5, c5⟩ : Rw) :: rs.drop k).map Rw.sl).Perm (Value.slice a n c :: Value.slice b' (m + 1) cap :: Value.slice a5 n5 c5 :: rs.map Rw.sl) := by
      refine List.Perm.cons _ (List.Perm.cons _ ?_)
      rw [List.map_append, List.map_cons]
      refine List.perm_middle.trans ?_
      rw [← List.map_append, List.take_append_drop]
      exact List.Perm.refl _
    refine Apart.perm ?_ hP.symm
    rw [apart_cons, apart_cons, apart_cons]
    refine ⟨fun y hy j hj1 hj2 => ?_, fun y hy j hj1 hj2 => ?_, fun y hy j hj1 hj2 => ?_, p3⟩
    · rcases List.mem_cons.1 hy with rfl | hy
      · exact hgn _ List.mem_cons_self j hj1 hj2
      · rcases List.mem_cons.1 hy with rfl | hy
        · exact h5 _ List.mem_cons_self j hj1 hj2
        · exact p1 y (List.mem_cons_of_mem _ hy) j hj1 hj2
    · rcases List.mem_cons.1 hy with rfl | hy
      · exact hg5 j hj2 hj1
      · exact hgn y (List.mem_cons_of_mem _ hy) j hj2 hj1
    · exact h5 y (List.mem_cons_of_mem _ (List.mem_cons_of_mem _ hy)) j hj2 hj1

/-- A volume is taken out. -/
theorem StW.del {i m' d' : Nat} {b' : Option Addr} {w6 : World} (h : StW w base a n c b m d rs s) (hm : m = i + 1 + m') (hG : w.grownBy w6 (Value.slice b m d).ownBlock) (hO : w6.ownsRow base 65 2 (.slice b' (i + m') d') (i + m') (rv (rs.take i ++ rs.drop (i + 1))))
    (hat : (Value.slice b' (i + m') d').ownBlock = (Value.slice b m d).ownBlock) : StW w6 base a n c b' (i + m') d' (rs.take i ++ rs.drop (i + 1)) ⟨s.bag, s.vols.take i ++ s.vols.drop (i + 1)⟩ := by
  have hlt := h.lt
  have hap := h.apart'
  unfold sls at hlt hap
  rw [apart_cons, apart_cons] at hap
  obtain ⟨p1, p2, p3⟩ := hap
  have hkp : ∀ v ∈ (Value.slice a n c) :: rs.map Rw.sl, ∀ j, v.ownBlock = some j → w6.heap[j]? = w.heap[j]? := fun v hv j hj => by
    refine hG.block j ?_ fun e => ?_
    · rcases List.mem_cons.1 hv with rfl | hv
      · exact (hlt _ List.mem_cons_self j hj).2
      · exact (hlt _ (List.mem_cons_of_mem _ (List.mem_cons_of_mem _ hv)) j hj).2
    · rcases List.mem_cons.1 hv with rfl | hv
      · exact p1 _ List.mem_cons_self j hj e.symm
      · exact p2 v hv j e.symm hj
  have hsub : (rs.take i ++ rs.drop (i + 1)).Sublist rs := by
    rw [← List.eraseIdx_eq_take_drop_succ]
    exact List.eraseIdx_sublist ..
  have hrl := h.rlen; have hvl := h.vlen
  refine ⟨own_kept3 h.bag (hkp _ List.mem_cons_self), h.len, hO, by rw [List.length_append, List.length_take, List.length_drop, hrl]; omega, by show (s.vols.take i ++ s.vols.drop (i + 1)).length = _; rw [List.length_append, List.length_take, List.length_drop, hvl]; omega, fun j r v hr hv => ?_, ?_⟩
  · have hv' : (s.vols.take i ++ s.vols.drop (i + 1))[j]? = some v := hv
    have old : ∀ i' : Nat, rs[i']? = some r → s.vols[i']? = some v → r.name = v.name ∧ w6.ownsRow base 68 3 (.slice r.a r.n r.c) r.n (dv v.ids) ∧ v.ids.length = r.n := fun i' q1 q2 => by
      obtain ⟨h1, h2, h3⟩ := h.vol i' r v q1 q2
      exact ⟨h1, own_kept3 h2 (hkp r.sl (List.mem_cons_of_mem _ (List.mem_map_of_mem (List.mem_of_getElem? q1)))), h3⟩
    by_cases hj : j < i
    · rw [List.getElem?_append_left (by rw [List.length_take]; omega), List.getElem?_take, if_pos hj] at hr hv'
      exact old j hr hv'
    · rw [List.getElem?_append_right (by rw [List.length_take]; omega), List.length_take, List.getElem?_drop] at hr hv'
      rw [Nat.min_eq_left (by omega)] at hr hv'
      exact old (i + 1 + (j - i)) hr hv'
  · show Apart (_ :: _ :: _)
    rw [apart_cons, apart_cons]
    have hmm : ∀ y ∈ (rs.take i ++ rs.drop (i + 1)).map Rw.sl, y ∈ rs.map Rw.sl := fun y hy => (hsub.map Rw.sl).subset hy
    refine ⟨fun y hy j hj1 hj2 => ?_, fun y hy j hj1 hj2 => ?_, p3.sublist (hsub.map Rw.sl)⟩
    · rcases List.mem_cons.1 hy with rfl | hy
      · rw [hat] at hj2
        exact p1 _ List.mem_cons_self j hj1 hj2
      · exact p1 y (List.mem_cons_of_mem _ (hmm y hy)) j hj1 hj2
    · rw [hat] at hj1
      exact p2 y (hmm y hy) j hj1 hj2

/-- Another bag. -/
theorem StW.setBag {a' : Option Addr} {n' c' : Nat} {l : List Bg.It} (h : StW w base a n c b m d rs s) (hO : w.ownsRow base 61 4 (.slice a' n' c') n' (tv l)) (hl : l.length = n') (hne : ∀ v ∈ (Value.slice b m d) :: rs.map Rw.sl, ∀ j, (Value.slice a' n' c').ownBlock = some j → v.ownBlock ≠ some j) :
    StW w base a' n' c' b m d rs ⟨l, s.vols⟩ := by
  have hap := h.apart'
  unfold sls at hap
  rw [apart_cons] at hap
  exact ⟨hO, hl, h.row, h.rlen, h.vlen, h.vol, List.pairwise_cons.2 ⟨fun y hy j hj => hne y hy j hj, hap.2⟩⟩

/-- Another id. -/
theorem StW.setId {i k g : Nat} {r : Rw} {v : Vo.Vl} {id : Bg.Id} (h : StW w base a n c b m d rs s) (hr : rs[i]? = some r) (hv : s.vols[i]? = some v) (hk : k < v.ids.length) (ha : r.a = some ⟨g, 0, none⟩) :
    StW (((w.setCell ⟨g, k * 3, none⟩ (.bool id.is)).setCell ⟨g, k * 3 + 1, none⟩ (.int .i64 id.sum)).setCell ⟨g, k * 3 + 2, none⟩ (.int .i64 id.n)) base a n c b m d rs ⟨s.bag, Vo.setV s.vols i k id⟩ := by
  obtain ⟨e1, e2, e3⟩ := h.vol i r v hr hv
  have hap := h.apart'
  have hrl := h.rlen; have hvl := h.vlen
  have hmr : r.sl ∈ rs.map Rw.sl := List.mem_map_of_mem (List.mem_of_getElem? hr)
  have hgr : r.sl.ownBlock = some g := by unfold Rw.sl; rw [ha]; rfl
  unfold sls at hap
  rw [apart_cons, apart_cons] at hap
  obtain ⟨p1, p2, p3⟩ := hap
  have hblk : ∀ (B : Nat), B ≠ g → (((w.setCell ⟨g, k * 3, none⟩ (.bool id.is)).setCell ⟨g, k * 3 + 1, none⟩ (.int .i64 id.sum)).setCell ⟨g, k * 3 + 2, none⟩ (.int .i64 id.n)).heap[B]? = w.heap[B]? := fun B hB => by
    rw [heap_setCell_other _ _ B _ (fun e => hB e), heap_setCell_other _ _ B _ (fun e => hB e), heap_setCell_other _ _ B _ (fun e => hB e)]
  have hi : i < s.vols.length := (List.getElem?_eq_some_iff.1 hv).1
  have hset : Vo.setV s.vols i k id = s.vols.set i ⟨v.name, v.ids.set k id⟩ := by unfold Vo.setV; rw [hv]
  refine ⟨own_kept3 h.bag fun B hB => hblk B fun e => by subst e; exact p1 r.sl (List.mem_cons_of_mem _ hmr) _ hB hgr, h.len, own_kept3 h.row fun B hB => hblk B fun e => by subst e; exact p2 r.sl hmr _ hB hgr, h.rlen, by show (Vo.setV s.vols i k id).length = m; rw [hset, List.length_set, hvl], fun i' r' v' hr' hv' => ?_, h.apart⟩
  have hv2 : (Vo.setV s.vols i k id)[i']? = some v' := hv'
  rw [hset] at hv2
  by_cases hii : i' = i
  · subst hii
    rw [List.getElem?_set_self hi] at hv2
    obtain rfl := Option.some.inj hv2
    obtain rfl := Option.some.inj (hr.symm.trans hr')
    refine ⟨e1, ?_, by rw [List.length_set]; exact e3⟩
    have e2' := e2
    rw [ha] at e2' ⊢
    rw [dv_set id hk]
    exact (((e2'.stored (k * 3) (.bool id.is)).1.stored (k * 3 + 1) (.int .i64 id.sum)).1.stored (k * 3 + 2) (.int .i64 id.n)).1
  · rw [List.getElem?_set_ne (Ne.symm hii)] at hv2
    obtain ⟨h1, h2, h3⟩ := h.vol i' r' v' hr' hv2
    refine ⟨h1, own_kept3 h2 fun B hB => hblk B fun e => ?_, h3⟩
    subst e
    have hlr : i < rs.length := (List.getElem?_eq_some_iff.1 hr).1
    have hlr' : i' < rs.length := (List.getElem?_eq_some_iff.1 hr').1
    obtain rfl : rs[i] = r := Option.some.inj ((List.getElem?_eq_getElem hlr).symm.trans hr)
    obtain rfl : rs[i'] = r' := Option.some.inj ((List.getElem?_eq_getElem hlr').symm.trans hr')
    have hp := List.pairwise_iff_getElem.1 p3
    rcases Nat.lt_or_gt_of_ne hii with hlt | hlt
    · have := hp i' i (by simpa using hlr') (by simpa using hlr) hlt B (by simpa [Rw.sl] using hB)
      exact this (by simpa [Rw.sl] using hgr)
    · have := hp i i' (by simpa using hlr) (by simpa using hlr') hlt B (by simpa [Rw.sl] using hgr)
      exact this (by simpa [Rw.sl] using hB)
end

end Go.Proofs.Ythccdoejnklidaa
