/- A volume that is made and dropped leaves what was, plain. No program in sight. -/
import Derived.Test.YteddendidjhmbaaVolWP
namespace Go.Proofs.Yteddendidjhmbaa.Vo
open Go.Proofs.Yteddendidjhmbaa Go.Proofs.Yteddendidjhmbaa.Bg

theorem unuse_noId (bag : List It) : unuse bag Bg.noId = bag := if_neg (by decide)
theorem unuse_noIds (bag : List It) (n : Nat) : (List.replicate n Bg.noId).foldl unuse bag = bag := by
  induction n with
  | zero => rfl
  | succ n ih => rw [List.replicate_succ, List.foldl_cons, unuse_noId, ih]

/-- Where a volume goes. -/
def posV (vs : List Vl) (v : Vl) : Nat := vs.countP fun u => decide (cmpN u.name v.name < 0)
theorem posV_le (vs : List Vl) (v : Vl) : posV vs v ≤ vs.length := List.countP_le_length
theorem insV_is (vs : List Vl) (v : Vl) : insV vs v = vs.take (posV vs v) ++ v :: vs.drop (posV vs v) := rfl
theorem insV_at (vs : List Vl) (v : Vl) : ∃ h : posV vs v < (insV vs v).length, (insV vs v)[posV vs v] = v := by
  have h0 := posV_le vs v
  have hl : (vs.take (posV vs v)).length = posV vs v := by rw [List.length_take]; omega
  have h : posV vs v < (insV vs v).length := by rw [insV_length]; omega
  refine ⟨h, ?_⟩
  have e : (insV vs v)[posV vs v]? = some v := by
    rw [insV_is, List.getElem?_append_right (by rw [hl]; exact Nat.le_refl _), hl, Nat.sub_self]
    rfl
  rw [List.getElem?_eq_getElem h] at e
  exact Option.some.inj e
theorem insV_erase (vs : List Vl) (v : Vl) : (insV vs v).eraseIdx (posV vs v) = vs := by
  have h0 := posV_le vs v
  have hl : (vs.take (posV vs v)).length = posV vs v := by rw [List.length_take]; omega
  rw [insV_is, List.eraseIdx_append_of_length_le (by rw [hl]; exact Nat.le_refl _), hl, Nat.sub_self, List.eraseIdx_zero, List.tail_cons, List.take_append_drop]

theorem make_is {s : St} {name : ByteArray} {k : Int} (h : (makeR s name k).e = 0) : makeR s name k = ⟨⟨s.bag, insV s.vols ⟨name, List.replicate k.toNat Bg.noId⟩⟩, 0⟩ := by
  unfold makeR at h ⊢
  split
  · rename_i h1
    rw [if_pos h1] at h
    cases h
  · rename_i h1
    rw [if_neg h1] at h
    split
    · rename_i h2
      rw [if_pos h2] at h
      exact absurd h h2
    · rfl

theorem make_drop {s : St} (hR : Right s) {name : ByteArray} {k : Int} (h : (makeR s name k).e = 0) : dropR (makeR s name k).s name = ⟨s, 0⟩ := by
  have hr := make_right hR name k
  rw [make_is h] at hr ⊢
  obtain ⟨hi, hv⟩ := insV_at s.vols ⟨name, List.replicate k.toNat Bg.noId⟩
  have hf := find_at hr.srt hi
  rw [hv] at hf
  dsimp only at hf ⊢
  unfold dropR
  dsimp only
  rw [hf]
  dsimp only
  rw [List.getElem?_eq_getElem hi, hv]
  dsimp only
  rw [unuse_noIds, insV_erase]

theorem clone_is {s : St} {name nm2 : ByteArray} (h : (cloneR s name nm2).e = 0) : ∃ (i : Nat) (hi : i < s.vols.length), find s.vols name = some i ∧ cloneR s name nm2 = ⟨⟨s.vols[i].ids.foldl reuse s.bag, insV s.vols ⟨nm2, s.vols[i].ids⟩⟩, 0⟩ := by
  cases hf : find s.vols name with
  | none =>
    unfold cloneR at h
    rw [hf] at h
    cases h
  | some i =>
    obtain ⟨hi, -⟩ := List.findIdx?_eq_some_iff_getElem.1 hf
    have e : cloneR s name nm2 = if freshE s.vols nm2 ≠ 0 then ⟨st0, freshE s.vols nm2⟩ else ⟨⟨s.vols[i].ids.foldl reuse s.bag, insV s.vols ⟨nm2, s.vols[i].ids⟩⟩, 0⟩ := by
      unfold cloneR
      rw [hf]
      dsimp only
      rw [List.getElem?_eq_getElem hi]
    refine ⟨i, hi, rfl, ?_⟩
    rw [e] at h ⊢
    split
    · rename_i h2
      rw [if_pos h2] at h
      exact absurd h h2
    · rfl

/-- A clone that is dropped again leaves what was. -/
theorem clone_drop {s : St} (hR : Right s) {name nm2 : ByteArray} (h : (cloneR s name nm2).e = 0) : dropR (cloneR s name nm2).s nm2 = ⟨s, 0⟩ ∧ (cloneR s name nm2).s.bag.length = s.bag.length := by
  have hr := clone_right hR name nm2
  obtain ⟨i, hi, -, e⟩ := clone_is h
  rw [e] at hr ⊢
  obtain ⟨he, hv⟩ := right_iff.1 hR
  have hl := allIds_len s.vols hv
  have hi32 : s.vols[i].ids.length ≤ 32 := (hR.vol _ (List.getElem_mem hi)).len
  obtain ⟨u1, u2, u3⟩ := fold_reuse (ids := s.vols[i].ids) he (fun id h => List.mem_flatMap.2 ⟨s.vols[i], List.getElem_mem hi, h⟩) (by omega)
  obtain ⟨w1, w2⟩ := fold_unuse u1
  have hb : s.vols[i].ids.foldl unuse (s.vols[i].ids.foldl reuse s.bag) = s.bag := exact_ext w1 he (fun _ => rfl) fun id t => by
    rw [w2, u2]
    refine ⟨fun h => h.1, fun h => ⟨h, ?_⟩⟩
    obtain ⟨x, hx, rfl, -⟩ := has_iff.1 h
    exact he.used hx
  refine ⟨?_, u3⟩
  obtain ⟨hp, hq⟩ := insV_at s.vols ⟨nm2, s.vols[i].ids⟩
  have hf := find_at hr.srt hp
  rw [hq] at hf
  dsimp only at hf ⊢
  unfold dropR
  dsimp only
  rw [hf]
  dsimp only
  rw [List.getElem?_eq_getElem hp, hq]
  dsimp only
  rw [hb, insV_erase]

end Go.Proofs.Yteddendidjhmbaa.Vo
