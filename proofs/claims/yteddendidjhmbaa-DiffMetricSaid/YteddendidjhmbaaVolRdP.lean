/- What trims and writes answer and leave to be read, plain: at the place and elsewhere. No program in sight. -/
import Derived.Test.YteddendidjhmbaaVolWP
namespace Go.Proofs.Yteddendidjhmbaa.Vo
open Go.Proofs.Yteddendidjhmbaa Go.Proofs.Yteddendidjhmbaa.Bg

/-- What a trim and a write at a place answer, and what is read behind them. -/
theorem trim_write {s : St} (h : Right s) (name : ByteArray) (at_ : Int) (t : ByteArray) :
    ((trimR s name at_).e ≠ 0 ∧ (writeR s name at_ t).e = (trimR s name at_).e) ∨
    ((trimR s name at_).e = 0 ∧ readR (trimR s name at_).s name at_ = (Bg.noText, 0) ∧ (∀ also other, ¬ (name = also ∧ at_ = other) → readR (trimR s name at_).s also other = readR s also other) ∧
      (((writeR s name at_ t).e = 0 ∧ readR (writeR s name at_ t).s name at_ = (t, 0) ∧ ∀ also other, ¬ (name = also ∧ at_ = other) → readR (writeR s name at_ t).s also other = readR s also other) ∨
        (writeR s name at_ t).e ≠ 0 ∧ ((writeR s name at_ t).e = 8 ∨ (writeR s name at_ t).e = 2))) := by
  by_cases hp : placeE s name at_ = 0
  · obtain ⟨i, k, hi, hk, hf, hk', hfd, hkj⟩ := place_parts hp
    refine Or.inr ?_
    have hne : ∀ also other, ¬ (name = also ∧ at_ = other) → ¬ (find s.vols also = some i ∧ other = (k : Int)) := fun also other hh ⟨e1, e2⟩ => hh (by
      obtain ⟨_, e, -⟩ := List.findIdx?_eq_some_iff_getElem.1 e1
      have e := called_iff.1 e
      obtain ⟨_, e', -⟩ := List.findIdx?_eq_some_iff_getElem.1 hf
      have e' := called_iff.1 e'
      exact ⟨e'.symm.trans e, by omega⟩)
    have hnm : s.vols[i].name = name := by
      obtain ⟨_, e', -⟩ := List.findIdx?_eq_some_iff_getElem.1 hf
      exact called_iff.1 e'
    have hT : trimR s name at_ = ⟨hole s i k, 0⟩ := by unfold trimR; rw [if_neg (by rw [hp]; decide), hfd, hkj]
    obtain ⟨r1, r2⟩ := hole_read h hi hk
    rw [hnm, ← hk'] at r1
    rw [hT]
    refine ⟨rfl, r1, fun also other hh => r2 also other (hne also other hh), ?_⟩
    by_cases he : (putR Pr (hole s i k).bag t).e = 0
    · have hW : writeR s name at_ t = ⟨⟨(putR Pr (hole s i k).bag t).l, setV (hole s i k).vols i k (putR Pr (hole s i k).bag t).id⟩, 0⟩ := by
        unfold writeR
        rw [if_neg (by rw [hp]; decide), hfd, hkj, if_neg (by rw [he]; decide)]
      obtain ⟨q1, q2⟩ := write_read (t := t) h hi hk he
      rw [hnm, ← hk'] at q1
      rw [hW]
      exact Or.inl ⟨rfl, q1, fun also other hh => q2 also other (hne also other hh)⟩
    · have hW : writeR s name at_ t = ⟨st0, (putR Pr (hole s i k).bag t).e⟩ := by
        unfold writeR
        rw [if_neg (by rw [hp]; decide), hfd, hkj, if_pos he]
      rw [hW]
      exact Or.inr ⟨he, (put_err he).2.2 (Bg.good_check (hole_right h hi hk).bag)⟩
  · refine Or.inl ⟨?_, ?_⟩
    · unfold trimR
      rw [if_pos hp]
      exact hp
    · unfold trimR writeR
      rw [if_pos hp, if_pos hp]

end Go.Proofs.Yteddendidjhmbaa.Vo
