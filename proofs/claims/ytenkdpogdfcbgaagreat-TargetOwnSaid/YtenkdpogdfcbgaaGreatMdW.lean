import Derived.Test.YtenkdpogdfcbgaaGreatVoH
import Derived.Test.YtenkdpogdfcbgaaGreatArgsO
/- The walks of woolkeep.made, begun, pick. -/
namespace Go.Proofs.YtenkdpogdfcbgaaGreat
open Go.RowKit

end Go.Proofs.YtenkdpogdfcbgaaGreat

/- The walks of woolkeep.begun, pick. -/
namespace Go.Proofs.YtenkdpogdfcbgaaGreat
open Go.RowKit

def Vo.bA : ByteArray := ⟨#[97]⟩
def Vo.bX : ByteArray := ⟨#[120]⟩
def Vo.sA : Vo.St := ⟨[], [⟨⟨#[97]⟩, [Bg.noId, Bg.noId]⟩]⟩
def Vo.sX : Vo.St := ⟨[⟨376, 0, ⟨#[120]⟩, 1⟩], [⟨⟨#[97]⟩, [Bg.noId, ⟨true, 376, 0⟩]⟩]⟩
theorem begun1 : Vo.makeR Vo.st0 ⟨#[97]⟩ 2 = ⟨Vo.sA, 0⟩ := by kernel_rfl
theorem begun2 : Vo.writeR Vo.sA ⟨#[97]⟩ 1 ⟨#[120]⟩ = ⟨Vo.sX, 0⟩ := by kernel_rfl
theorem begun3 : Vo.readR Vo.sX ⟨#[97]⟩ 1 = (⟨#[120]⟩, 0) := by kernel_rfl
theorem begun1R : Vo.Right Vo.sA := by have := Vo.make_right Vo.right0 ⟨#[97]⟩ 2; rwa [begun1] at this
theorem begun2R : Vo.Right Vo.sX := by have := Vo.vwrite_right begun1R ⟨#[97]⟩ 1 ⟨#[120]⟩; rwa [begun2] at this

/-- The name that is picked. -/
def Vo.pick (s : Vo.St) (k : Int) : ByteArray := if s.vols.length = 0 then ⟨#[110, 111, 110, 101]⟩ else (s.vols.getD (wi k s.vols.length) ⟨⟨#[]⟩, []⟩).name

end Go.Proofs.YtenkdpogdfcbgaaGreat

/- What a right state answers, plain: found by name, made anew. No program in sight. -/
namespace Go.Proofs.YtenkdpogdfcbgaaGreat.Vo
open Go.Proofs.YtenkdpogdfcbgaaGreat

theorem find_at {vs : List Vl} (hs : vs.Pairwise fun u v => cmpN u.name v.name < 0) {i : Nat} (hi : i < vs.length) : find vs vs[i].name = some i := by
  unfold find
  rw [List.findIdx?_eq_some_iff_getElem]
  refine ⟨hi, called_iff.2 rfl, fun j hj h => ?_⟩
  have h1 := called_iff.1 h
  have h2 := List.pairwise_iff_getElem.1 hs j i (by omega) hi hj
  rw [h1, cmp_self] at h2
  omega

theorem blocks_at {s : St} (hR : Right s) {i : Nat} (hi : i < s.vols.length) : blocksR s s.vols[i].name = (s.vols[i].ids, 0) := blocks_some (find_at hR.srt hi) hi

theorem place_at {s : St} (hR : Right s) {i j : Nat} (hi : i < s.vols.length) (hj : j < s.vols[i].ids.length) : placeE s s.vols[i].name (j : Int) = 0 := by
  unfold placeE
  rw [find_at hR.srt hi]
  dsimp only
  rw [List.getElem?_eq_getElem hi]
  dsimp only
  rw [if_neg (by omega)]

theorem read_at {s : St} (hR : Right s) {i j : Nat} (hi : i < s.vols.length) (hj : j < s.vols[i].ids.length) :
    readR s s.vols[i].name (j : Int) = if s.vols[i].ids[j].is = true then Bg.getR Bg.Pr s.bag s.vols[i].ids[j] else (Bg.noText, 0) := by
  rw [readR_ok (place_at hR hi hj) (i := i) (by unfold fd; rw [find_at hR.srt hi]; rfl), idAt_is hi hj]

theorem insV_has (vs : List Vl) (v : Vl) : ∃ i, ∃ h : i < (insV vs v).length, (insV vs v)[i] = v := by
  have : v ∈ insV vs v := by unfold insV; simp
  obtain ⟨i, h, e⟩ := List.getElem_of_mem this
  exact ⟨i, h, e⟩

theorem insV_length (vs : List Vl) (v : Vl) : (insV vs v).length = vs.length + 1 := by
  unfold insV
  have : vs.countP (fun u => decide (cmpN u.name v.name < 0)) ≤ vs.length := List.countP_le_length
  rw [List.length_append, List.length_cons, List.length_take, List.length_drop]
  omega

/-- What a new volume is. -/
theorem make_new {s : St} (hR : Right s) (name : ByteArray) (k : Int) :
    (makeR s name k).e ≠ 0 ∧ (makeR s name k).s = st0 ∨
    (makeR s name k).e = 0 ∧ ∃ n : Nat, k = n ∧ n ≤ 32 ∧ (makeR s name k).s.bag = s.bag ∧ (makeR s name k).s.vols.length = s.vols.length + 1 ∧ blocksR (makeR s name k).s name = (List.replicate n Bg.noId, 0) ∧ ∀ j : Nat, j < n → readR (makeR s name k).s name (j : Int) = (Bg.noText, 0) := by
  have hR2 := make_right hR name k
  by_cases h1 : k < 1 ∨ 32 < k
  · have e : makeR s name k = ⟨st0, 1⟩ := by unfold makeR; rw [if_pos h1]
    rw [e]
    exact Or.inl ⟨by decide, rfl⟩
  · by_cases h2 : freshE s.vols name ≠ 0
    · have e : makeR s name k = ⟨st0, freshE s.vols name⟩ := by unfold makeR; rw [if_neg h1, if_pos h2]
      rw [e]
      exact Or.inl ⟨h2, rfl⟩
    · have e : makeR s name k = ⟨⟨s.bag, insV s.vols ⟨name, List.replicate k.toNat Bg.noId⟩⟩, 0⟩ := by unfold makeR; rw [if_neg h1, if_neg h2]
      rw [e] at hR2 ⊢
      obtain ⟨i, hi, hv⟩ := insV_has s.vols ⟨name, List.replicate k.toNat Bg.noId⟩
      have hn : (insV s.vols ⟨name, List.replicate k.toNat Bg.noId⟩)[i].name = name := by rw [hv]
      have hl : (insV s.vols ⟨name, List.replicate k.toNat Bg.noId⟩)[i].ids = List.replicate k.toNat Bg.noId := by rw [hv]
      have b := blocks_at hR2 hi
      rw [hn, hl] at b
      refine Or.inr ⟨rfl, k.toNat, by omega, by omega, rfl, insV_length _ _, b, fun j hj => ?_⟩
      have hj' : j < (insV s.vols ⟨name, List.replicate k.toNat Bg.noId⟩)[i].ids.length := by rw [hl, List.length_replicate]; exact hj
      have r := read_at hR2 hi hj'
      rw [hn] at r
      rw [r]
      have hx : ∀ x ∈ (insV s.vols ⟨name, List.replicate k.toNat Bg.noId⟩)[i].ids, x = Bg.noId := fun x h => by rw [hl] at h; exact List.eq_of_mem_replicate h
      have hz : (insV s.vols ⟨name, List.replicate k.toNat Bg.noId⟩)[i].ids[j] = Bg.noId := hx _ (List.getElem_mem hj')
      have hz' : ((insV s.vols ⟨name, List.replicate k.toNat Bg.noId⟩)[i].ids[j]).is = false := congrArg Bg.Id.is hz
      exact if_neg (fun h => by rw [hz'] at h; cases h)

end Go.Proofs.YtenkdpogdfcbgaaGreat.Vo
