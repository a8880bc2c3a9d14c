/- Volumes have blocks, and what is read is short, plain. No program in sight. -/
import Derived.Test.YtenkdpogdfcbgaaMdW
namespace Go.Proofs.Ytenkdpogdfcbgaa.Vo
open Go.Proofs.Ytenkdpogdfcbgaa

/-- Each volume has a block. -/
def NE (vs : List Vl) : Prop := ∀ v ∈ vs, v.ids ≠ []

theorem ne_ins {vs : List Vl} {v : Vl} (h : NE vs) (hv : v.ids ≠ []) : NE (insV vs v) := fun u hu => by
  unfold insV at hu
  rcases List.mem_append.1 hu with hu | hu
  · exact h u (List.mem_of_mem_take hu)
  · rcases List.mem_cons.1 hu with rfl | hu
    · exact hv
    · exact h u (List.mem_of_mem_drop hu)

theorem ne_set {vs : List Vl} (h : NE vs) (i k : Nat) (id : Bg.Id) : NE (setV vs i k id) := fun u hu => by
  unfold setV at hu
  cases hx : vs[i]? with
  | none => rw [hx] at hu; exact h u hu
  | some v =>
    rw [hx] at hu
    rcases List.mem_or_eq_of_mem_set hu with hu | rfl
    · exact h u hu
    · intro e
      have h1 := h v (List.mem_of_getElem? hx)
      have h2 : (v.ids.set k id).length = 0 := congrArg List.length e
      rw [List.length_set] at h2
      exact h1 (List.length_eq_zero_iff.1 h2)

theorem ne_hole {s : St} (h : NE s.vols) (i k : Nat) : NE (hole s i k).vols := by
  unfold hole
  split
  · exact ne_set h i k _
  · exact h

theorem ne0 : NE st0.vols := fun v hv => absurd hv (by simp [st0])

theorem ne_make {s : St} (h : NE s.vols) (name : ByteArray) (n : Int) : NE (makeR s name n).s.vols := by
  unfold makeR
  split
  · exact ne0
  · rename_i h1
    split
    · exact ne0
    · refine ne_ins h (fun e => ?_)
      have h2 : (List.replicate n.toNat Bg.noId).length = 0 := congrArg List.length e
      rw [List.length_replicate] at h2
      omega

theorem ne_drop {s : St} (h : NE s.vols) (name : ByteArray) : NE (dropR s name).s.vols := by
  unfold dropR
  split
  · exact ne0
  · split
    · exact ne0
    · intro v hv
      exact h v (List.mem_of_mem_eraseIdx hv)

theorem ne_write {s : St} (h : NE s.vols) (name : ByteArray) (k : Int) (t : ByteArray) : NE (writeR s name k t).s.vols := by
  unfold writeR
  split
  · exact ne0
  · split
    · exact ne0
    · exact ne_set (ne_hole h _ _) _ _ _

theorem ne_trim {s : St} (h : NE s.vols) (name : ByteArray) (k : Int) : NE (trimR s name k).s.vols := by
  unfold trimR
  split
  · exact ne0
  · exact ne_hole h _ _

theorem ne_clone {s : St} (h : NE s.vols) (name nm2 : ByteArray) : NE (cloneR s name nm2).s.vols := by
  unfold cloneR
  split
  · exact ne0
  · split
    · exact ne0
    · rename_i v hv
      split
      · exact ne0
      · exact ne_ins h (h v (List.mem_of_getElem? hv))

theorem ne_do {s : St} (h : NE s.vols) (o : Lg.Op) : NE (doR s o).s.vols := by
  unfold doR
  split
  · exact ne0
  · split
    · exact ne_make h _ _
    · split
      · exact ne_drop h _
      · split
        · exact ne_write h _ _ _
        · split
          · exact ne_trim h _ _
          · exact ne_clone h _ _

theorem ne_step {s : St} (h : NE s.vols) (o : Lg.Op) : NE (step s o).vols := by
  unfold step
  split
  · exact ne_do h o
  · exact h

theorem ne_fold : ∀ (l : List Lg.Op) {s : St}, NE s.vols → NE (l.foldl step s).vols
  | [], _, h => h
  | o :: l, s, h => by rw [List.foldl_cons]; exact ne_fold l (ne_step h o)

theorem good_64 {l : List Bg.It} (h : Bg.Good l) : ∀ x ∈ l, x.text.size ≤ 64 := fun x hx => (Bg.one_fit (h.one x hx)).2.1

theorem read_64 {s : St} (h : Right s) (name : ByteArray) (k : Int) : (readR s name k).1.size ≤ 64 := by
  have hz : Bg.noText.size ≤ 64 := by decide
  unfold readR
  split
  · exact hz
  · split
    · unfold Bg.getR
      split
      · exact hz
      · split
        · exact hz
        · rename_i j _
          cases hx : s.bag[j]? with
          | some x =>
            obtain ⟨hi, rfl⟩ := List.getElem?_eq_some_iff.1 hx
            exact good_64 h.bag _ (List.getElem_mem hi)
          | none => exact hz
    · exact hz

end Go.Proofs.Ytenkdpogdfcbgaa.Vo
