/- The list of unlike texts, plain. No program in sight. -/
import Derived.Test.YteddendidjhmbaaVolApP
import Derived.Test.YteddendidjhmbaaTxE
namespace Go.Proofs.Yteddendidjhmbaa.Vo
open Go.Proofs.Yteddendidjhmbaa Go.Proofs.Yteddendidjhmbaa.Bg

def addT (l : List ByteArray) (b : Bool) (t : ByteArray) : List ByteArray := if b = true ∧ Lib.containsS l t = false then l ++ [t] else l

def inV (S : St) (v : Vl) (l : List ByteArray) : Nat → List ByteArray
  | 0 => l
  | j + 1 => addT (inV S v l j) ((v.ids.getD j Bg.noId).is) (readR S v.name (j : Int)).1

def room (S : St) : Nat → List ByteArray
  | 0 => []
  | k + 1 => inV S (S.vols.getD k ⟨noText, []⟩) (room S k) (S.vols.getD k ⟨noText, []⟩).ids.length

theorem addT_mem {l : List ByteArray} {b : Bool} {t u : ByteArray} : u ∈ addT l b t ↔ u ∈ l ∨ (b = true ∧ t = u) := by
  unfold addT
  split
  · rename_i h
    rw [List.mem_append, List.mem_singleton]
    constructor
    · rintro (h1 | rfl)
      · exact Or.inl h1
      · exact Or.inr ⟨h.1, rfl⟩
    · rintro (h1 | ⟨-, rfl⟩)
      · exact Or.inl h1
      · exact Or.inr rfl
  · rename_i h
    constructor
    · exact Or.inl
    · rintro (h1 | ⟨h1, rfl⟩)
      · exact h1
      · cases hc : Lib.containsS l t with
        | true => exact (Lib.containsS_iff l t).1 hc
        | false => exact absurd ⟨h1, hc⟩ h

theorem addT_nodup {l : List ByteArray} {b : Bool} {t : ByteArray} (h : l.Nodup) : (addT l b t).Nodup := by
  unfold addT
  split
  · rename_i h1
    rw [List.nodup_append]
    exact ⟨h, List.nodup_cons.2 ⟨List.not_mem_nil, List.nodup_nil⟩, fun a ha b hb e => by
      rw [List.mem_singleton] at hb
      have := (Lib.containsS_iff l t).2 (by rw [← hb, ← e]; exact ha)
      rw [h1.2] at this
      cases this⟩
  · exact h

theorem addT_length (l : List ByteArray) (b : Bool) (t : ByteArray) : (addT l b t).length ≤ l.length + 1 := by
  unfold addT
  split
  · rw [List.length_append]; exact Nat.le_refl _
  · exact Nat.le_succ _

theorem inV_mem {S : St} {v : Vl} {l : List ByteArray} {u : ByteArray} : ∀ {j : Nat}, u ∈ inV S v l j ↔ u ∈ l ∨ ∃ p, p < j ∧ (v.ids.getD p Bg.noId).is = true ∧ (readR S v.name (p : Int)).1 = u
  | 0 => ⟨Or.inl, fun h => by
    rcases h with h | ⟨p, h, -⟩
    · exact h
    · exact absurd h (Nat.not_lt_zero _)⟩
  | j + 1 => by
    show u ∈ addT (inV S v l j) _ _ ↔ _
    rw [addT_mem, inV_mem]
    constructor
    · rintro ((h | ⟨p, h1, h2⟩) | ⟨h1, h2⟩)
      · exact Or.inl h
      · exact Or.inr ⟨p, by omega, h2⟩
      · exact Or.inr ⟨j, by omega, h1, h2⟩
    · rintro (h | ⟨p, h1, h2⟩)
      · exact Or.inl (Or.inl h)
      · by_cases hp : p = j
        · subst hp
          exact Or.inr h2
        · exact Or.inl (Or.inr ⟨p, by omega, h2⟩)

theorem inV_nodup {S : St} {v : Vl} {l : List ByteArray} (h : l.Nodup) : ∀ j, (inV S v l j).Nodup
  | 0 => h
  | j + 1 => addT_nodup (inV_nodup h j)

theorem inV_length {S : St} {v : Vl} {l : List ByteArray} : ∀ j, (inV S v l j).length ≤ l.length + j
  | 0 => Nat.le_refl _
  | j + 1 => by
    have h1 := inV_length (S := S) (v := v) (l := l) j
    have h2 := addT_length (inV S v l j) ((v.ids.getD j Bg.noId).is) (readR S v.name (j : Int)).1
    show (addT _ _ _).length ≤ _
    omega

theorem room_nodup (S : St) : ∀ k, (room S k).Nodup
  | 0 => List.nodup_nil
  | k + 1 => inV_nodup (room_nodup S k) _

theorem room_mem {S : St} {u : ByteArray} : ∀ {k : Nat}, u ∈ room S k ↔ ∃ i p, i < k ∧ p < (S.vols.getD i ⟨noText, []⟩).ids.length ∧ ((S.vols.getD i ⟨noText, []⟩).ids.getD p Bg.noId).is = true ∧ (readR S (S.vols.getD i ⟨noText, []⟩).name (p : Int)).1 = u
  | 0 => ⟨fun h => absurd h List.not_mem_nil, fun ⟨i, p, h, _⟩ => absurd h (Nat.not_lt_zero _)⟩
  | k + 1 => by
    show u ∈ inV S _ (room S k) _ ↔ _
    rw [inV_mem, room_mem]
    constructor
    · rintro (⟨i, p, h1, h2⟩ | ⟨p, h1, h2⟩)
      · exact ⟨i, p, by omega, h2⟩
      · exact ⟨k, p, by omega, h1, h2⟩
    · rintro ⟨i, p, h1, h2, h3⟩
      by_cases hi : i = k
      · subst hi
        exact Or.inr ⟨p, h2, h3⟩
      · exact Or.inl ⟨i, p, by omega, h2, h3⟩

/-- A place that is there is read. -/
theorem read_zero {S : St} (h : Right S) {i j : Nat} (hi : i < S.vols.length) (hj : j < S.vols[i].ids.length) : (readR S S.vols[i].name (j : Int)).2 = 0 := by
  rw [read_at h hi hj]
  split
  · rename_i hz
    rcases (h.vol _ (List.getElem_mem hi)).ids _ (List.getElem_mem hj) with e | ⟨x, hx, e⟩
    · rw [e] at hz; cases hz
    · rw [(Bg.getR_iff h.bag).2 (has_iff.2 ⟨x, hx, e, rfl⟩)]
  · rfl

theorem room_is {S : St} (h : Right S) : (room S S.vols.length).length = S.bag.length := by
  refine room_length h (room_nodup S _) fun t => ?_
  rw [room_mem]
  unfold Stands
  constructor
  · rintro ⟨i, p, h1, h2, h3, h4⟩
    rw [getD_vol h1] at h2 h3 h4
    rw [List.getD_eq_getElem?_getD, List.getElem?_eq_getElem h2, Option.getD_some] at h3
    refine ⟨i, p, S.vols[i].name, ?_, ?_, ?_⟩
    · rw [List.getElem?_map, List.getElem?_eq_getElem h1]
      rfl
    · unfold flagAt
      rw [List.getElem?_eq_getElem h1]
      dsimp only [Option.bind_some]
      rw [List.getElem?_eq_getElem h2, Option.map_some, h3]
    · exact Prod.ext h4 (read_zero h h1 h2)
  · rintro ⟨i, j, nm, h1, h2, h3⟩
    rw [List.getElem?_map] at h1
    unfold flagAt at h2
    cases hv : S.vols[i]? with
    | none => rw [hv] at h1; cases h1
    | some v =>
      obtain ⟨hi, rfl⟩ := List.getElem?_eq_some_iff.1 hv
      rw [hv] at h1 h2
      dsimp only [Option.bind_some] at h2
      cases h1
      cases hz : S.vols[i].ids[j]? with
      | none => rw [hz] at h2; cases h2
      | some z =>
        obtain ⟨hj, rfl⟩ := List.getElem?_eq_some_iff.1 hz
        rw [hz] at h2
        have h4 : S.vols[i].ids[j].is = true := Option.some.inj h2
        refine ⟨i, j, hi, ?_, ?_, ?_⟩
        · rw [getD_vol hi]; exact hj
        · rw [getD_vol hi, List.getD_eq_getElem?_getD, List.getElem?_eq_getElem hj, Option.getD_some]; exact h4
        · rw [getD_vol hi, h3]

theorem room_step {S : St} {k : Nat} (hk : k < S.vols.length) : room S (k + 1) = inV S S.vols[k] (room S k) S.vols[k].ids.length := by
  show inV S _ (room S k) _ = _
  rw [getD_vol hk]

theorem inV_step {S : St} {v : Vl} {l : List ByteArray} {j : Nat} (hj : j < v.ids.length) : inV S v l (j + 1) = addT (inV S v l j) v.ids[j].is (readR S v.name (j : Int)).1 := by
  show addT _ _ _ = _
  rw [List.getD_eq_getElem?_getD, List.getElem?_eq_getElem hj, Option.getD_some]

end Go.Proofs.Yteddendidjhmbaa.Vo
