/- Cuts, plain facts: where a text is cut hangs on what is left of it alone. No program in sight. -/
import Derived.Test.YtnbdceigenndfaaPlainW
namespace Go.Proofs.Ytnbdceigenndfaa.Ct

/-- Where a piece may end: e bytes on, the eight before it say so. -/
def hit (mask : Nat) (t : List UInt8) (e : Nat) : Bool := G.print 65581 ((t.drop (e - 8)).take (e - (e - 8))) &&& mask == mask

/-- The piece's end, searched from e on. -/
def seek (most mask : Nat) (t : List UInt8) : Nat → Nat → Nat
  | 0, e => e
  | f + 1, e => if e < most ∧ hit mask t e = false then seek most mask t f (e + 1) else e

/-- The first piece's length. -/
def piece (least most mask : Nat) (t : List UInt8) : Nat := seek most mask t (t.length - min t.length least) (min t.length least)

/-- All ends, as lengths from the beginning. -/
def endsF (least most mask : Nat) : Nat → List UInt8 → Nat → List Nat
  | 0, _, _ => []
  | f + 1, t, b => if t = [] then [] else (b + piece least most mask t) :: endsF least most mask f (t.drop (piece least most mask t)) (b + piece least most mask t)

def ends (least most mask : Nat) (t : List UInt8) : List Nat := endsF least most mask t.length t 0

theorem seek_ge (most mask : Nat) (t : List UInt8) (f e : Nat) : e ≤ seek most mask t f e := by
  induction f generalizing e with
  | zero => exact Nat.le_refl _
  | succ f ih =>
    unfold seek; split
    · exact Nat.le_trans (Nat.le_succ e) (ih (e + 1))
    · exact Nat.le_refl _

theorem seek_le (most mask : Nat) (t : List UInt8) (f e : Nat) : seek most mask t f e ≤ e + f := by
  induction f generalizing e with
  | zero => exact Nat.le_refl _
  | succ f ih =>
    unfold seek; split
    · have := ih (e + 1); omega
    · omega

theorem seek_most (most mask : Nat) (t : List UInt8) (f e : Nat) (h : e ≤ most) : seek most mask t f e ≤ most := by
  induction f generalizing e with
  | zero => exact h
  | succ f ih =>
    unfold seek; split
    · rename_i hc; exact ih (e + 1) hc.1
    · exact h

theorem piece_pos {least most mask : Nat} {t : List UInt8} (h : t ≠ []) (hl : 1 ≤ least) : 1 ≤ piece least most mask t := by
  have h1 := seek_ge most mask t (t.length - min t.length least) (min t.length least)
  have h2 : 0 < t.length := List.length_pos_iff.2 h
  unfold piece
  omega

theorem piece_ge (least most mask : Nat) (t : List UInt8) : min t.length least ≤ piece least most mask t := seek_ge ..

theorem piece_le (least most mask : Nat) (t : List UInt8) : piece least most mask t ≤ t.length := by
  have := seek_le most mask t (t.length - min t.length least) (min t.length least)
  unfold piece
  omega

theorem piece_most (least most mask : Nat) (t : List UInt8) (h : least ≤ most) : piece least most mask t ≤ most :=
  seek_most _ _ _ _ _ (by omega)

/-- Moved on: the ends of a text that begins at b. -/
theorem endsF_move (least most mask f : Nat) (t : List UInt8) (b : Nat) : endsF least most mask f t b = (endsF least most mask f t 0).map (b + ·) := by
  induction f generalizing t b with
  | zero => rfl
  | succ f ih =>
    unfold endsF
    split
    · rfl
    · rw [ih _ (b + _), ih _ (0 + _), List.map_cons, List.map_map]
      congr 1
      · omega
      · apply List.map_congr_left; intro x _; simp only [Function.comp]; omega

theorem endsF_more {least most mask : Nat} (hl : 1 ≤ least) (f g : Nat) (t : List UInt8) (b : Nat) (h : t.length ≤ f) (h' : t.length ≤ g) : endsF least most mask f t b = endsF least most mask g t b := by
  induction f generalizing g t b with
  | zero =>
    rw [List.length_eq_zero_iff.1 (Nat.le_zero.1 h)]
    cases g <;> simp [endsF]
  | succ f ih =>
    by_cases ht : t = []
    · subst ht; cases g <;> simp [endsF]
    · have h0 := List.length_pos_iff.2 ht
      obtain ⟨g, rfl⟩ : ∃ k, g = k + 1 := ⟨g - 1, by omega⟩
      have hp := piece_pos (most := most) (mask := mask) ht hl
      unfold endsF
      rw [if_neg ht, if_neg ht, ih g _ _ (by rw [List.length_drop]; omega) (by rw [List.length_drop]; omega)]

theorem ends_nil (least most mask : Nat) : ends least most mask [] = [] := rfl

theorem ends_cons {least most mask : Nat} (hl : 1 ≤ least) {t : List UInt8} (ht : t ≠ []) :
    ends least most mask t = piece least most mask t :: (ends least most mask (t.drop (piece least most mask t))).map (piece least most mask t + ·) := by
  have h0 := List.length_pos_iff.2 ht
  have hp := piece_pos (most := most) (mask := mask) ht hl
  obtain ⟨n, hn⟩ : ∃ k, t.length = k + 1 := ⟨t.length - 1, by omega⟩
  unfold ends
  rw [hn]
  rw [show endsF least most mask (n + 1) t 0 = (0 + piece least most mask t) :: endsF least most mask n (t.drop (piece least most mask t)) (0 + piece least most mask t) from by rw [endsF, if_neg ht]]
  rw [Nat.zero_add, endsF_move, endsF_more hl n (t.drop (piece least most mask t)).length _ 0 (by rw [List.length_drop]; omega) (Nat.le_refl _)]

/-- Induction over the pieces. -/
theorem pieces {least most mask : Nat} (hl : 1 ≤ least) {P : List UInt8 → Prop} (h0 : P []) (h1 : ∀ t, t ≠ [] → P (t.drop (piece least most mask t)) → P t) (t : List UInt8) : P t := by
  obtain ⟨n, hn⟩ : ∃ n, t.length ≤ n := ⟨_, Nat.le_refl _⟩
  induction n generalizing t with
  | zero => rw [List.length_eq_zero_iff.1 (Nat.le_zero.1 hn)]; exact h0
  | succ n ih =>
    by_cases ht : t = []
    · rw [ht]; exact h0
    · have hp := piece_pos (most := most) (mask := mask) ht hl
      exact h1 t ht (ih _ (by rw [List.length_drop]; omega))

theorem ends_ne_nil {least most mask : Nat} (hl : 1 ≤ least) {t : List UInt8} (ht : t ≠ []) : ends least most mask t ≠ [] := by
  rw [ends_cons hl ht]; exact List.cons_ne_nil _ _

theorem ends_length {least most mask : Nat} (hl : 1 ≤ least) (t : List UInt8) : (ends least most mask t).length ≤ t.length := by
  refine pieces (least := least) (most := most) (mask := mask) hl (P := fun t => (ends least most mask t).length ≤ t.length) (by simp [ends_nil]) (fun t ht ih => ?_) t
  have hp := piece_pos (most := most) (mask := mask) ht hl
  have hq := piece_le least most mask t
  rw [ends_cons hl ht, List.length_cons, List.length_map]
  rw [List.length_drop] at ih
  omega

theorem ends_mem {least most mask : Nat} (hl : 1 ≤ least) (t : List UInt8) : ∀ x, x ∈ ends least most mask t → 1 ≤ x ∧ x ≤ t.length := by
  refine pieces (least := least) (most := most) (mask := mask) hl (P := fun t => ∀ x, x ∈ ends least most mask t → 1 ≤ x ∧ x ≤ t.length) (by simp [ends_nil]) (fun t ht ih => ?_) t
  have hp := piece_pos (most := most) (mask := mask) ht hl
  have hq := piece_le least most mask t
  intro x hx
  rw [ends_cons hl ht] at hx
  rcases List.mem_cons.1 hx with rfl | hx
  · exact ⟨hp, hq⟩
  · obtain ⟨y, hy, rfl⟩ := List.mem_map.1 hx
    have := ih y hy
    rw [List.length_drop] at this
    omega

/-- Behind a cut it goes on as if the text began there. -/
theorem ends_local {least most mask : Nat} (hl : 1 ≤ least) (t : List UInt8) : ∀ i x, (ends least most mask t)[i]? = some x →
    (ends least most mask t).drop (i + 1) = (ends least most mask (t.drop x)).map (x + ·) := by
  refine pieces (least := least) (most := most) (mask := mask) hl (P := fun t => ∀ i x, (ends least most mask t)[i]? = some x → (ends least most mask t).drop (i + 1) = (ends least most mask (t.drop x)).map (x + ·)) (by intro i x h; simp [ends_nil] at h) (fun t ht ih => ?_) t
  intro i x hx
  have hc := ends_cons (most := most) (mask := mask) hl ht
  rw [hc] at hx ⊢
  cases i with
  | zero =>
    rw [List.getElem?_cons_zero] at hx
    obtain rfl := Option.some.inj hx
    rfl
  | succ i =>
    rw [List.getElem?_cons_succ, List.getElem?_map] at hx
    obtain ⟨y, hy, rfl⟩ := Option.map_eq_some_iff.1 hx
    have := ih i y hy
    rw [List.drop_succ_cons, ← List.map_drop, this, List.map_map, List.drop_drop]
    apply List.map_congr_left; intro z _; simp only [Function.comp]; omega

/-- The last end is the text's. -/
theorem ends_last {least most mask : Nat} (hl : 1 ≤ least) (t : List UInt8) (ht : t ≠ []) : (ends least most mask t).getLast? = some t.length := by
  refine pieces (least := least) (most := most) (mask := mask) hl (P := fun t => t ≠ [] → (ends least most mask t).getLast? = some t.length) (fun h => absurd rfl h) (fun t ht ih _ => ?_) t ht
  have hp := piece_pos (most := most) (mask := mask) ht hl
  have hq := piece_le least most mask t
  rw [ends_cons hl ht]
  by_cases hd : t.drop (piece least most mask t) = []
  · have : t.length ≤ piece least most mask t := List.drop_eq_nil_iff.1 hd
    rw [hd, ends_nil, List.map_nil, List.getLast?_singleton]
    congr 1; omega
  · have h := ih hd
    rw [List.getLast?_cons, List.getLast?_map, h, List.length_drop]
    simp
    omega

theorem hit_take {mask : Nat} {s t : List UInt8} {e : Nat} (h : s.take e = t.take e) : hit mask s e = hit mask t e := by
  have : (s.drop (e - 8)).take (e - (e - 8)) = (t.drop (e - 8)).take (e - (e - 8)) := by
    rw [← List.drop_take, ← List.drop_take, h]
  unfold hit; rw [this]

/-- With more behind it the search ends where it did, if it ended ahead of the end. -/
theorem seek_ahead (most mask : Nat) (s t : List UInt8) (f g e : Nat) (hf : e + f = s.length) (hg : f ≤ g) (h : seek most mask s f e < s.length) : seek most mask (s ++ t) g e = seek most mask s f e := by
  induction f generalizing g e with
  | zero => unfold seek at h; omega
  | succ f ih =>
    obtain ⟨g, rfl⟩ : ∃ k, g = k + 1 := ⟨g - 1, by omega⟩
    have hh : hit mask (s ++ t) e = hit mask s e := hit_take (by rw [List.take_append_of_le_length (by omega)])
    unfold seek at h ⊢
    rw [hh]
    by_cases hc : e < most ∧ hit mask s e = false
    · rw [if_pos hc] at h ⊢
      rw [if_pos hc]
      exact ih g (e + 1) (by omega) (by omega) h
    · rw [if_neg hc, if_neg hc]

theorem piece_ahead (least most mask : Nat) (s t : List UInt8) (h : piece least most mask s < s.length) : piece least most mask (s ++ t) = piece least most mask s := by
  have hge := piece_ge least most mask s
  have e1 : min s.length least = least := by omega
  have e2 : min (s ++ t).length least = least := by rw [List.length_append]; omega
  unfold piece at h ⊢
  rw [e1] at h ⊢
  rw [e2]
  exact seek_ahead _ _ _ _ _ _ _ (by omega) (by rw [List.length_append]; omega) h

theorem ends_ahead {least most mask : Nat} (hl : 1 ≤ least) (s t : List UInt8) : (ends least most mask s).length - 1 ≤ (ends least most mask (s ++ t)).length ∧
    (ends least most mask s).take ((ends least most mask s).length - 1) = (ends least most mask (s ++ t)).take ((ends least most mask s).length - 1) := by
  refine pieces (least := least) (most := most) (mask := mask) hl (P := fun s => (ends least most mask s).length - 1 ≤ (ends least most mask (s ++ t)).length ∧
    (ends least most mask s).take ((ends least most mask s).length - 1) = (ends least most mask (s ++ t)).take ((ends least most mask s).length - 1)) (by simp [ends_nil]) (fun s hs ih => ?_) s
  have hq := piece_le least most mask s
  have hst : s ++ t ≠ [] := fun h => hs (List.append_eq_nil_iff.1 h).1
  rw [ends_cons hl hs]
  by_cases hd : piece least most mask s < s.length
  · rw [ends_cons hl hst, piece_ahead _ _ _ _ _ hd, List.drop_append_of_le_length hq]
    have hn : 0 < (ends least most mask (s.drop (piece least most mask s))).length := List.length_pos_iff.2 (ends_ne_nil hl (by intro h; have := List.drop_eq_nil_iff.1 h; omega))
    obtain ⟨k, hk⟩ : ∃ k, (ends least most mask (s.drop (piece least most mask s))).length = k + 1 := ⟨(ends least most mask (s.drop (piece least most mask s))).length - 1, by omega⟩
    rw [hk] at ih
    rw [List.length_cons, List.length_map, List.length_cons, List.length_map, hk]
    refine ⟨by omega, ?_⟩
    rw [show k + 1 + 1 - 1 = k + 1 from rfl, List.take_succ_cons, List.take_succ_cons, ← List.map_take, ← List.map_take]
    have := ih.2
    rw [show k + 1 - 1 = k from rfl] at this
    rw [this]
  · have : s.drop (piece least most mask s) = [] := List.drop_eq_nil_iff.2 (by omega)
    rw [this, ends_nil]
    simp

/-- Ends rise. -/
theorem ends_take_le {least most mask : Nat} (hl : 1 ≤ least) (t : List UInt8) : ∀ i c, (ends least most mask t)[i]? = some c → ∀ d, d ∈ (ends least most mask t).take (i + 1) → d ≤ c := by
  refine pieces (least := least) (most := most) (mask := mask) hl (P := fun t => ∀ i c, (ends least most mask t)[i]? = some c → ∀ d, d ∈ (ends least most mask t).take (i + 1) → d ≤ c) (by intro i c h; simp [ends_nil] at h) (fun t ht ih => ?_) t
  intro i c hx d hd
  have hc := ends_cons (most := most) (mask := mask) hl ht
  rw [hc] at hx hd
  cases i with
  | zero =>
    rw [List.getElem?_cons_zero] at hx
    obtain rfl := Option.some.inj hx
    rw [List.take_succ_cons, List.take_zero] at hd
    rw [List.mem_singleton.1 hd]
    exact Nat.le_refl _
  | succ i =>
    rw [List.getElem?_cons_succ, List.getElem?_map] at hx
    obtain ⟨y, hy, rfl⟩ := Option.map_eq_some_iff.1 hx
    rw [List.take_succ_cons] at hd
    rcases List.mem_cons.1 hd with rfl | hd
    · exact Nat.le_add_right _ _
    · rw [← List.map_take] at hd
      obtain ⟨z, hz, rfl⟩ := List.mem_map.1 hd
      have := ih i y hy z hz
      omega

/-- Cuts behind a cut: the cuts of what is left. -/
theorem ends_after {least most mask : Nat} (hl : 1 ≤ least) (t : List UInt8) : ∀ c d, c ∈ ends least most mask t → c < d → (d ∈ ends least most mask t ↔ d - c ∈ ends least most mask (t.drop c)) := by
  intro c d hc hd
  obtain ⟨i, hi, hx⟩ := List.getElem_of_mem hc
  have hx' : (ends least most mask t)[i]? = some c := by rw [List.getElem?_eq_getElem hi, hx]
  have h := ends_local (most := most) (mask := mask) hl t i c hx'
  have hs : ends least most mask t = (ends least most mask t).take (i + 1) ++ (ends least most mask (t.drop c)).map (c + ·) := by
    rw [← h, List.take_append_drop]
  have hle := ends_take_le (most := most) (mask := mask) hl t i c hx'
  constructor
  · intro h1
    rw [hs] at h1
    rcases List.mem_append.1 h1 with h1 | h1
    · have := hle d h1; omega
    · obtain ⟨y, hy, rfl⟩ := List.mem_map.1 h1
      rw [Nat.add_sub_cancel_left]; exact hy
  · intro h1
    rw [hs]
    exact List.mem_append.2 (Or.inr (List.mem_map.2 ⟨d - c, h1, by omega⟩))

/-- Without a mask: the least that there may be. -/
theorem piece_even {least most : Nat} (t : List UInt8) : piece least most 0 t = min t.length least := by
  unfold piece
  generalize t.length - min t.length least = f
  cases f with
  | zero => rfl
  | succ f =>
    unfold seek
    rw [if_neg]
    intro h
    have : hit 0 t (min t.length least) = true := by unfold hit; rw [Nat.and_zero]; rfl
    rw [this] at h
    exact absurd h.2 (by decide)

theorem ends_even {least most : Nat} (hl : 1 ≤ least) (t : List UInt8) : (ends least most 0 t).length = (t.length + least - 1) / least ∧
    ∀ i x, (ends least most 0 t)[i]? = some x → x = min t.length ((i + 1) * least) := by
  refine pieces (least := least) (most := most) (mask := 0) hl (P := fun t => (ends least most 0 t).length = (t.length + least - 1) / least ∧
    ∀ i x, (ends least most 0 t)[i]? = some x → x = min t.length ((i + 1) * least)) ?_ (fun t ht ih => ?_) t
  · refine ⟨?_, fun i x h => ?_⟩
    · rw [ends_nil]
      show 0 = (0 + least - 1) / least
      rw [Nat.div_eq_of_lt (by omega)]
    · simp [ends_nil] at h
  · have h0 := List.length_pos_iff.2 ht
    rw [ends_cons hl ht, piece_even]
    rw [piece_even, List.length_drop] at ih
    refine ⟨?_, fun i x hx => ?_⟩
    · rw [List.length_cons, List.length_map, ih.1]
      by_cases h : t.length ≤ least
      · rw [Nat.min_eq_left h, Nat.sub_self, Nat.div_eq_of_lt (by omega : 0 + least - 1 < least)]
        rw [show t.length + least - 1 = (t.length - 1) + least from by omega, Nat.add_div_right _ hl, Nat.div_eq_of_lt (by omega)]
      · rw [Nat.min_eq_right (by omega), show t.length + least - 1 = (t.length - least + least - 1) + least from by omega, Nat.add_div_right _ hl]
    · cases i with
      | zero =>
        rw [List.getElem?_cons_zero] at hx
        rw [← Option.some.inj hx, Nat.zero_add, Nat.one_mul]
      | succ i =>
        rw [List.getElem?_cons_succ, List.getElem?_map] at hx
        obtain ⟨y, hy, rfl⟩ := Option.map_eq_some_iff.1 hx
        have := ih.2 i y hy
        rw [this]
        have e : (i + 1 + 1) * least = (i + 1) * least + least := Nat.succ_mul _ _
        rw [e]
        generalize (i + 1) * least = z
        omega

theorem and_or_hit {mask m2 : Nat} {t : List UInt8} {e : Nat} (h : hit (mask ||| m2) t e = true) : hit mask t e = true := by
  unfold hit at h ⊢
  rw [beq_iff_eq] at h ⊢
  generalize G.print 65581 ((t.drop (e - 8)).take (e - (e - 8))) = p at *
  apply Nat.eq_of_testBit_eq
  intro i
  have := congrArg (fun x => x.testBit i) h
  simp only [Nat.testBit_and, Nat.testBit_or] at this
  rw [Nat.testBit_and]
  revert this
  cases p.testBit i <;> cases mask.testBit i <;> cases m2.testBit i <;> simp

theorem seek_mono (most mask m2 : Nat) (t : List UInt8) (f e : Nat) : seek most mask t f e ≤ seek most (mask ||| m2) t f e := by
  induction f generalizing e with
  | zero => exact Nat.le_refl _
  | succ f ih =>
    by_cases h1 : e < most ∧ hit mask t e = false
    · have h2 : e < most ∧ hit (mask ||| m2) t e = false := ⟨h1.1, by
        cases hh : hit (mask ||| m2) t e
        · rfl
        · rw [and_or_hit hh] at h1; exact absurd h1.2 (by decide)⟩
      rw [seek, seek, if_pos h1, if_pos h2]
      exact ih (e + 1)
    · rw [seek, if_neg h1]
      exact seek_ge ..

theorem piece_mono (least most mask m2 : Nat) (t : List UInt8) : piece least most mask t ≤ piece least most (mask ||| m2) t := seek_mono ..

/-- What the walk goes through: from b on, with the row that was made. -/
theorem ends_step {least most mask : Nat} (hl : 1 ≤ least) (t : List UInt8) (b : Nat) (hb : b < t.length) (l : List Nat) (h : l ++ (ends least most mask (t.drop b)).map (b + ·) = ends least most mask t) :
    (l ++ [b + piece least most mask (t.drop b)]) ++ (ends least most mask (t.drop (b + piece least most mask (t.drop b)))).map (b + piece least most mask (t.drop b) + ·) = ends least most mask t := by
  have hne : t.drop b ≠ [] := by intro h; have := List.drop_eq_nil_iff.1 h; omega
  rw [← h, ends_cons hl hne, List.map_cons, List.append_assoc, List.drop_drop, List.map_map]
  congr 1
  show _ :: List.map _ _ = _ :: List.map _ _
  congr 1
  apply List.map_congr_left; intro z _; simp only [Function.comp]; omega

end Go.Proofs.Ytnbdceigenndfaa.Ct
