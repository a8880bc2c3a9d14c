/- Plain facts on longest matches in a list of bytes: no program in sight. -/
namespace Go.Proofs.Ytdmfgdhfkceihaa.Mt

/-- How far the text at i agrees with the text d bytes behind, from n on, at most f more. -/
def run (l : List UInt8) (i d : Nat) : Nat → Nat → Nat
  | 0, n => n
  | f + 1, n => if i + n < l.length ∧ l[i + n]? = l[i + n - d]? then run l i d f (n + 1) else n

/-- The longest match among distances 1 to d, the nearest first. -/
def best (l : List UInt8) (i : Nat) : Nat → Nat × Nat
  | 0 => (0, 0)
  | d + 1 => if (best l i d).2 < run l i (d + 1) 64 0 then (d + 1, run l i (d + 1) 64 0) else best l i d

theorem run_ge (l : List UInt8) (i d f n : Nat) : n ≤ run l i d f n := by
  induction f generalizing n with
  | zero => exact Nat.le_refl _
  | succ f ih => unfold run; split; · exact Nat.le_trans (Nat.le_succ _) (ih _)
                 · exact Nat.le_refl _

theorem run_le (l : List UInt8) (i d f n : Nat) : run l i d f n ≤ n + f := by
  induction f generalizing n with
  | zero => exact Nat.le_refl _
  | succ f ih => unfold run; split; · have := ih (n + 1); omega
                 · omega

theorem run_fit (l : List UInt8) (i d f n : Nat) (h : i + n ≤ l.length) : i + run l i d f n ≤ l.length := by
  induction f generalizing n with
  | zero => exact h
  | succ f ih => unfold run; split; · exact ih (n + 1) (by omega)
                 · omega

theorem run_yes (l : List UInt8) (i d f n : Nat) (h1 : i + n < l.length) (h2 : l[i + n]? = l[i + n - d]?) : run l i d (f + 1) n = run l i d f (n + 1) := by
  rw [run, if_pos ⟨h1, h2⟩]

theorem run_no (l : List UInt8) (i d f n : Nat) (h : ¬ (i + n < l.length ∧ l[i + n]? = l[i + n - d]?)) : run l i d (f + 1) n = n := by
  rw [run, if_neg h]

theorem best_up {l : List UInt8} {i k n : Nat} (hr : run l i (k + 1) 64 0 = n) (h : (best l i k).2 < n) : best l i (k + 1) = (k + 1, n) := by
  rw [best, hr, if_pos h]

theorem best_stay {l : List UInt8} {i k n : Nat} (hr : run l i (k + 1) 64 0 = n) (h : ¬ (best l i k).2 < n) : best l i (k + 1) = best l i k := by
  rw [best, hr, if_neg h]

theorem best_le (l : List UInt8) (i d : Nat) : (best l i d).1 ≤ d := by
  induction d with
  | zero => exact Nat.le_refl _
  | succ d ih => unfold best; split; · exact Nat.le_refl _
                 · omega

theorem best_most (l : List UInt8) (i d : Nat) : (best l i d).2 ≤ 64 := by
  induction d with
  | zero => exact Nat.zero_le _
  | succ d ih => unfold best; split
                 · have := run_le l i (d + 1) 64 0; simpa using this
                 · exact ih

end Go.Proofs.Ytdmfgdhfkceihaa.Mt
namespace Go.Proofs.Ytdmfgdhfkceihaa.Mt

theorem run_all (l : List UInt8) (i d f n k : Nat) (h1 : n ≤ k) (h2 : k < run l i d f n) : i + k < l.length ∧ l[i + k]? = l[i + k - d]? := by
  induction f generalizing n with
  | zero => simp [run] at h2; omega
  | succ f ih =>
    unfold run at h2
    split at h2
    · rename_i hc
      by_cases hk : k = n
      · subst hk; exact hc
      · exact ih (n + 1) (by omega) h2
    · omega

theorem run_most (l : List UInt8) (i d f n t : Nat) (ht : t ≤ n + f) (h : ∀ k, n ≤ k → k < t → i + k < l.length ∧ l[i + k]? = l[i + k - d]?) : t ≤ run l i d f n := by
  induction f generalizing n with
  | zero => simp [run]; omega
  | succ f ih =>
    by_cases hn : n < t
    · have hc := h n (Nat.le_refl _) hn
      rw [run_yes _ _ _ _ _ hc.1 hc.2]
      exact ih (n + 1) (by omega) (fun k h1 h2 => h k (by omega) h2)
    · have := run_ge l i d (f + 1) n; omega

theorem best_is (l : List UInt8) (i D : Nat) : ((best l i D).1 = 0 ∧ (best l i D).2 = 0) ∨
    (1 ≤ (best l i D).1 ∧ (best l i D).1 ≤ D ∧ (best l i D).2 = run l i (best l i D).1 64 0 ∧ 0 < (best l i D).2) := by
  induction D with
  | zero => exact Or.inl ⟨rfl, rfl⟩
  | succ D ih =>
    unfold best
    split
    · rename_i h
      exact Or.inr ⟨by simp, by simp, rfl, by show 0 < run l i (D + 1) 64 0; omega⟩
    · rcases ih with h | h
      · exact Or.inl h
      · exact Or.inr ⟨h.1, by omega, h.2.2.1, h.2.2.2⟩

theorem best_max (l : List UInt8) (i D d : Nat) (h1 : 1 ≤ d) (h2 : d ≤ D) :
    run l i d 64 0 ≤ (best l i D).2 ∧ ((best l i D).2 = run l i d 64 0 → (best l i D).1 ≤ d) := by
  induction D with
  | zero => omega
  | succ D ih =>
    by_cases hd : d = D + 1
    · subst hd
      have hl := best_le l i D
      unfold best
      split
      · exact ⟨Nat.le_refl _, fun _ => Nat.le_refl _⟩
      · exact ⟨by omega, fun _ => by omega⟩
    · have ih' := ih (by omega)
      unfold best
      split
      · rename_i h
        refine ⟨by show _ ≤ run l i (D + 1) 64 0; omega, fun h' => ?_⟩
        have h'' : run l i (D + 1) 64 0 = run l i d 64 0 := h'
        omega
      · exact ih'

theorem best_mono (l : List UInt8) (i a b : Nat) (h : a ≤ b) : (best l i a).2 ≤ (best l i b).2 := by
  rcases best_is l i a with h' | h'
  · omega
  · have := best_max l i b (best l i a).1 h'.1 (by omega); omega

theorem best_in (l : List UInt8) (i D : Nat) (h : i ≤ l.length) : i + (best l i D).2 ≤ l.length := by
  rcases best_is l i D with h' | h'
  · omega
  · rw [h'.2.2.1]; exact run_fit l i _ 64 0 (by omega)

/-- From the next byte on a match is at most one shorter. -/
theorem best_next (l : List UInt8) (i a b : Nat) (h : a ≤ b) : (best l i a).2 ≤ (best l (i + 1) b).2 + 1 := by
  rcases best_is l i a with h' | h'
  · omega
  · have h1 := best_max l (i + 1) b (best l i a).1 h'.1 (by omega)
    have hm := best_most l i a
    have h2 := run_most l (i + 1) (best l i a).1 64 0 ((best l i a).2 - 1) (by omega) (by
      intro k _ hk
      have := run_all l i (best l i a).1 64 0 (k + 1) (by omega) (by rw [← h'.2.2.1]; omega)
      rw [show i + 1 + k = i + (k + 1) from by omega]
      exact this)
    omega

/-- What two pieces of a text being the same says of its bytes. -/
theorem sub_iff (l : List UInt8) (a b n : Nat) : (l.drop a).take n = (l.drop b).take n ↔ ∀ k, k < n → l[a + k]? = l[b + k]? := by
  constructor
  · intro h k hk
    have := congrArg (fun x : List UInt8 => x[k]?) h
    simpa [List.getElem?_take, List.getElem?_drop, hk] using this
  · intro h
    apply List.ext_getElem?
    intro k
    rw [List.getElem?_take, List.getElem?_take]
    split
    · rename_i hk; simpa [List.getElem?_drop] using h k hk
    · rfl

theorem best_same (l : List UInt8) (i D : Nat) (hD : D ≤ i) : (l.drop i).take (best l i D).2 = (l.drop (i - (best l i D).1)).take (best l i D).2 := by
  rw [sub_iff]
  intro k hk
  rcases best_is l i D with h' | h'
  · omega
  · have := run_all l i (best l i D).1 64 0 k (by omega) (by rw [← h'.2.2.1]; omega)
    rw [this.2]
    congr 1; omega

theorem best_wins (l : List UInt8) (i D d n : Nat) (hD : D ≤ i) (h1 : 1 ≤ d) (h2 : d ≤ D) (hn : n ≤ 64) (hn1 : 1 ≤ n) (hi : i + n ≤ l.length)
    (h : (l.drop (i - d)).take n = (l.drop i).take n) : n < (best l i D).2 ∨ n = (best l i D).2 ∧ (best l i D).1 ≤ d := by
  have hr := run_most l i d 64 0 n (by omega) (by
    intro k _ hk
    refine ⟨by omega, ?_⟩
    have := (sub_iff l (i - d) i n).1 h k hk
    rw [← this]; congr 1; omega)
  have hb := best_max l i D d h1 h2
  rcases Nat.lt_or_ge n (best l i D).2 with h' | h'
  · exact Or.inl h'
  · exact Or.inr ⟨by omega, hb.2 (by omega)⟩

/-- There is a match just if the byte stands in the window. -/
theorem best_pos (l : List UInt8) (i D : Nat) (hi : i < l.length) : 0 < (best l i D).2 ↔ ∃ d, 1 ≤ d ∧ d ≤ D ∧ l[i]? = l[i - d]? := by
  constructor
  · intro h
    rcases best_is l i D with h' | h'
    · omega
    · refine ⟨_, h'.1, h'.2.1, ?_⟩
      have := run_all l i (best l i D).1 64 0 0 (by omega) (by rw [← h'.2.2.1]; omega)
      exact this.2
  · rintro ⟨d, h1, h2, h3⟩
    have hr := run_most l i d 64 0 1 (by omega) (by
      intro k _ hk
      obtain rfl : k = 0 := by omega
      exact ⟨by omega, h3⟩)
    have := best_max l i D d h1 h2
    omega

end Go.Proofs.Ytdmfgdhfkceihaa.Mt
