/- Plain facts on the tokens of runs and of different bytes. No program in sight. -/
import Derived.Test.YtdmfgdhfkceihaaLzP
namespace Go.Proofs.Ytdmfgdhfkceihaa.Lz
open Go.Proofs.Ytdmfgdhfkceihaa

theorem bst_same (c : UInt8) (n i : Nat) (h1 : 1 ≤ i) (h2 : i < n) : (bst (List.replicate n c) 5 i).2 = min 64 (n - i) := by
  have hl : (List.replicate n c).length = n := by simp
  have hi := bst_in (s := List.replicate n c) (w := 5) (i := i) (by omega)
  have h64 := bst_le64 (List.replicate n c) 5 i
  have hr := Mt.run_most (List.replicate n c) i 1 64 0 (min 64 (n - i)) (by omega) (fun k _ hk => by
    refine ⟨by rw [hl]; omega, ?_⟩
    rw [List.getElem?_replicate, List.getElem?_replicate, if_pos (by omega), if_pos (by omega)])
  have hb := (Mt.best_max (List.replicate n c) i (min 5 i) 1 (Nat.le_refl _) (by omega)).1
  have hd : (bst (List.replicate n c) 5 i).2 = (Mt.best (List.replicate n c) i (min 5 i)).2 := rfl
  rw [hl] at hi
  omega

theorem rest_same (c : UInt8) (n : Nat) : ∀ (k i : Nat), 1 ≤ i → i ≤ n → n - i ≤ k → (rest (List.replicate n c) 5 i).length = (n - i + 63) / 64
  | 0, i, _, _, h => by rw [rest_end (by simp; omega), show n - i = 0 from by omega]; rfl
  | k + 1, i, h1, h2, h3 => by
    by_cases hi : i < n
    · have hl : (List.replicate n c).length = n := by simp
      have hb := bst_same c n i h1 hi
      have hs : stepAt (List.replicate n c) 5 i = min 64 (n - i) := by unfold stepAt; rw [hb]; split <;> omega
      rw [rest_step (by rw [hl]; exact hi), List.length_cons, hs, rest_same c n k _ (by omega) (by omega) (by omega)]
      omega
    · rw [rest_end (by simp; omega), show n - i = 0 from by omega]; rfl

theorem parse_same (c : UInt8) (n : Nat) : (parse (List.replicate n c) 5).length = if n = 0 then 0 else 1 + (n - 1 + 63) / 64 := by
  have hl : (List.replicate n c).length = n := by simp
  unfold parse
  split
  · subst n; rfl
  · have h0 : bst (List.replicate n c) 5 0 = (0, 0) := rfl
    have hs : stepAt (List.replicate n c) 5 0 = 1 := by unfold stepAt; rw [h0]; rfl
    rw [rest_step (by rw [hl]; omega), List.length_cons, hs, rest_same c n n (0 + 1) (by omega) (by omega) (by omega)]
    omega

/-- Bytes from c on. -/
def ups (c m : Nat) : List UInt8 := (List.range m).map fun i => UInt8.ofNat (c + i)

theorem ups_succ (c m : Nat) : ups c (m + 1) = ups c m ++ [UInt8.ofNat (c + m)] := by unfold ups; rw [List.range_succ, List.map_append]; rfl
theorem ups_length (c m : Nat) : (ups c m).length = m := by unfold ups; simp

theorem ups_bst (c m w i : Nat) (hm : m ≤ 256) (hi : i < m) : (bst (ups c m) w i).2 = 0 := by
  rcases Nat.eq_zero_or_pos (bst (ups c m) w i).2 with h | h
  · exact h
  · exfalso
    have h' : 0 < (Mt.best (ups c m) i (min w i)).2 := h
    obtain ⟨d, h1, h2, h3⟩ := (Mt.best_pos (ups c m) i (min w i) (by rw [ups_length]; exact hi)).1 h'
    unfold ups at h3
    rw [List.getElem?_map, List.getElem?_map, List.getElem?_range (by omega), List.getElem?_range (by omega)] at h3
    have h4 := congrArg UInt8.toNat (Option.some.inj h3)
    rw [UInt8.toNat_ofNat', UInt8.toNat_ofNat'] at h4
    omega

theorem ups_rest (c m w : Nat) (hm : m ≤ 256) : ∀ (k i : Nat), i ≤ m → m - i ≤ k → (rest (ups c m) w i).length = m - i ∧ ∀ t ∈ rest (ups c m) w i, t.n = 0
  | 0, i, _, h => by rw [rest_end (by rw [ups_length]; omega)]; exact ⟨by simp; omega, fun t ht => by cases ht⟩
  | k + 1, i, h1, h2 => by
    by_cases hi : i < m
    · have hb := ups_bst c m w i hm hi
      have hs : stepAt (ups c m) w i = 1 := by unfold stepAt; rw [hb]; rfl
      have ht : (tokAt (ups c m) w i).n = 0 := by unfold tokAt; rw [hb]; rfl
      have ih := ups_rest c m w hm k (i + 1) (by omega) (by omega)
      rw [rest_step (by rw [ups_length]; exact hi), hs]
      refine ⟨by rw [List.length_cons, ih.1]; omega, fun t h => ?_⟩
      rcases List.mem_cons.1 h with rfl | h
      · exact ht
      · exact ih.2 t h
    · rw [rest_end (by rw [ups_length]; omega)]; exact ⟨by simp; omega, fun t ht => by cases ht⟩

theorem ups_parse (c m w : Nat) (hm : m ≤ 256) : (parse (ups c m) w).length = m ∧ ∀ t ∈ parse (ups c m) w, t.n = 0 := ups_rest c m w hm m 0 (Nat.zero_le _) (by omega)

end Go.Proofs.Ytdmfgdhfkceihaa.Lz
