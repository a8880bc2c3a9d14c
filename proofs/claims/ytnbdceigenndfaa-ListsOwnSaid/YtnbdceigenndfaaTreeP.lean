/- Trees of prints, plain facts: levels, the root, the halves. No program in sight. -/
import Derived.Test.YtnbdceigenndfaaPlainW
namespace Go.Proofs.Ytnbdceigenndfaa.Tr

/-- The print by the great modulus; a number's four bytes. -/
def pr (l : List UInt8) : Nat := G.print 1073741907 l
def four (p : Nat) : List UInt8 := [UInt8.ofNat (p / 16777216), UInt8.ofNat (p / 65536), UInt8.ofNat (p / 256), UInt8.ofNat p]
/-- What stands for a leaf, for a pair. -/
def leaf (s : List UInt8) : Nat := pr (108 :: s)
def said (a b : Nat) : List UInt8 := 110 :: (four a ++ four b)
def node (a b : Nat) : Nat := pr (said a b)

/-- The level above one. -/
def up : List Nat → List Nat
  | a :: b :: r => node a b :: up r
  | [a] => [a]
  | [] => []

/-- All levels above one, itself the first. -/
def levelsF : Nat → List Nat → List (List Nat)
  | 0, l => [l]
  | f + 1, l => if l.length ≤ 1 then [l] else l :: levelsF f (up l)

def levels (l : List Nat) : List (List Nat) := levelsF l.length l

/-- The root. -/
def rootF : Nat → List Nat → Nat
  | 0, l => l.headD 0
  | f + 1, l => if l.length ≤ 1 then l.headD 0 else rootF f (up l)

def root (l : List Nat) : Nat := rootF l.length l

theorem up_length : ∀ l : List Nat, (up l).length = (l.length + 1) / 2
  | a :: b :: r => by rw [up, List.length_cons, List.length_cons, List.length_cons, up_length r]; omega
  | [_] => by simp [up]
  | [] => rfl

theorem up_lt {l : List Nat} (h : 1 < l.length) : (up l).length < l.length := by rw [up_length]; omega

theorem levelsF_more (f g : Nat) (l : List Nat) (hf : l.length ≤ f + 1) (hg : l.length ≤ g + 1) : levelsF f l = levelsF g l := by
  induction f generalizing g l with
  | zero =>
    cases g with
    | zero => rfl
    | succ g => rw [levelsF, levelsF, if_pos hf]
  | succ f ih =>
    cases g with
    | zero => rw [levelsF, levelsF, if_pos hg]
    | succ g =>
      rw [levelsF, levelsF]
      by_cases h : l.length ≤ 1
      · rw [if_pos h, if_pos h]
      · rw [if_neg h, if_neg h, ih g (up l) (by have := up_lt (l := l) (by omega); omega) (by have := up_lt (l := l) (by omega); omega)]

theorem rootF_more (f g : Nat) (l : List Nat) (hf : l.length ≤ f + 1) (hg : l.length ≤ g + 1) : rootF f l = rootF g l := by
  induction f generalizing g l with
  | zero =>
    cases g with
    | zero => rfl
    | succ g => rw [rootF, rootF, if_pos hf]
  | succ f ih =>
    cases g with
    | zero => rw [rootF, rootF, if_pos hg]
    | succ g =>
      rw [rootF, rootF]
      by_cases h : l.length ≤ 1
      · rw [if_pos h, if_pos h]
      · rw [if_neg h, if_neg h, ih g (up l) (by have := up_lt (l := l) (by omega); omega) (by have := up_lt (l := l) (by omega); omega)]

theorem levels_one {l : List Nat} (h : l.length ≤ 1) : levels l = [l] := by
  unfold levels
  rw [levelsF_more l.length 0 l (by omega) (by omega)]
  rfl

theorem levels_up {l : List Nat} (h : 1 < l.length) : levels l = l :: levels (up l) := by
  unfold levels
  obtain ⟨n, hn⟩ : ∃ n, l.length = n + 1 := ⟨l.length - 1, by omega⟩
  have := up_lt h
  rw [hn, levelsF, if_neg (by omega), levelsF_more n (up l).length (up l) (by omega) (by omega)]

theorem root_one {l : List Nat} (h : l.length ≤ 1) : root l = l.headD 0 := by
  unfold root
  rw [rootF_more l.length 0 l (by omega) (by omega)]
  rfl

theorem root_up {l : List Nat} (h : 1 < l.length) : root l = root (up l) := by
  unfold root
  obtain ⟨n, hn⟩ : ∃ n, l.length = n + 1 := ⟨l.length - 1, by omega⟩
  have := up_lt h
  rw [hn, rootF, if_neg (by omega), rootF_more n (up l).length (up l) (by omega) (by omega)]

/-- Whatever the length. -/
theorem root_up' (l : List Nat) : root (up l) = root l := by
  by_cases h : 1 < l.length
  · exact (root_up h).symm
  · match l, h with
    | [], _ => rfl
    | [a], _ => rfl
    | _ :: _ :: _, h => exact absurd (by simp) h

theorem ups_ne {l : List Nat} (h : l ≠ []) : up l ≠ [] := by
  intro h2
  have := up_length l
  rw [h2] at this
  have h3 := List.length_pos_iff.2 h
  simp at this
  omega

/-- The last level is the root alone. -/
theorem levels_last (l : List Nat) (h : l ≠ []) : (levels l).getLast? = some [root l] := by
  obtain ⟨n, hn⟩ : ∃ n, l.length ≤ n := ⟨_, Nat.le_refl _⟩
  induction n generalizing l with
  | zero => exact absurd (List.length_eq_zero_iff.1 (Nat.le_zero.1 hn)) h
  | succ n ih =>
    by_cases h1 : 1 < l.length
    · rw [levels_up h1, root_up h1, List.getLast?_cons, ih (up l) (ups_ne h) (by have := up_lt h1; omega)]
      rfl
    · rw [levels_one (by omega), root_one (by omega)]
      match l, h, h1 with
      | [a], _, _ => rfl
      | _ :: _ :: _, _, h1 => exact absurd (by simp) h1

theorem levels_len (l : List Nat) (h : l ≠ []) : (levels l).length ≤ l.length := by
  obtain ⟨n, hn⟩ : ∃ n, l.length ≤ n := ⟨_, Nat.le_refl _⟩
  induction n generalizing l with
  | zero => exact absurd (List.length_eq_zero_iff.1 (Nat.le_zero.1 hn)) h
  | succ n ih =>
    by_cases h1 : 1 < l.length
    · have hlt := up_lt h1
      have := ih (up l) (ups_ne h) (by omega)
      rw [levels_up h1, List.length_cons]
      omega
    · rw [levels_one (by omega)]
      exact List.length_pos_iff.2 h

theorem up_take : ∀ (l : List Nat) (m : Nat), 2 * m ≤ l.length → up (l.take (2 * m)) = (up l).take m
  | _, 0, _ => rfl
  | a :: b :: r, m + 1, h => by
    rw [show 2 * (m + 1) = 2 * m + 1 + 1 from by omega, List.take_succ_cons, List.take_succ_cons, up, up, List.take_succ_cons, up_take r m (by simp at h; omega)]
  | [_], m + 1, h => by simp at h; omega
  | [], m + 1, h => by simp at h

theorem up_drop : ∀ (l : List Nat) (m : Nat), 2 * m ≤ l.length → up (l.drop (2 * m)) = (up l).drop m
  | _, 0, _ => rfl
  | a :: b :: r, m + 1, h => by
    rw [show 2 * (m + 1) = 2 * m + 1 + 1 from by omega, List.drop_succ_cons, List.drop_succ_cons, up, List.drop_succ_cons, up_drop r m (by simp at h; omega)]
  | [_], m + 1, h => by simp at h; omega
  | [], m + 1, h => by simp at h

/-- The halves: parted at the greatest power of two. -/
theorem halves (j : Nat) : ∀ l : List Nat, 2 ^ j < l.length → l.length ≤ 2 * 2 ^ j → root l = node (root (l.take (2 ^ j))) (root (l.drop (2 ^ j))) := by
  induction j with
  | zero =>
    intro l h1 h2
    match l, h1, h2 with
    | [a, b], _, _ =>
      rw [root_up (by simp)]
      rw [root_one (by simp [up])]
      rw [root_one (l := [a, b].take (2 ^ 0)) (by simp), root_one (l := [a, b].drop (2 ^ 0)) (by simp)]
      rfl
    | [], h1, _ => exact absurd h1 (by simp)
    | [_], h1, _ => exact absurd h1 (by simp)
    | _ :: _ :: _ :: _, _, h2 => exact absurd h2 (by simp)
  | succ j ih =>
    intro l h1 h2
    have hp := Nat.two_pow_pos j
    rw [Nat.pow_succ, Nat.mul_comm] at h1 h2 ⊢
    rw [← root_up' (l.take _), ← root_up' (l.drop _), up_take l _ (by omega), up_drop l _ (by omega), ← root_up' l]
    exact ih (up l) (by rw [up_length]; omega) (by rw [up_length]; omega)

end Go.Proofs.Ytnbdceigenndfaa.Tr
