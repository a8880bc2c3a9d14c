/- Two ways up a tree that end in one print: plain facts. No program in sight. -/
import Derived.Test.YtenkdpogdfcbgaaTreeW4
import Derived.Test.YtenkdpogdfcbgaaTreeProofP
namespace Go.Proofs.Ytenkdpogdfcbgaa.Bn
open Go.Proofs.Ytenkdpogdfcbgaa

/-- On which sides the steps of a place stand. -/
def sidesF : Nat → Nat → Nat → List Bool
  | 0, _, _ => []
  | f + 1, n, i => if n ≤ 1 then [] else if Tr.sib i < n then decide (Tr.sib i < i) :: sidesF f ((n + 1) / 2) (i / 2) else sidesF f ((n + 1) / 2) (i / 2)

def sides (n i : Nat) : List Bool := sidesF n n i

theorem sidesF_more : ∀ (f g n i : Nat), n ≤ f + 1 → n ≤ g + 1 → sidesF f n i = sidesF g n i
  | 0, 0, _, _, _, _ => rfl
  | 0, g + 1, n, i, h, _ => by rw [sidesF, sidesF, if_pos (by omega)]
  | f + 1, 0, n, i, _, h => by rw [sidesF, sidesF, if_pos (by omega)]
  | f + 1, g + 1, n, i, h1, h2 => by
    rw [sidesF, sidesF]
    by_cases h : n ≤ 1
    · rw [if_pos h, if_pos h]
    · rw [if_neg h, if_neg h, sidesF_more f g ((n + 1) / 2) (i / 2) (by omega) (by omega)]

theorem sides_one {n i : Nat} (h : n ≤ 1) : sides n i = [] := by
  unfold sides
  cases n with
  | zero => rfl
  | succ n => rw [sidesF, if_pos h]

theorem sides_in {n i : Nat} (h : 1 < n) (hs : Tr.sib i < n) : sides n i = decide (Tr.sib i < i) :: sides ((n + 1) / 2) (i / 2) := by
  unfold sides
  obtain ⟨m, rfl⟩ : ∃ m, n = m + 1 := ⟨n - 1, by omega⟩
  rw [sidesF, if_neg (by omega), if_pos hs, sidesF_more m ((m + 1 + 1) / 2) _ _ (by omega) (by omega)]

theorem sides_out {n i : Nat} (h : 1 < n) (hs : ¬ Tr.sib i < n) : sides n i = sides ((n + 1) / 2) (i / 2) := by
  unfold sides
  obtain ⟨m, rfl⟩ : ∃ m, n = m + 1 := ⟨n - 1, by omega⟩
  rw [sidesF, if_neg (by omega), if_neg hs, sidesF_more m ((m + 1 + 1) / 2) _ _ (by omega) (by omega)]

/-- One step up. -/
def str (b : Bool) (x p : Nat) : List UInt8 := if b = true then Tr.said x p else Tr.said p x
/-- What is said on the way, and the last print. -/
def ld : Nat → List (Bool × Nat) → List (List UInt8)
  | _, [] => []
  | p, (b, x) :: r => str b x p :: ld (Tr.pr (str b x p)) r
def fin : Nat → List (Bool × Nat) → Nat
  | p, [] => p
  | p, (b, x) :: r => fin (Tr.pr (str b x p)) r

theorem ld_length : ∀ (p : Nat) (st : List (Bool × Nat)), (ld p st).length = st.length
  | _, [] => rfl
  | p, (b, x) :: r => by rw [ld, List.length_cons, List.length_cons, ld_length]

/-- Small: all sums may be prints. -/
def small (st : List (Bool × Nat)) : Prop := ∀ t, t ∈ st → t.2 ≤ 2147483647

theorem str_ne' {b : Bool} {x y p q : Nat} (hx : x ≤ 2147483647) (hy : y ≤ 2147483647) (hp : p ≤ 2147483647) (hq : q ≤ 2147483647) (h : p ≠ q) : str b x p ≠ str b y q := by
  intro e
  unfold str at e
  cases b
  · exact h (said_inj hp hx hq hy e).1
  · exact h (said_inj hx hp hy hq e).2

/-- Where two ways of the same sides end in one print, two unlike strings have one. -/
theorem meet : ∀ (s t : List (Bool × Nat)) (p q : Nat), s.map (·.1) = t.map (·.1) → small s → small t → p ≤ 2147483647 → q ≤ 2147483647 → fin p s = fin q t → p ≠ q →
    ∃ (k : Nat) (a b : List UInt8), (ld p s)[k]? = some a ∧ (ld q t)[k]? = some b ∧ a ≠ b ∧ Tr.pr a = Tr.pr b
  | [], [], p, q, _, _, _, _, _, he, hne => absurd he hne
  | [], _ :: _, _, _, h, _, _, _, _, _, _ => by simp at h
  | _ :: _, [], _, _, h, _, _, _, _, _, _ => by simp at h
  | (b, x) :: s, (c, y) :: t, p, q, h, hs, ht, hp, hq, he, hne => by
    simp only [List.map_cons, List.cons.injEq] at h
    obtain ⟨rfl, h2⟩ := h
    have hx := hs (b, x) (List.mem_cons_self ..)
    have hy := ht (b, y) (List.mem_cons_self ..)
    have hd := str_ne' (b := b) hx hy hp hq hne
    by_cases hpr : Tr.pr (str b x p) = Tr.pr (str b y q)
    · exact ⟨0, _, _, rfl, rfl, hd, hpr⟩
    · obtain ⟨k, u, v, h3, h4, h5, h6⟩ := meet s t _ _ h2 (fun z hz => hs z (List.mem_cons_of_mem _ hz)) (fun z hz => ht z (List.mem_cons_of_mem _ hz)) (pr_le _) (pr_le _) he hpr
      exact ⟨k + 1, u, v, h3, h4, h5, h6⟩

/-- A way is right: of the place's sides, of prints, up to the root. -/
structure Way (r n i p : Nat) (st : List (Bool × Nat)) : Prop where
  side : st.map (·.1) = sides n i
  small : small st
  fin : fin p st = r

end Go.Proofs.Ytenkdpogdfcbgaa.Bn
