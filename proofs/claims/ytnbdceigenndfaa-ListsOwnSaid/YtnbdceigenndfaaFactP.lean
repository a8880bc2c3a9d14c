/- Factors, plain facts: what its loop keeps, and what it ends in. No program in sight. -/
import Derived.Test.YtnbdceigenndfaaG3
namespace Go.Proofs.Ytnbdceigenndfaa.G

/-- What the loop keeps: the list's product times what is left is all; the list's are prime and rise; none below f divides what is left. -/
structure FI (m0 : Nat) (l : List Nat) (m f : Nat) : Prop where
  pos : m ≠ 0
  f2 : 2 ≤ f
  prod : mul (prod l) m = m0
  irr : ∀ p, p ∈ l → Irr p
  le : ∀ p, p ∈ l → p ≤ f
  sorted : l.Pairwise (· ≤ ·)
  none : ∀ p, Irr p → p < f → ¬ D p m
  len : l.length + L m ≤ L m0

/-- What it ends in. -/
structure Fin (m0 : Nat) (l : List Nat) : Prop where
  prod : prod l = m0
  irr : ∀ p, p ∈ l → Irr p
  sorted : l.Pairwise (· ≤ ·)

theorem prod_one (f : Nat) : G.prod [f] = f := by
  show mul f 1 = f
  exact mul_one f

theorem FI.start {m0 : Nat} (h : m0 ≠ 0) : FI m0 [] m0 2 where
  pos := h
  f2 := Nat.le_refl _
  prod := one_mul m0
  irr := fun p hp => by simp at hp
  le := fun p hp => by simp at hp
  sorted := List.Pairwise.nil
  none := fun p hp h => by have := hp.1; omega
  len := by simp

theorem FI.next {m0 m f : Nat} {l : List Nat} (h : FI m0 l m f) (hf : ¬ D f m) : FI m0 l m (f + 1) where
  pos := h.pos
  f2 := by have := h.f2; omega
  prod := h.prod
  irr := h.irr
  le := fun p hp => by have := h.le p hp; omega
  sorted := h.sorted
  none := fun p hp hlt => by
    by_cases he : p = f
    · subst he; exact hf
    · exact h.none p hp (by omega)
  len := h.len

theorem FI.prime {m0 m f : Nat} {l : List Nat} (h : FI m0 l m f) (hd : D f m) : Irr f := by
  have h2 := h.f2
  obtain ⟨p, hp, hpf⟩ := irr_divisor f h2
  by_cases he : p = f
  · rwa [he] at hp
  · exact (h.none p hp (D_le hpf (by omega) he) (D_trans hpf hd)).elim

theorem FI.div {m0 m f : Nat} {l : List Nat} (h : FI m0 l m f) (hd : D f m) : FI m0 (l ++ [f]) (qt m f) f := by
  have h2 := h.f2
  have hf0 : f ≠ 0 := by omega
  have hq : mul (qt m f) f = m := by
    have := qt_md m hf0
    rwa [(md_eq_zero hf0).2 hd, Nat.xor_zero] at this
  have hi := h.prime hd
  have hq0 : qt m f ≠ 0 := fun h0 => h.pos (by rw [← hq, h0, zero_mul])
  have hL := L_mul (qt m f) f hq0 hf0
  rw [hq] at hL
  have hfL := hi.L
  refine ⟨hq0, h2, ?_, ?_, ?_, ?_, ?_, ?_⟩
  · rw [prod_append, prod_one, mul_assoc, mul_comm f, hq, h.prod]
  · intro p hp
    rcases List.mem_append.1 hp with hp | hp
    · exact h.irr p hp
    · rw [List.mem_singleton.1 hp]; exact hi
  · intro p hp
    rcases List.mem_append.1 hp with hp | hp
    · exact h.le p hp
    · rw [List.mem_singleton.1 hp]; exact Nat.le_refl _
  · rw [List.pairwise_append]
    refine ⟨h.sorted, List.pairwise_singleton _ _, fun a ha b hb => ?_⟩
    rw [List.mem_singleton.1 hb]; exact h.le a ha
  · intro p hp hlt hdp
    exact h.none p hp hlt (by rw [← hq]; exact D_mul' f hdp)
  · have := h.len
    rw [List.length_append, List.length_singleton]
    omega

theorem FI.last {m0 m f : Nat} {l : List Nat} (h : FI m0 l m f) (hm : 1 < m) (hL : L m + 1 < 2 * L f) : Fin m0 (l ++ [m]) := by
  have hi : Irr m := by
    obtain ⟨p, hp, hpm⟩ := irr_divisor m (by omega)
    by_cases he : p = m
    · rwa [he] at hp
    · exfalso
      obtain ⟨k, hk⟩ := hpm
      have hp0 := hp.ne_zero
      have hk0 : k ≠ 0 := fun h0 => h.pos (by rw [hk, h0, zero_mul])
      have hk1 : k ≠ 1 := fun h1 => he (by rw [hk, h1, one_mul])
      obtain ⟨q, hqi, hqk⟩ := irr_divisor k (by omega)
      have hl := L_mul k p hk0 hp0
      rw [← hk] at hl
      have hqL := D_L hqk hk0
      have hpf : f ≤ p := Nat.le_of_not_lt fun hlt => h.none p hp hlt ⟨k, hk⟩
      have hqf : f ≤ q := Nat.le_of_not_lt fun hlt => h.none q hqi hlt (by rw [hk]; exact D_mul' p hqk)
      have h1 := L_mono hpf
      have h2 := L_mono hqf
      omega
  have hfm : f ≤ m := Nat.le_of_not_lt fun hlt => h.none m hi hlt (D_refl m)
  refine ⟨?_, ?_, ?_⟩
  · rw [prod_append, prod_one, h.prod]
  · intro p hp
    rcases List.mem_append.1 hp with hp | hp
    · exact h.irr p hp
    · rw [List.mem_singleton.1 hp]; exact hi
  · rw [List.pairwise_append]
    refine ⟨h.sorted, List.pairwise_singleton _ _, fun a ha b hb => ?_⟩
    rw [List.mem_singleton.1 hb]; have := h.le a ha; omega

theorem FI.one {m0 f : Nat} {l : List Nat} (h : FI m0 l 1 f) : Fin m0 l :=
  ⟨by rw [← h.prod, mul_one], h.irr, h.sorted⟩

theorem D_prod {a : Nat} : ∀ {l : List Nat}, a ∈ l → D a (G.prod l)
  | b :: l, h => by
    show D a (mul b (G.prod l))
    rcases List.mem_cons.1 h with rfl | h
    · exact D_mul' _ (D_refl _)
    · exact D_mul _ (D_prod h)

/-- Gauss: of one number there is one such list. -/
theorem Fin.unique : ∀ {l l' : List Nat} {m : Nat}, Fin m l → Fin m l' → l = l'
  | [], [], _, _, _ => rfl
  | [], b :: t', m, h, h' => by
    exfalso
    have e : mul b (G.prod t') = 1 := h'.prod.trans h.prod.symm
    have := (h'.irr b (List.mem_cons_self ..)).1
    have := (mul_eq_one e).1
    omega
  | a :: t, [], m, h, h' => by
    exfalso
    have e : mul a (G.prod t) = 1 := h.prod.trans h'.prod.symm
    have := (h.irr a (List.mem_cons_self ..)).1
    have := (mul_eq_one e).1
    omega
  | a :: t, b :: t', m, h, h' => by
    have ha := h.irr a (List.mem_cons_self ..)
    have hb := h'.irr b (List.mem_cons_self ..)
    have inn : ∀ {x : Nat} {k k' : List Nat}, Fin m k → Fin m k' → x ∈ k → x ∈ k' := by
      intro x k k' hk hk' hx
      have hd : D x (G.prod k') := by rw [hk'.prod, ← hk.prod]; exact D_prod hx
      obtain ⟨y, hy, hxy⟩ := (hk.irr x hx).prod k' hd
      rcases (hk'.irr y hy).D_or hxy with h1 | h1
      · have := (hk.irr x hx).1; omega
      · rwa [h1]
    have h1 := inn h h' (List.mem_cons_self ..)
    have h2 := inn h' h (List.mem_cons_self ..)
    have s1 := List.pairwise_cons.1 h.sorted
    have s2 := List.pairwise_cons.1 h'.sorted
    have hab : a = b := by
      rcases List.mem_cons.1 h1 with e | h1
      · exact e
      · rcases List.mem_cons.1 h2 with e | h2
        · exact e.symm
        · have := s1.1 _ h2; have := s2.1 _ h1; omega
    subst hab
    have hp : G.prod t = G.prod t' := mul_cancel ha.ne_zero (h.prod.trans h'.prod.symm)
    have := Fin.unique (m := G.prod t) ⟨rfl, fun p hp => h.irr p (List.mem_cons_of_mem _ hp), s1.2⟩ ⟨hp.symm, fun p hp => h'.irr p (List.mem_cons_of_mem _ hp), s2.2⟩
    rw [this]

theorem Fin.of_irr {m : Nat} (h : Irr m) : Fin m [m] where
  prod := prod_one m
  irr := fun p hp => by rw [List.mem_singleton.1 hp]; exact h
  sorted := List.pairwise_singleton _ _

theorem Fin.irr_iff {m : Nat} {l : List Nat} (h : Fin m l) : Irr m ↔ l.length = 1 := by
  constructor
  · intro hi; rw [h.unique (Fin.of_irr hi)]; rfl
  · intro hl
    obtain ⟨p, rfl⟩ := List.length_eq_one_iff.1 hl
    have := h.irr p (List.mem_singleton.2 rfl)
    rwa [← h.prod, prod_one]

end Go.Proofs.Ytnbdceigenndfaa.G
