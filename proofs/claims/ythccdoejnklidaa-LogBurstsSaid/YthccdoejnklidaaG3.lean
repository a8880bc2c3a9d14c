/- Polynomials over two numbers: irreducible ones, powers, Fermat's law, how many roots there may be, Rabin's test. No program in sight. -/
import Derived.Test.YthccdoejnklidaaG2
namespace Go.Proofs.Ythccdoejnklidaa.G

/-- Irreducible: not constant, and no product of two that are not 1. -/
def Irr (p : Nat) : Prop := 2 ≤ p ∧ ∀ a b, p = mul a b → a = 1 ∨ b = 1

theorem Irr.ne_zero {p : Nat} (h : Irr p) : p ≠ 0 := by have := h.1; omega
theorem Irr.L {p : Nat} (h : Irr p) : 2 ≤ G.L p := by
  have : G.L 2 ≤ G.L p := L_mono h.1
  rwa [L_two] at this

theorem Irr.one {p : Nat} (h : Irr p) : ¬ D p 1 := by
  intro hd
  have := D_L hd (by omega); have := h.L; rw [L_one] at *; omega

theorem Irr.D_or {p d : Nat} (h : Irr p) (hd : D d p) : d = 1 ∨ d = p := by
  obtain ⟨k, hk⟩ := hd
  rcases h.2 k d hk with h1 | h1
  · right; rw [hk, h1, one_mul]
  · exact Or.inl h1

theorem Irr.bez {p a : Nat} (h : Irr p) (ha : ¬ D p a) : ∃ u v, mul u p ^^^ mul v a = 1 := by
  obtain ⟨u, v, huv⟩ := gcd_bez p a
  have hg := gcd_D p a
  rcases h.D_or hg.1 with h1 | h1
  · exact ⟨u, v, by rw [← huv, h1]⟩
  · exact absurd (by rw [← h1]; exact hg.2) ha

/-- Euclid's lemma. -/
theorem Irr.euclid {p a b : Nat} (h : Irr p) (hd : D p (mul a b)) : D p a ∨ D p b := by
  by_cases ha : D p a
  · exact Or.inl ha
  · obtain ⟨u, v, huv⟩ := h.bez ha
    right
    have e : b = mul (mul u b) p ^^^ mul v (mul a b) := by
      rw [mul_assoc u b p, mul_comm b p, ← mul_assoc u p b, ← mul_assoc v a b, ← xor_mul, huv, one_mul]
    rw [e]
    exact D_xor (D_mul _ (D_refl p)) (D_mul _ hd)

/-- A divisor that is not 1 and not the whole is less. -/
theorem D_le {d a : Nat} (h : D d a) (ha : a ≠ 0) (hne : d ≠ a) : d < a := by
  obtain ⟨k, rfl⟩ := h
  have hk : k ≠ 0 := by rintro rfl; exact ha (zero_mul d)
  have hd : d ≠ 0 := by rintro rfl; exact ha (mul_zero k)
  have hk1 : k ≠ 1 := by rintro rfl; exact hne (one_mul d).symm
  have h1 := L_mul k d hk hd
  have h2 : L 2 ≤ L k := L_mono (by omega)
  rw [L_two] at h2
  exact L_lt (by omega)

theorem irr_divisor : ∀ m, 2 ≤ m → ∃ p, Irr p ∧ D p m := by
  intro m
  induction m using Nat.strongRecOn with
  | _ m ih =>
    intro hm
    by_cases hp : Irr m
    · exact ⟨m, hp, D_refl m⟩
    · have : ∃ a b, m = mul a b ∧ a ≠ 1 ∧ b ≠ 1 := by
        apply Classical.byContradiction
        intro hno
        refine hp ⟨hm, fun a b hab => ?_⟩
        by_cases h1 : a = 1
        · exact Or.inl h1
        · by_cases h2 : b = 1
          · exact Or.inr h2
          · exact absurd ⟨a, b, hab, h1, h2⟩ hno
      obtain ⟨a, b, hab, ha, hb⟩ := this
      have hb0 : b ≠ 0 := by rintro rfl; rw [mul_zero] at hab; omega
      have hdb : D b m := ⟨a, hab⟩
      have hne : b ≠ m := by
        intro e
        apply ha
        refine mul_cancel_right hb0 ?_
        rw [← hab, one_mul, e]
      have := D_le hdb (by omega) hne
      obtain ⟨p, h1, h2⟩ := ih b this (by omega)
      exact ⟨p, h1, D_trans h2 hdb⟩

/-- Powers. -/
def pw (a : Nat) : Nat → Nat
  | 0 => 1
  | n + 1 => mul (pw a n) a

theorem pw_add (a i j : Nat) : pw a (i + j) = mul (pw a i) (pw a j) := by
  induction j with
  | zero => rw [Nat.add_zero]; show _ = mul _ 1; rw [mul_one]
  | succ j ih => rw [← Nat.add_assoc]; show mul (pw a (i + j)) a = mul _ (mul (pw a j) a); rw [ih, mul_assoc]

theorem pw_one (a : Nat) : pw a 1 = a := one_mul a

theorem pw_mul (a i j : Nat) : pw a (i * j) = pw (pw a i) j := by
  induction j with
  | zero => rfl
  | succ j ih => rw [Nat.mul_succ, pw_add, ih]; rfl

theorem pw_prod (a b n : Nat) : pw (mul a b) n = mul (pw a n) (pw b n) := by
  induction n with
  | zero => exact (mul_one 1).symm
  | succ n ih =>
    show mul (pw (mul a b) n) (mul a b) = mul (mul (pw a n) a) (mul (pw b n) b)
    rw [ih, mul_assoc, mul_assoc, mul_left_comm (pw b n)]

theorem one_pw (n : Nat) : pw 1 n = 1 := by
  induction n with
  | zero => rfl
  | succ n ih => show mul (pw 1 n) 1 = 1; rw [ih, mul_one]

theorem pw_two (a : Nat) : pw a 2 = mul a a := by show mul (mul 1 a) a = _; rw [one_mul]

theorem C_pw {m a b : Nat} (n : Nat) (h : D m (a ^^^ b)) : D m (pw a n ^^^ pw b n) := by
  induction n with
  | zero => exact C_refl m 1
  | succ n ih => exact C_mul ih h

/-- Frobenius: powers of two are additive. -/
theorem frob (a b k : Nat) : pw (a ^^^ b) (2 ^ k) = pw a (2 ^ k) ^^^ pw b (2 ^ k) := by
  induction k with
  | zero => rw [Nat.pow_zero, pw_one, pw_one, pw_one]
  | succ k ih => rw [Nat.pow_succ, pw_mul, ih, pw_two, sq_xor, pw_mul a, pw_mul b, pw_two, pw_two]

theorem zero_pw {n : Nat} (h : n ≠ 0) : pw 0 n = 0 := by
  obtain ⟨k, rfl⟩ : ∃ k, n = k + 1 := ⟨n - 1, by omega⟩
  exact mul_zero _

theorem Irr.pw {p a : Nat} (h : Irr p) (n : Nat) (hd : D p (pw a n)) : D p a := by
  induction n with
  | zero => exact absurd hd h.one
  | succ n ih => rcases h.euclid hd with h1 | h1
                 · exact ih h1
                 · exact h1

/-- What holds of x by Frobenius holds of all. -/
theorem all_of_x {m k : Nat} (h : D m (pw 2 (2 ^ k) ^^^ 2)) (a : Nat) : D m (pw a (2 ^ k) ^^^ a) := by
  induction a using halves with
  | h0 => rw [zero_pw (Nat.ne_of_gt (Nat.two_pow_pos k))]; exact C_refl m 0
  | h a _ ih =>
    have e : a = pick a 1 ^^^ mul 2 (a / 2) := by
      rw [mul_comm, show mul (a / 2) 2 = 2 * (a / 2) from by
        have := mul_two (a / 2) 1; rw [Nat.mul_one, mul_one] at this; exact this]
      exact split_bit a
    have e1 : pw (pick a 1) (2 ^ k) = pick a 1 := by
      unfold pick; split
      · exact one_pw _
      · exact zero_pw (Nat.ne_of_gt (Nat.two_pow_pos k))
    have : D m (pw (pick a 1 ^^^ mul 2 (a / 2)) (2 ^ k) ^^^ (pick a 1 ^^^ mul 2 (a / 2))) := by
      rw [frob, e1, pw_prod]
      exact C_xor (C_refl m _) (C_mul h ih)
    rwa [← e] at this

/-- A product of a list. -/
def prod : List Nat → Nat
  | [] => 1
  | a :: l => mul a (prod l)

theorem prod_perm {l l' : List Nat} (h : l.Perm l') : prod l = prod l' := by
  induction h with
  | nil => rfl
  | cons x _ ih => show mul x _ = mul x _; rw [ih]
  | swap x y l => show mul y (mul x _) = mul x (mul y _); exact mul_left_comm _ _ _
  | trans _ _ h1 h2 => exact h1.trans h2

theorem prod_append (l l' : List Nat) : prod (l ++ l') = mul (prod l) (prod l') := by
  induction l with
  | nil => exact (one_mul _).symm
  | cons a l ih => show mul a (prod (l ++ l')) = mul (mul a (prod l)) _; rw [ih, mul_assoc]

theorem prod_map {p : Nat} (hp : p ≠ 0) (a : Nat) (l : List Nat) : D p (prod (l.map fun x => md (mul a x) p) ^^^ mul (pw a l.length) (prod l)) := by
  induction l with
  | nil => show D p (1 ^^^ mul 1 1); rw [mul_one]; exact C_refl p 1
  | cons x l ih =>
    show D p (mul (md (mul a x) p) (prod (l.map _)) ^^^ mul (mul (pw a l.length) a) (mul x (prod l)))
    have e : mul (mul (pw a l.length) a) (mul x (prod l)) = mul (mul a x) (mul (pw a l.length) (prod l)) := by
      rw [mul_assoc, ← mul_assoc a x, mul_left_comm]
    rw [e]
    exact C_mul (C_comm (md_C _ hp)) ih

theorem Irr.prod {p : Nat} (h : Irr p) : ∀ l : List Nat, D p (prod l) → ∃ a, a ∈ l ∧ D p a := by
  intro l
  induction l with
  | nil => intro hd; exact absurd hd h.one
  | cons a l ih =>
    intro hd
    rcases h.euclid hd with h1 | h1
    · exact ⟨a, List.mem_cons_self, h1⟩
    · obtain ⟨b, hb, h2⟩ := ih h1
      exact ⟨b, List.mem_cons_of_mem _ hb, h2⟩

/-- A map of a list into itself that parts all is a turn of the list. -/
theorem map_perm {l : List Nat} (hn : l.Nodup) {f : Nat → Nat} (hin : ∀ x, x ∈ l → f x ∈ l) (hinj : ∀ x y, x ∈ l → y ∈ l → f x = f y → x = y) : (l.map f).Perm l := by
  have hn' : (l.map f).Nodup := by
    rw [List.Nodup, List.pairwise_map]
    refine List.Pairwise.imp_of_mem (R := (· ≠ ·)) ?_ hn
    intro a b ha hb hab h
    exact hab (hinj a b ha hb h)
  rw [List.perm_ext_iff_of_nodup hn' hn]
  have hsub : l.map f ⊆ l := by
    intro y hy
    obtain ⟨x, hx, rfl⟩ := List.mem_map.1 hy
    exact hin x hx
  intro a
  refine ⟨fun h => hsub h, fun ha => ?_⟩
  apply Classical.byContradiction
  intro hno
  have h1 : (a :: l.map f).Nodup := List.nodup_cons.2 ⟨hno, hn'⟩
  have h2 : (a :: l.map f) ⊆ l := by
    intro y hy
    rcases List.mem_cons.1 hy with rfl | hy
    · exact ha
    · exact hsub hy
  have := List.Nodup.length_le_of_subset h1 h2
  simp at this; omega

/-- Fermat and Galois: modulo an irreducible one of degree n. -/
theorem Irr.fermat1 {p n : Nat} (h : Irr p) (hn : G.L p = n + 1) (a : Nat) (ha : ¬ D p a) : D p (G.pw a (2 ^ n - 1) ^^^ 1) := by
  have hp := h.ne_zero
  have hlt : ∀ x, 1 ≤ x ∧ x < 2 ^ n → ¬ D p x := by
    intro x hx hd
    have := D_small hd (by have := (@L_le x n).2 hx.2; omega)
    omega
  have hlen : (List.range' 1 (2 ^ n - 1)).length = 2 ^ n - 1 := List.length_range'
  have hpos := Nat.two_pow_pos n
  have hmem : ∀ x, x ∈ List.range' 1 (2 ^ n - 1) ↔ 1 ≤ x ∧ x < 2 ^ n := by
    intro x; rw [List.mem_range'_1]; omega
  have hperm := map_perm (l := List.range' 1 (2 ^ n - 1)) (f := fun x => md (mul a x) p) List.nodup_range' (by
      intro x hx
      rw [hmem] at hx ⊢
      have h1 : md (mul a x) p ≠ 0 := by
        intro h0
        rcases h.euclid ((md_eq_zero hp).1 h0) with h2 | h2
        · exact ha h2
        · exact hlt x hx h2
      exact ⟨by omega, L_le.1 (by have := L_md (mul a x) hp; omega)⟩) (by
      intro x y hx hy hxy
      rw [hmem] at hx hy
      have h1 := (md_eq_iff hp).1 hxy
      rw [← mul_xor] at h1
      rcases h.euclid h1 with h2 | h2
      · exact absurd h2 ha
      · exact xor_eq_zero (D_small h2 (by have := L_xor_le x y; have := (@L_le x n).2 hx.2; have := (@L_le y n).2 hy.2; omega)))
  have h1 := prod_map hp a (List.range' 1 (2 ^ n - 1))
  rw [prod_perm hperm, hlen] at h1
  have h2 : D p (mul (1 ^^^ G.pw a (2 ^ n - 1)) (G.prod (List.range' 1 (2 ^ n - 1)))) := by
    rw [xor_mul, one_mul]; exact h1
  rcases h.euclid h2 with h3 | h3
  · exact C_comm h3
  · obtain ⟨x, hx, h4⟩ := h.prod _ h3
    exact absurd h4 (hlt x ((hmem x).1 hx))

theorem Irr.fermat {p n : Nat} (h : Irr p) (hn : G.L p = n + 1) (a : Nat) : D p (G.pw a (2 ^ n) ^^^ a) := by
  have hpos := Nat.two_pow_pos n
  have e : G.pw a (2 ^ n) = mul (G.pw a (2 ^ n - 1)) a := by
    have : 2 ^ n = (2 ^ n - 1) + 1 := by omega
    rw [this]; rfl
  rw [e]
  by_cases ha : D p a
  · exact D_xor (D_mul _ ha) ha
  · have := C_mul (h.fermat1 hn a ha) (C_refl p a)
    rwa [one_mul] at this

/-- A polynomial over polynomials whose highest number is 1: the lower ones, the lowest first; its value. -/
def ev : List Nat → Nat → Nat
  | [], _ => 1
  | c :: cs, y => c ^^^ mul y (ev cs y)

def quo : List Nat → Nat → List Nat
  | [], _ => []
  | [_], _ => []
  | _ :: b :: bs, c => ev (b :: bs) c :: quo (b :: bs) c

theorem quo_length (a : Nat) (as : List Nat) (c : Nat) : (quo (a :: as) c).length = as.length := by
  induction as generalizing a with
  | nil => rfl
  | cons b bs ih => show (quo (b :: bs) c).length + 1 = _; rw [ih]; rfl

theorem ev_quo (a : Nat) (as : List Nat) (c y : Nat) : ev (a :: as) y ^^^ ev (a :: as) c = mul (y ^^^ c) (ev (quo (a :: as) c) y) := by
  induction as generalizing a with
  | nil =>
    show (a ^^^ mul y 1) ^^^ (a ^^^ mul c 1) = mul (y ^^^ c) 1
    rw [xor4, Nat.xor_self, Nat.zero_xor, mul_one, mul_one, mul_one]
  | cons b bs ih =>
    have ih' := ih b
    show (a ^^^ mul y (ev (b :: bs) y)) ^^^ (a ^^^ mul c (ev (b :: bs) c)) = mul (y ^^^ c) (ev (b :: bs) c ^^^ mul y (ev (quo (b :: bs) c) y))
    rw [xor4, Nat.xor_self, Nat.zero_xor, mul_xor, mul_left_comm, ← ih', xor_mul, mul_xor]
    generalize mul y (ev (b :: bs) y) = s; generalize mul c (ev (b :: bs) c) = t; generalize mul y (ev (b :: bs) c) = u
    rw [show (u ^^^ t) ^^^ (s ^^^ u) = (u ^^^ u) ^^^ (s ^^^ t) from by ac_rfl, Nat.xor_self, Nat.zero_xor]

/-- No more roots, modulo an irreducible one, than the degree. -/
theorem Irr.roots {p : Nat} (h : Irr p) : ∀ (cs rs : List Nat), rs.Pairwise (fun x y => ¬ D p (x ^^^ y)) → (∀ r, r ∈ rs → D p (ev cs r)) → rs.length ≤ cs.length := by
  intro cs
  generalize hn : cs.length = n
  induction n generalizing cs with
  | zero =>
    intro rs _ hr
    obtain rfl := List.length_eq_zero_iff.1 hn
    cases rs with
    | nil => simp
    | cons r rs => exact absurd (hr r List.mem_cons_self) h.one
  | succ n ih =>
    intro rs hpw hr
    cases rs with
    | nil => simp
    | cons r rs =>
      cases cs with
      | nil => simp at hn
      | cons a as =>
        have h1 := List.pairwise_cons.1 hpw
        have := ih (quo (a :: as) r) (by rw [quo_length]; simpa using hn) rs h1.2 (by
          intro r' hr'
          have e := ev_quo a as r r'
          have hd : D p (ev (a :: as) r' ^^^ ev (a :: as) r) := D_xor (hr r' (List.mem_cons_of_mem _ hr')) (hr r List.mem_cons_self)
          rw [e] at hd
          rcases h.euclid hd with h2 | h2
          · exact absurd (C_comm h2) (h1.1 r' hr')
          · exact h2)
        simp; omega

theorem ev_zeros (k y : Nat) : ev (List.replicate k 0) y = pw y k := by
  induction k with
  | zero => rfl
  | succ k ih => rw [List.replicate_succ]; show 0 ^^^ mul y (ev _ y) = mul (pw y k) y; rw [ih, Nat.zero_xor, mul_comm]

/-- If all rests have a 2-to-the-k-th power that is themselves, the degree is at most k. -/
theorem Irr.few {p d k : Nat} (h : Irr p) (hd : G.L p = d + 1) (hk : 1 ≤ k) (hall : ∀ a, D p (G.pw a (2 ^ k) ^^^ a)) : d ≤ k := by
  have h2 : 2 ≤ 2 ^ k := by
    have := Nat.pow_le_pow_right (show 0 < 2 by omega) hk
    simpa using this
  have hr := h.roots (0 :: 1 :: List.replicate (2 ^ k - 2) 0) (List.range (2 ^ d)) (by
    refine List.Pairwise.imp_of_mem (R := (· < ·)) ?_ List.pairwise_lt_range
    intro x y hx hy hxy hD
    rw [List.mem_range] at hx hy
    have := xor_eq_zero (D_small hD (by have := L_xor_le x y; have := (@L_le x d).2 hx; have := (@L_le y d).2 hy; omega))
    omega) (by
    intro r _
    have := hall r
    have e : ev (0 :: 1 :: List.replicate (2 ^ k - 2) 0) r = G.pw r (2 ^ k) ^^^ r := by
      show 0 ^^^ mul r (1 ^^^ mul r (ev _ r)) = _
      rw [ev_zeros, Nat.zero_xor, mul_xor, mul_one, Nat.xor_comm]
      congr 1
      have : 2 ^ k = (2 ^ k - 2) + 1 + 1 := by omega
      rw [this]
      show _ = mul (mul _ r) r
      rw [mul_comm (mul _ r), mul_comm _ r]
      rfl
    rw [e]; exact this)
  simp only [List.length_range, List.length_cons, List.length_replicate] at hr
  apply Classical.byContradiction
  intro hlt
  have : 2 ^ k < 2 ^ d := Nat.pow_lt_pow_right (by omega) (by omega)
  omega

theorem pw_iter {m d : Nat} (h : ∀ a, D m (pw a (2 ^ d) ^^^ a)) (q : Nat) (a : Nat) : D m (pw a (2 ^ (d * q)) ^^^ a) := by
  induction q with
  | zero => rw [Nat.mul_zero, Nat.pow_zero, pw_one]; exact C_refl m a
  | succ q ih =>
    rw [Nat.mul_succ, Nat.pow_add, pw_mul]
    exact C_trans (h _) ih

/-- Where x is its own 2-to-the-n-th power modulo an irreducible one of degree d, d divides n. -/
theorem Irr.deg_dvd {p d n : Nat} (h : Irr p) (hd : G.L p = d + 1) (hx : D p (G.pw 2 (2 ^ n) ^^^ 2)) : d ∣ n := by
  have hd1 : 1 ≤ d := by have := h.L; omega
  have hr : n % d < d := Nat.mod_lt _ (by omega)
  have hall : ∀ a, D p (G.pw a (2 ^ (n % d)) ^^^ a) := by
    intro a
    have h1 := all_of_x hx a
    have h2 := pw_iter (h.fermat hd) (n / d)
    have e : n = d * (n / d) + n % d := (Nat.div_add_mod n d).symm
    have h3 : D p (G.pw a (2 ^ n) ^^^ G.pw a (2 ^ (n % d))) := by
      have : G.pw a (2 ^ n) = G.pw (G.pw a (2 ^ (d * (n / d)))) (2 ^ (n % d)) := by
        rw [← pw_mul, ← Nat.pow_add, ← e]
      rw [this]
      exact C_pw _ (h2 a)
    exact C_trans (C_comm h3) h1
  by_cases h0 : n % d = 0
  · exact Nat.dvd_of_mod_eq_zero h0
  · have := h.few hd (by omega) hall
    omega

/-- A number with just two divisors. -/
def Pr (q : Nat) : Prop := 2 ≤ q ∧ ∀ k, k ∣ q → k = 1 ∨ k = q

theorem pr_divisor : ∀ n, 2 ≤ n → ∃ q, Pr q ∧ q ∣ n := by
  intro n
  induction n using Nat.strongRecOn with
  | _ n ih =>
    intro hn
    by_cases hp : Pr n
    · exact ⟨n, hp, Nat.dvd_refl n⟩
    · have : ∃ k, k ∣ n ∧ k ≠ 1 ∧ k ≠ n := by
        apply Classical.byContradiction
        intro hno
        refine hp ⟨hn, fun k hk => ?_⟩
        by_cases h1 : k = 1
        · exact Or.inl h1
        · by_cases h2 : k = n
          · exact Or.inr h2
          · exact absurd ⟨k, hk, h1, h2⟩ hno
      obtain ⟨k, hk, h1, h2⟩ := this
      have hle := Nat.le_of_dvd (by omega) hk
      have h0 : k ≠ 0 := by rintro rfl; have := Nat.eq_zero_of_zero_dvd hk; omega
      obtain ⟨q, hq, hqk⟩ := ih k (by omega) (by omega)
      exact ⟨q, hq, Nat.dvd_trans hqk hk⟩

/-- Rabin's test is right. -/
theorem rabin {m n : Nat} (hm : G.L m = n + 1) (hn : 1 ≤ n) :
    Irr m ↔ (D m (pw 2 (2 ^ n) ^^^ 2) ∧ ∀ q, Pr q → q ∣ n → gcd (md (pw 2 (2 ^ (n / q))) m ^^^ md 2 m) m = 1) := by
  have hm0 : m ≠ 0 := L_pos.1 (by omega)
  constructor
  · intro h
    refine ⟨h.fermat hm 2, fun q hq hqn => ?_⟩
    rcases h.D_or (gcd_D (md (pw 2 (2 ^ (n / q))) m ^^^ md 2 m) m).2 with h1 | h1
    · exact h1
    · exfalso
      have h2 := (gcd_D (md (pw 2 (2 ^ (n / q))) m ^^^ md 2 m) m).1
      rw [h1] at h2
      have h3 : D m (pw 2 (2 ^ (n / q)) ^^^ 2) := by
        rw [← md_xor _ _ hm0] at h2
        exact D_of_xor (md_C _ hm0) h2
      have hdv := h.deg_dvd hm h3
      have hq2 := hq.1
      have hle : n / q < n := Nat.div_lt_self (by omega) (by omega)
      have hpos : 0 < n / q := Nat.div_pos (Nat.le_of_dvd (by omega) hqn) (by omega)
      have := Nat.le_of_dvd hpos hdv
      omega
  · rintro ⟨hx, hg⟩
    have hm2 : 2 ≤ m := by
      have : 2 ^ 1 ≤ m := le_of_L.1 (by omega)
      simpa using this
    obtain ⟨p, hp, hpm⟩ := irr_divisor m hm2
    obtain ⟨d, hd⟩ : ∃ d, G.L p = d + 1 := ⟨G.L p - 1, by have := hp.L; omega⟩
    have hdn := hp.deg_dvd hd (D_trans hpm hx)
    have hd1 : 1 ≤ d := by have := hp.L; omega
    by_cases hdn' : d = n
    · obtain ⟨k, hk⟩ := hpm
      have hk0 : k ≠ 0 := by rintro rfl; rw [zero_mul] at hk; omega
      have h1 := L_mul k p hk0 hp.ne_zero
      rw [← hk, hm, hd] at h1
      have h2 : k < 2 ^ 1 := L_le.1 (by omega)
      have : k = 1 := by omega
      rw [this, one_mul] at hk
      rw [hk]; exact hp
    · exfalso
      obtain ⟨c, hc⟩ := hdn
      have hc2 : 2 ≤ c := by
        rcases Nat.lt_or_ge c 2 with h' | h'
        · have : c = 0 ∨ c = 1 := by omega
          rcases this with rfl | rfl
          · rw [Nat.mul_zero] at hc; omega
          · rw [Nat.mul_one] at hc; omega
        · exact h'
      obtain ⟨q, hq, hqc⟩ := pr_divisor c hc2
      have hqn : q ∣ n := by rw [hc]; exact Nat.dvd_trans hqc (Nat.dvd_mul_left _ _)
      have h1 := hg q hq hqn
      obtain ⟨e, he⟩ := hqc
      have hq2 := hq.1
      have hnq : n / q = d * e := by
        rw [hc, he, show d * (q * e) = q * (d * e) from by rw [Nat.mul_left_comm]]
        exact Nat.mul_div_cancel_left _ (by omega)
      have h2 : D p (pw 2 (2 ^ (n / q)) ^^^ 2) := by
        rw [hnq]; exact pw_iter (hp.fermat hd) e 2
      have h3 : D p (md (pw 2 (2 ^ (n / q))) m ^^^ md 2 m) := by
        rw [← md_xor _ _ hm0]
        exact D_of_xor (C_comm (D_trans hpm (md_C _ hm0))) h2
      have h4 := gcd_greatest h3 hpm
      rw [h1] at h4
      exact hp.one h4

end Go.Proofs.Ythccdoejnklidaa.G
