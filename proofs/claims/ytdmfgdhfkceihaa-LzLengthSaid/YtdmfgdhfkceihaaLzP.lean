/- Plain facts on texts as tokens: what tokens make, what tokens a text has, and that these are fewest. No program in sight. -/
import Derived.Test.YtdmfgdhfkceihaaMatchP
namespace Go.Proofs.Ytdmfgdhfkceihaa.Lz
open Go.Proofs.Ytdmfgdhfkceihaa

/-- A token: how far behind, how long, or which byte. -/
structure Tk where
  d : Int
  n : Int
  b : Int

def okT (t : Tk) : Bool := if t.n = 0 then decide (t.d = 0 ∧ 0 ≤ t.b ∧ t.b < 256) else decide (0 < t.n ∧ t.n ≤ 64 ∧ 1 ≤ t.d ∧ t.d ≤ 256 ∧ t.b = 0)

/-- A copy, byte by byte. -/
def copyB (d : Nat) : Nat → List UInt8 → List UInt8
  | 0, out => out
  | k + 1, out => copyB d k (out ++ [out.getD (out.length - d) 0])

def addT (out : List UInt8) (t : Tk) : List UInt8 := if t.n = 0 then out ++ [UInt8.ofNat t.b.toNat] else copyB t.d.toNat t.n.toNat out

/-- Bytes that a token makes. -/
def lenT (t : Tk) : Nat := if t.n = 0 then 1 else t.n.toNat

def codeT (out : List UInt8) (t : Tk) : Int := if okT t = false then 1 else if (out.length : Int) < t.d then 3 else if 600 < out.length + lenT t then 2 else 0

def expE : List UInt8 → List Tk → Int
  | _, [] => 0
  | out, t :: l => if codeT out t = 0 then expE (addT out t) l else codeT out t

def expS : List UInt8 → List Tk → List UInt8
  | out, [] => out
  | out, t :: l => if codeT out t = 0 then expS (addT out t) l else []

theorem expE_bad {out : List UInt8} {t : Tk} {l : List Tk} (h : codeT out t ≠ 0) : expE out (t :: l) = codeT out t := by rw [expE, if_neg h]
theorem expS_bad {out : List UInt8} {t : Tk} {l : List Tk} (h : codeT out t ≠ 0) : expS out (t :: l) = [] := by rw [expS, if_neg h]
theorem expE_good {out : List UInt8} {t : Tk} {l : List Tk} (h : codeT out t = 0) : expE out (t :: l) = expE (addT out t) l := by rw [expE, if_pos h]
theorem expS_good {out : List UInt8} {t : Tk} {l : List Tk} (h : codeT out t = 0) : expS out (t :: l) = expS (addT out t) l := by rw [expS, if_pos h]

theorem codeT_parts {out : List UInt8} {t : Tk} (h : codeT out t = 0) : okT t = true ∧ t.d ≤ (out.length : Int) ∧ out.length + lenT t ≤ 600 := by
  unfold codeT at h
  split at h
  · cases h
  · rename_i h1
    split at h
    · cases h
    · split at h
      · cases h
      · exact ⟨by simpa using h1, by omega, by omega⟩

theorem codeT_none (out : List UInt8) (t : Tk) : codeT out t = 0 ∨ codeT out t = 1 ∨ codeT out t = 2 ∨ codeT out t = 3 := by
  unfold codeT; repeat' split
  all_goals simp

theorem expE_some (l : List Tk) : ∀ out, expE out l = 0 ∨ expE out l = 1 ∨ expE out l = 2 ∨ expE out l = 3 := by
  induction l with
  | nil => intro out; exact Or.inl rfl
  | cons t l ih =>
    intro out
    unfold expE
    split
    · exact ih _
    · exact codeT_none out t

theorem okT_parts {t : Tk} (h : okT t = true) : (t.n = 0 ∧ t.d = 0 ∧ 0 ≤ t.b ∧ t.b < 256) ∨ (0 < t.n ∧ t.n ≤ 64 ∧ 1 ≤ t.d ∧ t.d ≤ 256 ∧ t.b = 0) := by
  unfold okT at h
  split at h
  · rename_i h0
    have := of_decide_eq_true h
    exact Or.inl ⟨h0, this⟩
  · exact Or.inr (of_decide_eq_true h)

theorem copyB_length (d : Nat) : ∀ (k : Nat) (out : List UInt8), (copyB d k out).length = out.length + k
  | 0, _ => rfl
  | k + 1, out => by rw [copyB, copyB_length d k]; simp; omega

theorem copyB_prefix (d : Nat) : ∀ (k : Nat) (out : List UInt8), out <+: copyB d k out
  | 0, _ => List.prefix_refl _
  | k + 1, _ => (List.prefix_append _ _).trans (copyB_prefix d k _)

theorem copyB_succ (d : Nat) : ∀ (k : Nat) (out : List UInt8), copyB d (k + 1) out = copyB d k out ++ [(copyB d k out).getD ((copyB d k out).length - d) 0]
  | 0, _ => rfl
  | k + 1, out => by rw [copyB, copyB_succ d k, copyB]

theorem addT_length {out : List UInt8} {t : Tk} : (addT out t).length = out.length + lenT t := by
  unfold addT lenT
  split
  · simp
  · rw [copyB_length]

theorem addT_prefix (out : List UInt8) (t : Tk) : out <+: addT out t := by
  unfold addT
  split
  · exact List.prefix_append _ _
  · exact copyB_prefix _ _ _

theorem expS_prefix : ∀ (l : List Tk) (out : List UInt8), expE out l = 0 → out <+: expS out l
  | [], out, _ => List.prefix_refl _
  | t :: l, out, h => by
    by_cases hc : codeT out t = 0
    · rw [expE_good hc] at h
      rw [expS_good hc]
      exact (addT_prefix out t).trans (expS_prefix l _ h)
    · rw [expE_bad hc] at h; exact absurd h hc

/-- How many bytes tokens make. -/
def total : List Tk → Nat
  | [] => 0
  | t :: l => lenT t + total l

theorem expS_length : ∀ (l : List Tk) (out : List UInt8), expE out l = 0 → (expS out l).length = out.length + total l
  | [], out, _ => rfl
  | t :: l, out, h => by
    by_cases hc : codeT out t = 0
    · rw [expE_good hc] at h
      rw [expS_good hc, expS_length l _ h, addT_length, total]; omega
    · rw [expE_bad hc] at h; exact absurd h hc

theorem expS_le : ∀ (l : List Tk) (out : List UInt8), out.length ≤ 600 → (expS out l).length ≤ 600
  | [], out, h => h
  | t :: l, out, h => by
    by_cases hc : codeT out t = 0
    · rw [expS_good hc]
      exact expS_le l _ (by rw [addT_length]; exact (codeT_parts hc).2.2)
    · rw [expS_bad hc]; simp

theorem expE_append : ∀ (l m : List Tk) (out : List UInt8), expE out (l ++ m) = if expE out l = 0 then expE (expS out l) m else expE out l
  | [], m, out => by simp [expE, expS]
  | t :: l, m, out => by
    by_cases hc : codeT out t = 0
    · rw [List.cons_append, expE_good hc, expE_good hc, expS_good hc]; exact expE_append l m _
    · rw [List.cons_append, expE_bad hc, expE_bad hc, if_neg hc]

theorem expS_append : ∀ (l m : List Tk) (out : List UInt8), expE out l = 0 → expS out (l ++ m) = expS (expS out l) m
  | [], m, out, _ => rfl
  | t :: l, m, out, h => by
    by_cases hc : codeT out t = 0
    · rw [expE_good hc] at h
      rw [List.cons_append, expS_good hc, expS_good hc]; exact expS_append l m _ h
    · rw [expE_bad hc] at h; exact absurd h hc

theorem expS_wrong : ∀ (l : List Tk) (out : List UInt8), expE out l ≠ 0 → expS out l = []
  | [], out, h => absurd rfl h
  | t :: l, out, h => by
    by_cases hc : codeT out t = 0
    · rw [expE_good hc] at h
      rw [expS_good hc]; exact expS_wrong l _ h
    · exact expS_bad hc

/-! ### The tokens of a text -/

def bst (s : List UInt8) (w i : Nat) : Nat × Nat := Mt.best s i (min w i)
def tokAt (s : List UInt8) (w i : Nat) : Tk := if (bst s w i).2 < 2 then ⟨0, 0, ((s.getD i 0).toNat : Int)⟩ else ⟨((bst s w i).1 : Int), ((bst s w i).2 : Int), 0⟩
def stepAt (s : List UInt8) (w i : Nat) : Nat := if (bst s w i).2 < 2 then 1 else (bst s w i).2

def toks (s : List UInt8) (w : Nat) : Nat → Nat → List Tk
  | 0, _ => []
  | f + 1, i => if i < s.length then tokAt s w i :: toks s w f (i + stepAt s w i) else []

/-- The tokens from i on. -/
def rest (s : List UInt8) (w i : Nat) : List Tk := toks s w (s.length - i) i

theorem stepAt_pos (s : List UInt8) (w i : Nat) : 1 ≤ stepAt s w i := by unfold stepAt; split <;> omega

theorem toks_more (s : List UInt8) (w : Nat) : ∀ (f g i : Nat), s.length - i ≤ f → s.length - i ≤ g → toks s w f i = toks s w g i
  | 0, 0, _, _, _ => rfl
  | 0, g + 1, i, h, _ => by rw [toks, toks, if_neg (by omega)]
  | f + 1, 0, i, _, h => by rw [toks, toks, if_neg (by omega)]
  | f + 1, g + 1, i, h1, h2 => by
    have := stepAt_pos s w i
    rw [toks, toks]
    split
    · rw [toks_more s w f g _ (by omega) (by omega)]
    · rfl

theorem rest_end {s : List UInt8} {w i : Nat} (h : s.length ≤ i) : rest s w i = [] := by
  unfold rest; rw [show s.length - i = 0 from by omega]; rfl

theorem rest_step {s : List UInt8} {w i : Nat} (h : i < s.length) : rest s w i = tokAt s w i :: rest s w (i + stepAt s w i) := by
  have := stepAt_pos s w i
  unfold rest
  rw [show s.length - i = (s.length - i - 1) + 1 from by omega, toks, if_pos h, toks_more s w _ (s.length - (i + stepAt s w i)) _ (by omega) (by omega)]

theorem bst_le64 (s : List UInt8) (w i : Nat) : (bst s w i).2 ≤ 64 := Mt.best_most _ _ _
theorem bst_le (s : List UInt8) (w i : Nat) : (bst s w i).1 ≤ min w i := Mt.best_le _ _ _
theorem bst_in {s : List UInt8} {w i : Nat} (h : i ≤ s.length) : i + (bst s w i).2 ≤ s.length := Mt.best_in _ _ _ h

theorem step_in {s : List UInt8} {w i : Nat} (h : i < s.length) : i + stepAt s w i ≤ s.length := by
  have := bst_in (w := w) (Nat.le_of_lt h)
  unfold stepAt; split <;> omega

theorem step_le (s : List UInt8) (w i : Nat) : stepAt s w i ≤ 64 := by
  have := bst_le64 s w i
  unfold stepAt; split <;> omega

theorem lenT_at (s : List UInt8) (w i : Nat) : lenT (tokAt s w i) = stepAt s w i := by
  unfold lenT tokAt stepAt
  split
  · rfl
  · rename_i h
    rw [if_neg (show ¬ (((bst s w i).2 : Nat) : Int) = 0 by omega)]; simp

theorem rest_total {s : List UInt8} {w : Nat} : ∀ (k i : Nat), i ≤ s.length → s.length - i ≤ k → total (rest s w i) = s.length - i
  | 0, i, _, h => by rw [rest_end (by omega)]; simp [total]; omega
  | k + 1, i, h1, h2 => by
    by_cases hi : i < s.length
    · have := stepAt_pos s w i
      have := step_in (w := w) hi
      rw [rest_step hi, total, lenT_at, rest_total k _ (by omega) (by omega)]; omega
    · rw [rest_end (by omega)]; simp [total]; omega

theorem rest_len {s : List UInt8} {w : Nat} : ∀ (k i : Nat), s.length - i ≤ k → (rest s w i).length ≤ s.length - i
  | 0, i, h => by rw [rest_end (by omega)]; simp
  | k + 1, i, h2 => by
    by_cases hi : i < s.length
    · have := stepAt_pos s w i
      have := rest_len (s := s) (w := w) k (i + stepAt s w i) (by omega)
      rw [rest_step hi, List.length_cons]; omega
    · rw [rest_end (by omega)]; simp

/-- A copy of what stands there already. -/
theorem copyB_take {s : List UInt8} {i d : Nat} (h1 : 1 ≤ d) (h2 : d ≤ i) : ∀ n, i + n ≤ s.length → (∀ k, k < n → s[i + k]? = s[i + k - d]?) → copyB d n (s.take i) = s.take (i + n)
  | 0, _, _ => rfl
  | n + 1, hn, hk => by
    rw [copyB_succ, copyB_take h1 h2 n (by omega) (fun k hk' => hk k (by omega))]
    have e1 := hk n (by omega)
    rw [← Nat.add_assoc, List.take_add_one]
    congr 1
    rw [e1, List.getD_eq_getElem?_getD, List.length_take, Nat.min_eq_left (by omega), List.getElem?_take_of_lt (by omega), List.getElem?_eq_getElem (by omega)]
    rfl

theorem tok_code {s : List UInt8} {w i : Nat} (h6 : s.length ≤ 600) (hw : w ≤ 256) (hi : i < s.length) : codeT (s.take i) (tokAt s w i) = 0 := by
  have h1 := lenT_at s w i
  have h2 := step_in (w := w) hi
  have h3 := bst_le s w i
  have h4 := bst_le64 s w i
  have hb := (s.getD i 0).toNat_lt
  have hp : 2 ≤ (bst s w i).2 → 1 ≤ (bst s w i).1 := by
    intro hp
    rcases Mt.best_is s i (min w i) with h | h
    · have : (bst s w i).2 = 0 := h.2
      omega
    · exact h.1
  have hl : (s.take i).length = i := by rw [List.length_take]; omega
  unfold codeT
  rw [hl, h1]
  have ho : okT (tokAt s w i) = true := by
    unfold tokAt okT
    split
    · rw [if_pos rfl]; exact decide_eq_true ⟨rfl, by show (0 : Int) ≤ ((s.getD i 0).toNat : Int); omega, by show ((s.getD i 0).toNat : Int) < 256; omega⟩
    · rename_i hc
      have := hp (by omega)
      rw [if_neg (show ¬ (((bst s w i).2 : Nat) : Int) = 0 by omega)]
      exact decide_eq_true ⟨by show 0 < (((bst s w i).2 : Nat) : Int); omega, by show (((bst s w i).2 : Nat) : Int) ≤ 64; omega, by show 1 ≤ (((bst s w i).1 : Nat) : Int); omega, by show (((bst s w i).1 : Nat) : Int) ≤ 256; omega, rfl⟩
  have hd : (tokAt s w i).d ≤ i := by
    unfold tokAt
    split
    · show (0 : Int) ≤ i; omega
    · show (((bst s w i).1 : Nat) : Int) ≤ i; omega
  rw [ho, if_neg (by decide), if_neg (by omega), if_neg (by omega)]

theorem tok_add {s : List UInt8} {w i : Nat} (hi : i < s.length) : addT (s.take i) (tokAt s w i) = s.take (i + stepAt s w i) := by
  have h2 := bst_in (w := w) (Nat.le_of_lt hi)
  have h3 := bst_le s w i
  unfold addT tokAt stepAt
  by_cases hc : (bst s w i).2 < 2
  · rw [if_pos hc, if_pos hc, if_pos rfl, List.take_add_one, List.getElem?_eq_getElem hi]
    congr 1
    show [UInt8.ofNat ((s.getD i 0).toNat : Int).toNat] = _
    rw [List.getD_eq_getElem?_getD, List.getElem?_eq_getElem hi]
    simp
  · rw [if_neg hc, if_neg hc, if_neg (show ¬ (((bst s w i).2 : Nat) : Int) = 0 by omega)]
    show copyB (((bst s w i).1 : Nat) : Int).toNat (((bst s w i).2 : Nat) : Int).toNat (s.take i) = _
    rw [Int.toNat_natCast, Int.toNat_natCast]
    rcases Mt.best_is s i (min w i) with h | h
    · have : (bst s w i).2 = 0 := h.2
      omega
    · refine copyB_take h.1 (by omega) _ h2 (fun k hk => ?_)
      have := Mt.run_all s i (bst s w i).1 64 0 k (by omega) (by
        have e : (bst s w i).2 = Mt.run s i (bst s w i).1 64 0 := h.2.2.1
        rw [← e]; exact hk)
      exact this.2

/-- The tokens of a text make it. -/
theorem rest_back {s : List UInt8} {w : Nat} (h6 : s.length ≤ 600) (hw : w ≤ 256) : ∀ (k i : Nat), i ≤ s.length → s.length - i ≤ k → expE (s.take i) (rest s w i) = 0 ∧ expS (s.take i) (rest s w i) = s
  | 0, i, _, h => by rw [rest_end (by omega), List.take_of_length_le (by omega)]; exact ⟨rfl, rfl⟩
  | k + 1, i, h1, h2 => by
    by_cases hi : i < s.length
    · have := stepAt_pos s w i
      have := step_in (w := w) hi
      rw [rest_step hi, expE_good (tok_code h6 hw hi), expS_good (tok_code h6 hw hi), tok_add hi]
      exact rest_back h6 hw k _ (by omega) (by omega)
    · rw [rest_end (by omega), List.take_of_length_le (by omega)]; exact ⟨rfl, rfl⟩

def parse (s : List UInt8) (w : Nat) : List Tk := rest s w 0

theorem parse_back {s : List UInt8} {w : Nat} (h6 : s.length ≤ 600) (hw : w ≤ 256) : expE [] (parse s w) = 0 ∧ expS [] (parse s w) = s := by
  have := rest_back (w := w) h6 hw s.length 0 (Nat.zero_le _) (Nat.le_refl _)
  rwa [List.take_zero] at this

/-- So far as some of its tokens go. -/
theorem parse_part {s : List UInt8} {w : Nat} (h6 : s.length ≤ 600) (hw : w ≤ 256) (k : Nat) : expE [] ((parse s w).take k) = 0 ∧ expS [] ((parse s w).take k) <+: s := by
  have h := parse_back h6 hw
  have e := expE_append ((parse s w).take k) ((parse s w).drop k) []
  rw [List.take_append_drop, h.1] at e
  have h0 : expE [] ((parse s w).take k) = 0 := by
    by_cases hc : expE [] ((parse s w).take k) = 0
    · exact hc
    · rw [if_neg hc] at e; exact e.symm
  rw [if_pos h0] at e
  refine ⟨h0, ?_⟩
  have e2 := expS_append ((parse s w).take k) ((parse s w).drop k) [] h0
  rw [List.take_append_drop, h.2] at e2
  have := expS_prefix _ _ e.symm
  rwa [← e2] at this

/-! ### No tokens are fewer -/

theorem copyB_get (d : Nat) (hd : 1 ≤ d) : ∀ (n : Nat) (out : List UInt8), d ≤ out.length → ∀ k, k < n → (copyB d n out)[out.length + k]? = (copyB d n out)[out.length + k - d]?
  | 0, out, _, k, hk => absurd hk (Nat.not_lt_zero _)
  | n + 1, out, h, k, hk => by
    rw [copyB_succ]
    have hl := copyB_length d n out
    by_cases hkn : k < n
    · rw [List.getElem?_append_left (by omega), List.getElem?_append_left (by omega)]
      exact copyB_get d hd n out h k hkn
    · obtain rfl : k = n := by omega
      rw [List.getElem?_append_right (by omega), List.getElem?_append_left (by omega), hl, Nat.sub_self, List.getElem?_cons_zero, List.getD_eq_getElem?_getD, List.getElem?_eq_getElem (by omega)]
      rfl

theorem fewest {s : List UInt8} {w : Nat} : ∀ (l : List Tk) (p q : Nat), p ≤ s.length → p ≤ q → (∀ t, t ∈ l → t.d ≤ (w : Int)) → expE (s.take p) l = 0 → expS (s.take p) l = s → (rest s w q).length ≤ l.length
  | [], p, q, hp, hq, _, _, h2 => by
    have : (s.take p).length = s.length := congrArg List.length h2
    rw [List.length_take] at this
    rw [rest_end (by omega)]; exact Nat.le_refl _
  | t :: l, p, q, hp, hq, hw, h1, h2 => by
    by_cases hc : codeT (s.take p) t = 0
    · rw [expE_good hc] at h1
      rw [expS_good hc] at h2
      obtain ⟨o1, o2, _⟩ := codeT_parts hc
      have hpl : (s.take p).length = p := by rw [List.length_take]; omega
      have hpre := expS_prefix l _ h1
      rw [h2] at hpre
      have hal : (addT (s.take p) t).length = p + lenT t := by rw [addT_length, hpl]
      have hle := hpre.length_le
      rw [hal] at hle
      have hat : addT (s.take p) t = s.take (p + lenT t) := by
        rw [List.prefix_iff_eq_take.1 hpre, hal]
      rw [hat] at h1 h2
      by_cases hqs : q < s.length
      · rw [rest_step hqs, List.length_cons, List.length_cons]
        have hsp := stepAt_pos s w q
        refine Nat.succ_le_succ (fewest l (p + lenT t) _ hle ?_ (fun t' ht' => hw t' (List.mem_cons_of_mem _ ht')) h1 h2)
        rcases Nat.lt_or_ge q (p + lenT t) with hqp | hqp
        · rcases okT_parts o1 with ⟨n0, _⟩ | ⟨n1, n2, d1, d2, _⟩
          · have : lenT t = 1 := by unfold lenT; rw [if_pos n0]
            omega
          · have hln : lenT t = t.n.toNat := by unfold lenT; rw [if_neg (by omega)]
            have hwd := hw t (List.mem_cons_self ..)
            rw [hpl] at o2
            have hcp : copyB t.d.toNat t.n.toNat (s.take p) = s.take (p + lenT t) := by
              rw [← hat]; unfold addT; rw [if_neg (by omega)]
            have hget := copyB_get t.d.toNat (by omega) t.n.toNat (s.take p) (by omega)
            rw [hcp, hpl] at hget
            have hrun := Mt.run_most s q t.d.toNat 64 0 (p + lenT t - q) (by omega) (by
              intro k _ hk
              refine ⟨by omega, ?_⟩
              have := hget (q + k - p) (by omega)
              rw [List.getElem?_take_of_lt (by omega), List.getElem?_take_of_lt (by omega)] at this
              rw [show p + (q + k - p) = q + k from by omega] at this
              exact this)
            have hb := (Mt.best_max s q (min w q) t.d.toNat (by omega) (by omega)).1
            have hs : (bst s w q).2 ≤ stepAt s w q := by unfold stepAt; split <;> omega
            have hbb : (bst s w q).2 = (Mt.best s q (min w q)).2 := rfl
            omega
        · omega
      · rw [rest_end (by omega)]; simp
    · rw [expE_bad hc] at h1; exact absurd h1 hc

theorem parse_fewest {s : List UInt8} {w : Nat} {l : List Tk} (hw : ∀ t, t ∈ l → t.d ≤ (w : Int)) (h1 : expE [] l = 0) (h2 : expS [] l = s) : (parse s w).length ≤ l.length :=
  fewest l 0 0 (Nat.zero_le _) (Nat.le_refl _) hw (by rw [List.take_zero]; exact h1) (by rw [List.take_zero]; exact h2)

end Go.Proofs.Ytdmfgdhfkceihaa.Lz
