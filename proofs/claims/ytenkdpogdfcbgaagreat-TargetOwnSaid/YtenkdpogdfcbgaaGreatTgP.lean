import Derived.Test.YtenkdpogdfcbgaaGreatLrP
import Derived.Test.YtenkdpogdfcbgaaGreatQuP
/- Targets, plain: what each call answers and leaves. No program in sight. -/
namespace Go.Proofs.YtenkdpogdfcbgaaGreat.Tg
open Go.Proofs.YtenkdpogdfcbgaaGreat

/-- A target, plain: a state, a reservation, the deeds of its log. -/
structure S where
  st : Vo.St
  r : Rg.RV
  l : List Lg.Op

def text (t : S) : ByteArray := ⟨(Lr.log t.l).toArray⟩
def zero : S := ⟨Vo.st0, Rg.zero, []⟩

/-- What a call leaves, and its error. -/
structure An where
  t : S
  e : Nat

/-- What is right of a target. -/
structure Good (t : S) (G : Nat) : Prop where
  run : Lr.run Vo.st0 t.l = ⟨t.st, 0⟩
  len : t.l.length ≤ 200
  rv : Rg.Good t.r
  gen : t.r.gen ≤ (G : Int)

theorem good_zero : Good zero 0 := ⟨rfl, Nat.zero_le _, Rg.good_zero, Int.le_refl _⟩

theorem Good.right {t : S} {G : Nat} (h : Good t G) : Vo.Right t.st := by
  have := Lr.run_right (l := t.l) Vo.right0
  rwa [h.run] at this

theorem Good.chk {t : S} {G : Nat} (h : Good t G) : ∀ o ∈ t.l, Lg.chkE o = 0 := Lr.run_chk (s := Vo.st0) (by rw [h.run])

theorem Good.mono {t : S} {G H : Nat} (h : Good t G) (hg : G ≤ H) : Good t H := ⟨h.run, h.len, h.rv, by have := h.gen; omega⟩

theorem Good.size {t : S} {G : Nat} (h : Good t G) : (text t).size ≤ 20000 := by
  have h1 := Lr.log_length h.chk
  have h2 := h.len
  show (Lr.log t.l).toArray.size ≤ _
  rw [List.size_toArray]
  omega

def doR (t : S) (x : Int) (o : Lg.Op) : An :=
  if Rg.mayB t.r x true = false then ⟨t, 9⟩
  else if (Vo.doR t.st o).e ≠ 0 then ⟨t, (Vo.doR t.st o).e⟩
  else if t.l.length = 200 then ⟨t, 8⟩
  else ⟨⟨(Vo.doR t.st o).s, t.r, t.l ++ [o]⟩, 0⟩

theorem do_good {t : S} {G : Nat} (h : Good t G) (x : Int) (o : Lg.Op) : Good (doR t x o).t G := by
  unfold doR
  split
  · exact h
  · split
    · exact h
    · rename_i h0
      split
      · exact h
      · rename_i h1
        refine ⟨?_, ?_, h.rv, h.gen⟩
        · show Lr.run Vo.st0 (t.l ++ [o]) = _
          rw [Lr.run_app (by rw [h.run]), h.run]
          show (if (Vo.doR t.st o).e ≠ 0 then _ else Lr.run (Vo.doR t.st o).s []) = _
          rw [if_neg h0]
          rfl
        · have := h.len
          show (t.l ++ [o]).length ≤ 200
          rw [List.length_append]
          show t.l.length + 1 ≤ 200
          omega

/-- A deed that is done is behind all others in the log. -/
theorem text_do {t : S} (o : Lg.Op) (st : Vo.St) (r : Rg.RV) : text ⟨st, r, t.l ++ [o]⟩ = text t ++ ⟨(Lr.frm o).toArray⟩ := by
  apply ByteArray.ext
  rw [ByteArray.data_append]
  show (Lr.log (t.l ++ [o])).toArray = (Lr.log t.l).toArray ++ (Lr.frm o).toArray
  rw [Lr.log_app, Lr.log_cons, Lr.log_nil, List.append_nil]
  simp

def readR (t : S) (x : Int) (name : ByteArray) (at_ : Int) : ByteArray × Nat :=
  if Rg.mayB t.r x false = false then (⟨#[]⟩, 9) else Vo.readR t.st name at_

/-- A reservation that is kept. -/
def keep (t : S) (r : Rg.RV) (E : Nat) : An := ⟨if E = 0 then ⟨t.st, r, t.l⟩ else t, E⟩

def regT (t : S) (x old y : Int) : An := keep t (Rg.regR t.r x y) (Rg.regE t.r x old)
def resT (t : S) (x y k : Int) : An := keep t (Rg.resR t.r x k) (Rg.resE t.r x y k)
def relT (t : S) (x y k : Int) : An := keep t (Rg.relR t.r x) (Rg.relE t.r x y k)

theorem keep_good {t : S} {G H : Nat} (h : Good t G) (hg : G ≤ H) {r : Rg.RV} {E : Nat} (hr : E = 0 → Rg.Good r ∧ r.gen ≤ (H : Int)) : Good (keep t r E).t H := by
  unfold keep
  show Good (if E = 0 then _ else t) H
  split
  · rename_i h0
    exact ⟨h.run, h.len, (hr h0).1, (hr h0).2⟩
  · exact h.mono hg

theorem reg_good {t : S} {G : Nat} (h : Good t G) (hG : G < 1000) {x old y : Int} (h0 : 0 ≤ x) (h7 : x ≤ 7) (hy0 : 0 ≤ y) (hy1 : y ≤ 1000) : Good (regT t x old y).t (G + 1) :=
  keep_good h (Nat.le_succ _) fun _ => ⟨h.rv.reg (by have := h.gen; omega) h0 h7 hy0 hy1, by rw [Rg.reg_gen]; have := h.gen; omega⟩

theorem res_good {t : S} {G : Nat} (h : Good t G) {x y k : Int} (hk : Rg.kindB k = true) : Good (resT t x y k).t G :=
  keep_good h (Nat.le_refl _) fun h0 => ⟨h.rv.res hk h0, h.gen⟩

theorem rel_good {t : S} {G : Nat} (h : Good t G) {x y k : Int} : Good (relT t x y k).t G :=
  keep_good h (Nat.le_refl _) fun _ => ⟨h.rv.rel x, by rw [Rg.rel_gen]; exact h.gen⟩

/-- What is asked by one row of numbers. -/
def ask (ops : List Lg.Op) (t : S) (n : Nat) (f : Nat → Int) : S :=
  if n < 2 then t
  else if wi (f 0) 8 < 5 ∧ 0 < ops.length then (doR t (wi (f 1) 8) (ops.getD (wi (IntKind.i64.wrap ((f 0).tdiv 8)) ops.length) ⟨0, ⟨#[]⟩, ⟨#[]⟩, 0, ⟨#[]⟩⟩)).t
  else if wi (f 0) 8 = 5 then (regT t (wi (f 1) 8) (if 3 < n then wi (f 2) 4 else 0) (if 3 < n then wi (f 3) 4 else 0)).t
  else if wi (f 0) 8 = 6 then (resT t (wi (f 1) 8) (if 3 < n then wi (f 2) 4 else 0) (Rg.kinds (if 3 < n then wi (f 3) 4 else 0))).t
  else (relT t (wi (f 1) 8) (if 3 < n then wi (f 2) 4 else 0) (Rg.kinds (if 3 < n then wi (f 3) 4 else 0))).t

theorem ask_good {ops : List Lg.Op} {t : S} {G : Nat} (h : Good t G) (hG : G < 1000) (n : Nat) (f : Nat → Int) : Good (ask ops t n f) (G + 1) := by
  have w1 := wi_lt (f 1) 8 (by decide)
  have w3 := wi_lt (f 3) 4 (by decide)
  unfold ask
  split
  · exact h.mono (Nat.le_succ _)
  · split
    · exact (do_good h _ _).mono (Nat.le_succ _)
    · split
      · refine reg_good h hG (by omega) (by omega) ?_ ?_ <;> split <;> omega
      · split
        · exact (res_good h (Rg.kinds_ok _)).mono (Nat.le_succ _)
        · exact (rel_good h).mono (Nat.le_succ _)

/-- What is asked by rows of numbers, the first q. -/
def asks (ops : List Lg.Op) (N : Nat → Nat) (F : Nat → Nat → Int) (t : S) : Nat → S
  | 0 => t
  | q + 1 => ask ops (asks ops N F t q) (N q) (F q)

theorem asks_good {ops : List Lg.Op} {N : Nat → Nat} {F : Nat → Nat → Int} {t : S} {G : Nat} (h : Good t G) : ∀ {q : Nat}, G + q ≤ 1000 → Good (asks ops N F t q) (G + q)
  | 0, _ => h
  | q + 1, hq => ask_good (asks_good h (q := q) (by omega)) (by omega) _ _

theorem keep_l (t : S) (r : Rg.RV) (E : Nat) : (keep t r E).t.l = t.l := by
  unfold keep
  show (if E = 0 then (⟨t.st, r, t.l⟩ : S) else t).l = t.l
  split <;> rfl

theorem do_len (t : S) (x : Int) (o : Lg.Op) : t.l.length ≤ (doR t x o).t.l.length := by
  unfold doR
  split
  · exact Nat.le_refl _
  · split
    · exact Nat.le_refl _
    · split
      · exact Nat.le_refl _
      · show t.l.length ≤ (t.l ++ [o]).length
        rw [List.length_append]
        exact Nat.le_add_right _ _

theorem ask_len (ops : List Lg.Op) (t : S) (n : Nat) (f : Nat → Int) : t.l.length ≤ (ask ops t n f).l.length := by
  unfold ask
  split
  · exact Nat.le_refl _
  · split
    · exact do_len _ _ _
    · split
      · unfold regT; rw [keep_l]; exact Nat.le_refl _
      · split
        · unfold resT; rw [keep_l]; exact Nat.le_refl _
        · unfold relT; rw [keep_l]; exact Nat.le_refl _

theorem asks_len (ops : List Lg.Op) (N : Nat → Nat) (F : Nat → Nat → Int) (t : S) : ∀ q : Nat, t.l.length ≤ (asks ops N F t q).l.length
  | 0 => Nat.le_refl _
  | q + 1 => Nat.le_trans (asks_len ops N F t q) (ask_len _ _ _ _)

end Go.Proofs.YtenkdpogdfcbgaaGreat.Tg

/- Targets, plain: what a crash leaves. No program in sight. -/
namespace Go.Proofs.YtenkdpogdfcbgaaGreat.Tg
open Go.Proofs.YtenkdpogdfcbgaaGreat

/-- How many whole frames lie in the first p bytes of a log. -/
def cutN : List Lg.Op → Nat → Nat
  | [], _ => 0
  | o :: l, p => if p < (Lr.frm o).length then 0 else cutN l (p - (Lr.frm o).length) + 1

theorem part_short {o : Lg.Op} (h : Lg.chkE o = 0) {j : Nat} (hj : j < (Lr.frm o).length) : Fr.get ((Lr.frm o).take j) = (7, 0, [], 0) := by
  have hl := Lr.body_length h
  rw [Lr.frm_length h] at hj
  exact Fr.get_short (by decide) (by decide) (by omega) j hj

theorem cut_le : ∀ (l : List Lg.Op) (p : Nat), cutN l p ≤ l.length
  | [], _ => Nat.le_refl _
  | o :: l, p => by
    unfold cutN
    have := cut_le l (p - (Lr.frm o).length)
    rw [List.length_cons]
    split <;> omega

/-- A log that is cut off. -/
theorem cut_spec : ∀ {l : List Lg.Op}, (∀ o ∈ l, Lg.chkE o = 0) → ∀ p : Nat, ∃ rest, (Lr.log l).take p = Lr.log (l.take (cutN l p)) ++ rest ∧ (rest = [] ∨ rest ≠ [] ∧ Fr.get rest = (7, 0, [], 0)) ∧ (Lr.log (l.take (cutN l p))).length ≤ p
  | [], _, p => ⟨[], by rw [Lr.log_nil, List.take_nil]; rfl, Or.inl rfl, Nat.zero_le _⟩
  | o :: l, h, p => by
    have ho := h o List.mem_cons_self
    unfold cutN
    by_cases hp : p < (Lr.frm o).length
    · rw [if_pos hp]
      refine ⟨(Lr.frm o).take p, ?_, ?_, Nat.zero_le _⟩
      · rw [Lr.log_cons, List.take_append_of_le_length (Nat.le_of_lt hp)]
        rfl
      · by_cases h0 : (Lr.frm o).take p = []
        · exact Or.inl h0
        · exact Or.inr ⟨h0, part_short ho hp⟩
    · rw [if_neg hp]
      obtain ⟨rest, h1, h2, h3⟩ := cut_spec (fun x hx => h x (List.mem_cons_of_mem o hx)) (p - (Lr.frm o).length)
      refine ⟨rest, by rw [Lr.log_cons, List.take_append, List.take_of_length_le (by omega), h1, List.take_succ_cons, Lr.log_cons, List.append_assoc], h2, ?_⟩
      rw [List.take_succ_cons, Lr.log_cons, List.length_append]
      omega

theorem cut_full : ∀ (l : List Lg.Op), cutN l (Lr.log l).length = l.length
  | [] => rfl
  | o :: l => by
    unfold cutN
    rw [Lr.log_cons, List.length_append, if_neg (by omega), show (Lr.frm o).length + (Lr.log l).length - (Lr.frm o).length = (Lr.log l).length from by omega, cut_full l]
    rfl

theorem run_headT : ∀ {l m : List Lg.Op} {s : Vo.St}, (Lr.run s (l ++ m)).e = 0 → (Lr.run s l).e = 0
  | [], _, _, _ => rfl
  | o :: l, m, s, h => by
    obtain ⟨h1, h2⟩ := Lr.run_cons (l := l ++ m) h
    have h3 : (Lr.run s (o :: (l ++ m))).e = 0 := h
    rw [h2] at h3
    show (if (Vo.doR s o).e ≠ 0 then _ else Lr.run (Vo.doR s o).s l : Vo.An).e = 0
    rw [if_neg (fun h => h h1)]
    exact run_headT h3

theorem run_take {t : S} {G : Nat} (h : Good t G) (k : Nat) : (Lr.run Vo.st0 (t.l.take k)).e = 0 := by
  have h1 : (Lr.run Vo.st0 (t.l.take k ++ t.l.drop k)).e = 0 := by rw [List.take_append_drop, h.run]
  exact run_headT h1

/-- How many bytes are kept. -/
def crashP (t : S) (n : Int) : Nat := (max 0 (min n ((text t).size : Int))).toNat
def crashN (t : S) (n : Int) : Nat := cutN t.l (crashP t n)
def crashR (t : S) (n : Int) : S := ⟨(Lr.run Vo.st0 (t.l.take (crashN t n))).s, Rg.zero, t.l.take (crashN t n)⟩

theorem crash_good {t : S} {G : Nat} (h : Good t G) (n : Int) : Good (crashR t n) 0 := by
  have hr := run_take h (crashN t n)
  refine ⟨?_, ?_, Rg.good_zero, Int.le_refl _⟩
  · show Lr.run Vo.st0 (t.l.take (crashN t n)) = ⟨(Lr.run Vo.st0 (t.l.take (crashN t n))).s, 0⟩
    generalize Lr.run Vo.st0 (t.l.take (crashN t n)) = R at *
    obtain ⟨s, e⟩ := R
    obtain rfl : e = 0 := hr
    rfl
  · show (t.l.take (crashN t n)).length ≤ 200
    have := h.len
    rw [List.length_take]
    omega

theorem crash_p {t : S} (n : Int) : crashP t n ≤ (text t).size := by unfold crashP; omega
theorem crash_len {t : S} (n : Int) : (t.l.take (crashN t n)).length = crashN t n := by
  have := cut_le t.l (crashP t n)
  rw [List.length_take]
  unfold crashN
  omega

theorem text_list (t : S) : (text t).data.toList = Lr.log t.l := rfl
theorem text_size (t : S) : (text t).size = (Lr.log t.l).length := by
  show (Lr.log t.l).toArray.size = _
  rw [List.size_toArray]

/-- What a crash leaves is the log's beginning. -/
theorem crash_text {t : S} {G : Nat} (h : Good t G) (n : Int) : (text (crashR t n)).size ≤ crashP t n ∧ text (crashR t n) = (text t).extract 0 (text (crashR t n)).size := by
  obtain ⟨rest, h1, -, h3⟩ := cut_spec h.chk (crashP t n)
  refine ⟨by rw [text_size]; exact h3, ?_⟩
  have e : (Lr.log t.l).take (Lr.log (t.l.take (crashN t n))).length = Lr.log (t.l.take (crashN t n)) := by
    have h4 : Lr.log t.l = Lr.log (t.l.take (crashN t n)) ++ Lr.log (t.l.drop (crashN t n)) := by rw [← Lr.log_app, List.take_append_drop]
    rw [h4, List.take_left']
    rfl
  have e2 : ((text t).extract 0 (text (crashR t n)).size).data.toList = Lr.log (t.l.take (crashN t n)) := by
    rw [ext_data, List.drop_zero, Nat.sub_zero, text_size]
    exact e
  apply ByteArray.ext
  apply Array.toList_inj.1
  rw [e2]
  rfl

/-- Behind a crash, cut off again where it ends, it is the same. -/
theorem crash_again {t : S} (n : Int) : crashN (crashR t n) ((text (crashR t n)).size : Int) = crashN t n ∧ crashR (crashR t n) ((text (crashR t n)).size : Int) = crashR t n := by
  have e : crashP (crashR t n) ((text (crashR t n)).size : Int) = (Lr.log (t.l.take (crashN t n))).length := by
    unfold crashP
    rw [text_size]
    show (max 0 (min ((Lr.log (t.l.take (crashN t n))).length : Int) ((Lr.log (t.l.take (crashN t n))).length : Int))).toNat = _
    omega
  have e1 : crashN (crashR t n) ((text (crashR t n)).size : Int) = crashN t n := by
    unfold crashN
    rw [e]
    show cutN (t.l.take (crashN t n)) _ = _
    rw [cut_full, crash_len]
    rfl
  refine ⟨e1, ?_⟩
  have h2 : (crashR (crashR t n) ((text (crashR t n)).size : Int)).l = (crashR t n).l := by
    show (t.l.take (crashN t n)).take (crashN (crashR t n) _) = t.l.take (crashN t n)
    rw [e1, List.take_take, Nat.min_self]
  show (⟨(Lr.run Vo.st0 (crashR (crashR t n) ((text (crashR t n)).size : Int)).l).s, Rg.zero, (crashR (crashR t n) ((text (crashR t n)).size : Int)).l⟩ : S) = _
  rw [h2]
  rfl

end Go.Proofs.YtenkdpogdfcbgaaGreat.Tg
