/- Bits as bytes, and bits read as tokens: plain facts. No program in sight. -/
import Derived.Test.YtkdcapjnoapjgaaDoorPkP
import Derived.Test.YtkdcapjnoapjgaaDoorGrP
namespace Go.Proofs.YtkdcapjnoapjgaaDoor.Pk
open Go.Proofs.YtkdcapjnoapjgaaDoor

/-! ### Bits as bytes -/

def pad (l : List UInt8) : List UInt8 := l ++ 49 :: List.replicate ((8 - (l.length + 1) % 8) % 8) 48

def bytsN : Nat → List UInt8 → List UInt8
  | 0, _ => []
  | k + 1, l => UInt8.ofNat (Gr.val (l.take 8)) :: bytsN k (l.drop 8)

def by_ (l : List UInt8) : List UInt8 := bytsN ((pad l).length / 8) (pad l)

def ub (b : List UInt8) : List UInt8 := b.flatMap fun x => Gm.low x.toNat 8

/-- Without the zeros behind. -/
def tr (l : List UInt8) : List UInt8 := (l.reverse.dropWhile (· == 48)).reverse

theorem pad_length (l : List UInt8) : (pad l).length = l.length + 1 + (8 - (l.length + 1) % 8) % 8 := by
  unfold pad; rw [List.length_append, List.length_cons, List.length_replicate]; omega

theorem pad_eight (l : List UInt8) : (pad l).length = 8 * ((pad l).length / 8) := by
  have := pad_length l; omega

theorem pad_bits {l : List UInt8} (h : Gr.bitsB l = true) : Gr.bitsB (pad l) = true := Gr.bitsB_of fun b hb => by
  unfold pad at hb
  rcases List.mem_append.1 hb with hb | hb
  · exact Gr.bitsB_mem h hb
  · rcases List.mem_cons.1 hb with rfl | hb
    · exact Or.inr rfl
    · exact Or.inl (List.eq_of_mem_replicate hb)

theorem bytsN_length : ∀ (k : Nat) (l : List UInt8), (bytsN k l).length = k
  | 0, _ => rfl
  | k + 1, l => by rw [bytsN, List.length_cons, bytsN_length k]

theorem bytsN_snoc : ∀ (k : Nat) (l : List UInt8), bytsN (k + 1) l = bytsN k l ++ [UInt8.ofNat (Gr.val ((l.drop (8 * k)).take 8))]
  | 0, l => rfl
  | k + 1, l => by
    have h := bytsN_snoc k (l.drop 8)
    rw [List.drop_drop] at h
    rw [show bytsN (k + 1 + 1) l = UInt8.ofNat (Gr.val (l.take 8)) :: bytsN (k + 1) (l.drop 8) from rfl, h, show 8 + 8 * k = 8 * (k + 1) from by omega]
    rfl

theorem ub_app (a b : List UInt8) : ub (a ++ b) = ub a ++ ub b := by unfold ub; rw [List.flatMap_append]
theorem ub_cons (x : UInt8) (b : List UInt8) : ub (x :: b) = Gm.low x.toNat 8 ++ ub b := rfl
theorem ub_length : ∀ b : List UInt8, (ub b).length = 8 * b.length
  | [] => rfl
  | x :: b => by rw [ub_cons, List.length_append, Gm.low_length, ub_length b, List.length_cons]; omega
theorem ub_bits (b : List UInt8) : Gr.bitsB (ub b) = true := Gr.bitsB_of fun x hx => by
  unfold ub at hx
  obtain ⟨y, -, hy⟩ := List.mem_flatMap.1 hx
  exact Gr.bitsB_mem (Gr.bits_low y.toNat 8) hy

theorem ub_byts : ∀ (k : Nat) (l : List UInt8), l.length = 8 * k → Gr.bitsB l = true → ub (bytsN k l) = l
  | 0, l, hl, _ => by rw [List.length_eq_zero_iff.1 (by omega : l.length = 0)]; rfl
  | k + 1, l, hl, h => by
    have ht : (l.take 8).length = 8 := by rw [List.length_take]; omega
    have hb := Gr.bitsB_take h 8
    have hv := Gr.val_lt hb
    rw [ht] at hv
    have hlow := Gr.low_val 8 (l.take 8) ht hb
    rw [bytsN, ub_cons, ub_byts k (l.drop 8) (by rw [List.length_drop]; omega) (Gr.bitsB_drop h 8)]
    rw [UInt8.toNat_ofNat', Nat.mod_eq_of_lt (by have : (2 : Nat) ^ 8 = 256 := rfl; omega), hlow, List.take_append_drop]

theorem byts_ub : ∀ b : List UInt8, bytsN b.length (ub b) = b
  | [] => rfl
  | x :: b => by
    have hl := Gm.low_length x.toNat 8
    rw [List.length_cons, bytsN, ub_cons, List.take_left' hl, List.drop_left' hl, byts_ub b, Gr.val_low]
    congr 1
    have := x.toNat_lt
    rw [Nat.mod_eq_of_lt (by have h : (2 : Nat) ^ 8 = 256 := rfl; omega)]
    exact UInt8.toNat_inj.1 (by rw [UInt8.toNat_ofNat']; omega)

theorem ub_by {l : List UInt8} (h : Gr.bitsB l = true) : ub (by_ l) = pad l := ub_byts _ _ (pad_eight l) (pad_bits h)

theorem tr_pad (l : List UInt8) : tr (pad l) = l ++ [49] := by
  unfold tr pad
  rw [List.reverse_append, List.reverse_cons, List.reverse_replicate, List.append_assoc, List.singleton_append, Gr.drop_rep, List.reverse_cons, List.reverse_reverse]

theorem by_length (l : List UInt8) : (by_ l).length = (pad l).length / 8 := bytsN_length _ _

/-- What the bytes of bits say. -/
theorem un_by {l : List UInt8} (h : Gr.bitsB l = true) : tr (ub (by_ l)) = l ++ [49] ∧ 8 * (by_ l).length = l.length + 1 + (8 - (l.length + 1) % 8) % 8 := by
  rw [ub_by h, tr_pad, by_length, ← pad_eight, pad_length]
  exact ⟨rfl, rfl⟩

theorem tr_split (l : List UInt8) : ∃ j, l = tr l ++ List.replicate j 48 ∧ (tr l ≠ [] → ∃ z b, tr l = z ++ [b] ∧ b ≠ 48) := by
  have h1 := List.takeWhile_append_dropWhile (p := fun x : UInt8 => x == 48) (l := l.reverse)
  refine ⟨(l.reverse.takeWhile fun x : UInt8 => x == 48).length, ?_, fun hne => ?_⟩
  · have h2 : l.reverse.takeWhile (fun x : UInt8 => x == 48) = List.replicate (l.reverse.takeWhile fun x : UInt8 => x == 48).length 48 :=
      List.eq_replicate_iff.2 ⟨rfl, fun b hb => by simpa using List.all_eq_true.1 (List.all_takeWhile (l := l.reverse) (p := fun x : UInt8 => x == 48)) b hb⟩
    have h3 := congrArg List.reverse h1
    rw [List.reverse_append, List.reverse_reverse] at h3
    rw [h2, List.reverse_replicate] at h3
    exact h3.symm
  · unfold tr at hne ⊢
    cases hd : l.reverse.dropWhile (fun x : UInt8 => x == 48) with
    | nil => rw [hd] at hne; exact absurd rfl hne
    | cons b r =>
      refine ⟨r.reverse, b, by rw [List.reverse_cons], ?_⟩
      have := List.head?_dropWhile_not (fun x : UInt8 => x == 48) l.reverse
      rw [hd] at this
      simpa using this

/-- Bytes that are read are written as they were. -/
theorem by_un {b : List UInt8} (h0 : tr (ub b) ≠ []) (h7 : 8 * b.length - (tr (ub b)).length ≤ 7) : Gr.bitsB (tr (ub b)).dropLast = true ∧ by_ (tr (ub b)).dropLast = b := by
  obtain ⟨j, hj, hz⟩ := tr_split (ub b)
  obtain ⟨z, c, hzc, hc⟩ := hz h0
  have hb := ub_bits b
  have hlen := ub_length b
  have hc49 : c = 49 := by
    rcases Gr.bitsB_mem hb (show c ∈ ub b by rw [hj, hzc]; simp) with h | h
    · exact absurd h hc
    · exact h
  subst hc49
  have hzl : (tr (ub b)).length = z.length + 1 := by rw [hzc, List.length_append]; rfl
  have hjl : z.length + 1 + j = 8 * b.length := by
    rw [← hlen]
    have := congrArg List.length hj
    rw [List.length_append, List.length_replicate, hzl] at this
    omega
  rw [hzl] at h7
  rw [hzc, List.dropLast_concat]
  have hpad : pad z = ub b := by
    rw [hj, hzc]
    unfold pad
    rw [show (8 - (z.length + 1) % 8) % 8 = j from by omega]
    simp
  refine ⟨Gr.bitsB_sub hb fun x hx => by rw [hj, hzc]; simp [hx], ?_⟩
  unfold by_
  rw [hpad, hlen, Nat.mul_div_cancel_left _ (by decide : 0 < 8), byts_ub]

/-! ### Bits read as tokens -/

def zt : Lz.Tk := ⟨0, 0, 0⟩

def tokR (l : List UInt8) : Int × Lz.Tk × Nat :=
  if l.headD 0 = 48 then (if l.length < 9 then (7, zt, 0) else (0, ⟨0, 0, (Gr.val ((l.drop 1).take 8) : Int)⟩, 9))
  else if (Gr.readG (l.drop 1)).1 ≠ 0 then ((Gr.readG (l.drop 1)).1, zt, 0)
  else if (Gr.readG (l.drop (1 + (Gr.readG (l.drop 1)).2.2))).1 ≠ 0 then ((Gr.readG (l.drop (1 + (Gr.readG (l.drop 1)).2.2))).1, zt, 0)
  else (0, ⟨((Gr.readG (l.drop 1)).2.1 : Int), ((Gr.readG (l.drop (1 + (Gr.readG (l.drop 1)).2.2))).2.1 : Int), 0⟩, 1 + (Gr.readG (l.drop 1)).2.2 + (Gr.readG (l.drop (1 + (Gr.readG (l.drop 1)).2.2))).2.2)

theorem tb_bits (t : Lz.Tk) : Gr.bitsB (tb t) = true := by
  unfold tb
  split
  · show (Gr.isB 48 && Gr.bitsB (Gm.low t.b.toNat 8)) = true
    rw [Gr.bits_low]; rfl
  · show (Gr.isB 49 && Gr.bitsB (Gm.plain t.d.toNat ++ Gm.plain t.n.toNat)) = true
    rw [Gr.bitsB_app, Gr.bits_plain, Gr.bits_plain]; rfl

theorem bits_bits : ∀ l : List Lz.Tk, Gr.bitsB (bits l) = true
  | [] => rfl
  | t :: l => by rw [bits, Gr.bitsB_app, tb_bits, bits_bits l]; rfl

theorem tb_pos (t : Lz.Tk) : 1 ≤ (tb t).length := by unfold tb; split <;> simp

theorem tokR_tb {t : Lz.Tk} (h : Lz.okT t = true) {more : List UInt8} (hm : Gr.bitsB more = true) : tokR (tb t ++ more) = (0, t, (tb t).length) := by
  obtain ⟨D, N, B⟩ := t
  rcases Lz.okT_parts h with ⟨h0, h1, h2, h3⟩ | ⟨h0, h1, h2, h3, h4⟩
  · dsimp only at h0 h1 h2 h3
    subst h0; subst h1
    have hl := Gm.low_length B.toNat 8
    have ht : tb ⟨0, 0, B⟩ = 48 :: Gm.low B.toNat 8 := rfl
    unfold tokR
    rw [ht, List.cons_append, if_pos (show (48 :: (Gm.low B.toNat 8 ++ more)).headD 0 = (48 : UInt8) from rfl), if_neg (by rw [List.length_cons, List.length_append, hl]; omega), List.drop_one, List.tail_cons, List.take_left' hl, Gr.val_low, List.length_cons, hl]
    rw [Nat.mod_eq_of_lt (by have : (2 : Nat) ^ 8 = 256 := rfl; omega)]
    rw [Int.toNat_of_nonneg h2]
  · dsimp only at h0 h1 h2 h3 h4
    subst h4
    have hDn : D.toNat ≠ 0 := by omega
    have hNn : N.toNat ≠ 0 := by omega
    have hp1 := Gm.plain_length D.toNat hDn
    have hp2 := Gm.plain_length N.toNat hNn
    have hL1 := G.L_pos.2 hDn
    have hL2 := G.L_pos.2 hNn
    have ht : tb ⟨D, N, 0⟩ = 49 :: (Gm.plain D.toNat ++ Gm.plain N.toNat) := if_neg (by show ¬ N = 0; omega)
    have hg1 : Gr.readG ((49 :: (Gm.plain D.toNat ++ Gm.plain N.toNat) ++ more).drop 1) = (0, D.toNat, 2 * G.L D.toNat - 1) := by
      rw [List.cons_append, List.drop_one, List.tail_cons, List.append_assoc]
      exact Gr.readG_plain hDn (by omega) (by rw [Gr.bitsB_app, Gr.bits_plain, hm]; rfl)
    have hg2 : Gr.readG ((49 :: (Gm.plain D.toNat ++ Gm.plain N.toNat) ++ more).drop (1 + (2 * G.L D.toNat - 1))) = (0, N.toNat, 2 * G.L N.toNat - 1) := by
      rw [Nat.add_comm, List.cons_append, List.drop_succ_cons, List.append_assoc, List.drop_left' hp1]
      exact Gr.readG_plain hNn (by omega) hm
    unfold tokR
    rw [ht, hg1]
    dsimp only
    rw [hg2]
    dsimp only
    rw [if_neg (by rw [List.cons_append]; show ¬ (49 : UInt8) = 48; decide), if_neg (by decide), if_neg (by decide), List.length_cons, List.length_append, hp1, hp2, Int.toNat_of_nonneg (by omega), Int.toNat_of_nonneg (by omega)]
    congr 2
    omega

theorem tokR_back {l : List UInt8} {t : Lz.Tk} {u : Nat} (hb : Gr.bitsB l = true) (hne : l ≠ []) (h : tokR l = (0, t, u)) : 1 ≤ u ∧ u ≤ l.length ∧ l.take u = tb t := by
  obtain ⟨b, r, rfl⟩ : ∃ b r, l = b :: r := by cases l with | nil => exact absurd rfl hne | cons b r => exact ⟨b, r, rfl⟩
  have hbr : Gr.bitsB r = true := Gr.bitsB_sub hb fun x hx => List.mem_cons_of_mem _ hx
  unfold tokR at h
  rw [List.drop_one, List.tail_cons] at h
  split at h
  · rename_i h48
    have h48' : b = 48 := h48
    subst h48'
    split at h
    · cases h
    · rename_i h9
      cases h
      rw [List.length_cons] at h9
      have hl : (r.take 8).length = 8 := by rw [List.length_take]; omega
      refine ⟨by omega, by rw [List.length_cons]; omega, ?_⟩
      show (48 :: r).take (8 + 1) = 48 :: Gm.low (Gr.val (r.take 8)) 8
      rw [List.take_succ_cons, Gr.low_val 8 _ hl (Gr.bitsB_take hbr 8)]
  · rename_i h48
    have h49 : b = 49 := by
      rcases Gr.bitsB_mem hb (List.mem_cons_self ..) with h | h
      · exact absurd h h48
      · exact h
    subst h49
    obtain ⟨c1, v1, u1, hg1⟩ : ∃ c v u, Gr.readG r = (c, v, u) := ⟨_, _, _, rfl⟩
    rw [hg1] at h
    dsimp only at h
    split at h
    · cases h; contradiction
    · rename_i hc1
      have hc1' : c1 = 0 := by simpa using hc1
      subst hc1'
      obtain ⟨-, hv1, hv2, hu1, ht1⟩ := Gr.readG_back hg1
      rw [Nat.add_comm 1 u1, List.drop_succ_cons] at h
      obtain ⟨c2, v2, u2, hg2⟩ : ∃ c v u, Gr.readG (r.drop u1) = (c, v, u) := ⟨_, _, _, rfl⟩
      rw [hg2] at h
      dsimp only at h
      split at h
      · cases h; contradiction
      · rename_i hc2
        have hc2' : c2 = 0 := by simpa using hc2
        subst hc2'
        obtain ⟨-, hw1, hw2, hu2, ht2⟩ := Gr.readG_back hg2
        rw [List.length_drop] at hu2
        cases h
        refine ⟨by omega, by rw [List.length_cons]; omega, ?_⟩
        have htb : tb ⟨(v1 : Int), (v2 : Int), 0⟩ = 49 :: (Gm.plain v1 ++ Gm.plain v2) := if_neg (by show ¬ ((v2 : Int) = 0); omega)
        rw [htb, show u1 + 1 + u2 = u1 + u2 + 1 from by omega, List.take_succ_cons, List.take_add, ht1, ht2]

def tksR : Nat → List UInt8 → Int × List Lz.Tk
  | 0, _ => (0, [])
  | f + 1, l => if l = [] then (0, []) else if (tokR l).1 ≠ 0 then ((tokR l).1, []) else if (tksR f (l.drop (tokR l).2.2)).1 ≠ 0 then ((tksR f (l.drop (tokR l).2.2)).1, []) else (0, (tokR l).2.1 :: (tksR f (l.drop (tokR l).2.2)).2)

def tkns (l : List UInt8) : Int × List Lz.Tk :=
  if Gr.bitsB l = false then (3, []) else if (tksR l.length l).1 ≠ 0 then ((tksR l.length l).1, []) else if Lz.expE [] (tksR l.length l).2 ≠ 0 then (Lz.expE [] (tksR l.length l).2, []) else (0, (tksR l.length l).2)

theorem tksR_bits : ∀ (ts : List Lz.Tk) (f : Nat), (bits ts).length ≤ f → (∀ t ∈ ts, Lz.okT t = true) → tksR f (bits ts) = (0, ts)
  | [], 0, _, _ => rfl
  | [], f + 1, _, _ => by rw [bits, tksR, if_pos rfl]
  | t :: ts, 0, hf, _ => by have := tb_pos t; rw [bits, List.length_append] at hf; omega
  | t :: ts, f + 1, hf, h => by
    have hp := tb_pos t
    rw [bits, List.length_append] at hf
    have ht := tokR_tb (h t (List.mem_cons_self ..)) (bits_bits ts)
    have ih := tksR_bits ts f (by omega) (fun t' ht' => h t' (List.mem_cons_of_mem _ ht'))
    rw [bits, tksR, if_neg (by intro he; rw [List.append_eq_nil_iff] at he; rw [he.1] at hp; simp at hp), ht]
    dsimp only
    rw [List.drop_left, ih]
    dsimp only
    rw [if_neg (by decide), if_neg (by decide)]

theorem tksR_back : ∀ (f : Nat) (l : List UInt8) (ts : List Lz.Tk), l.length ≤ f → Gr.bitsB l = true → tksR f l = (0, ts) → bits ts = l
  | 0, l, ts, hf, _, h => by
    cases h
    rw [List.length_eq_zero_iff.1 (by omega : l.length = 0)]; rfl
  | f + 1, l, ts, hf, hb, h => by
    rw [tksR] at h
    split at h
    · rename_i he; cases h; rw [he]; rfl
    · rename_i he
      obtain ⟨c, t, u, ht⟩ : ∃ c t u, tokR l = (c, t, u) := ⟨_, _, _, rfl⟩
      rw [ht] at h
      dsimp only at h
      split at h
      · cases h; contradiction
      · rename_i hc
        have hc' : c = 0 := by simpa using hc
        subst hc'
        obtain ⟨h1, h2, h3⟩ := tokR_back hb he ht
        obtain ⟨c2, ts2, ht2⟩ : ∃ c ts, tksR f (l.drop u) = (c, ts) := ⟨_, _, rfl⟩
        rw [ht2] at h
        dsimp only at h
        split at h
        · cases h; contradiction
        · rename_i hc2
          have hc2' : c2 = 0 := by simpa using hc2
          subst hc2'
          cases h
          rw [bits, tksR_back f (l.drop u) ts2 (by rw [List.length_drop]; omega) (Gr.bitsB_drop hb u) ht2, ← h3, List.take_append_drop]

theorem tkns_bits {ts : List Lz.Tk} (h : Lz.expE [] ts = 0) : tkns (bits ts) = (0, ts) := by
  have hr := tksR_bits ts _ (Nat.le_refl _) (expE_ok ts [] h)
  unfold tkns
  rw [bits_bits, if_neg (by decide), hr]
  dsimp only
  rw [h, if_neg (by decide), if_neg (by decide)]

theorem tkns_back {l : List UInt8} {ts : List Lz.Tk} (h : tkns l = (0, ts)) : Gr.bitsB l = true ∧ Lz.expE [] ts = 0 ∧ bits ts = l := by
  unfold tkns at h
  split at h
  · cases h
  · rename_i hb
    have hb' : Gr.bitsB l = true := by simpa using hb
    obtain ⟨c, ts', hr⟩ : ∃ c ts, tksR l.length l = (c, ts) := ⟨_, _, rfl⟩
    rw [hr] at h
    dsimp only at h
    split at h
    · cases h; contradiction
    · rename_i hc
      have hc' : c = 0 := by simpa using hc
      subst hc'
      split at h
      · rename_i he
        exact absurd (congrArg Prod.fst h) he
      · rename_i he
        cases h
        exact ⟨hb', by simpa using he, tksR_back _ l ts (Nat.le_refl _) hb' hr⟩

end Go.Proofs.YtkdcapjnoapjgaaDoor.Pk
