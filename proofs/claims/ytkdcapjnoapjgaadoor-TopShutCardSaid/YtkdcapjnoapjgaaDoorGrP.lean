/- Bits read as numbers, plain facts. No program in sight. -/
import Derived.Test.YtkdcapjnoapjgaaDoorGammaP
namespace Go.Proofs.YtkdcapjnoapjgaaDoor.Gr
open Go.Proofs.YtkdcapjnoapjgaaDoor

def isB (b : UInt8) : Bool := [48, 49].contains b
def bitsB (l : List UInt8) : Bool := l.all isB
/-- How many zeros a text begins with. -/
def zer (l : List UInt8) : Nat := l.length - (l.dropWhile (· == 48)).length
def val (l : List UInt8) : Nat := l.foldl (fun n b => 2 * n + (b.toNat - 48)) 0

theorem isB_iff {b : UInt8} : isB b = true ↔ b = 48 ∨ b = 49 := by unfold isB; simp

theorem bitsB_app (l m : List UInt8) : bitsB (l ++ m) = (bitsB l && bitsB m) := by unfold bitsB; rw [List.all_append]
theorem bitsB_mem {l : List UInt8} (h : bitsB l = true) {b : UInt8} (hb : b ∈ l) : b = 48 ∨ b = 49 := isB_iff.1 (List.all_eq_true.1 h b hb)
theorem bitsB_of {l : List UInt8} (h : ∀ b ∈ l, b = 48 ∨ b = 49) : bitsB l = true := List.all_eq_true.2 fun b hb => isB_iff.2 (h b hb)
theorem bitsB_sub {l m : List UInt8} (h : bitsB l = true) (hs : ∀ b ∈ m, b ∈ l) : bitsB m = true := bitsB_of fun b hb => bitsB_mem h (hs b hb)
theorem bitsB_take {l : List UInt8} (h : bitsB l = true) (k : Nat) : bitsB (l.take k) = true := bitsB_sub h fun _ hb => List.mem_of_mem_take hb
theorem bitsB_drop {l : List UInt8} (h : bitsB l = true) (k : Nat) : bitsB (l.drop k) = true := bitsB_sub h fun _ hb => List.mem_of_mem_drop hb

theorem val_snoc (l : List UInt8) (b : UInt8) : val (l ++ [b]) = 2 * val l + (b.toNat - 48) := by unfold val; rw [List.foldl_append]; rfl

theorem val_take {l : List UInt8} {k : Nat} (hk : k < l.length) : val (l.take (k + 1)) = 2 * val (l.take k) + (l[k].toNat - 48) := by
  rw [List.take_succ_eq_append_getElem hk, val_snoc]

theorem val_from (l : List UInt8) : ∀ a, l.foldl (fun n b => 2 * n + (b.toNat - 48)) a = a * 2 ^ l.length + val l := by
  induction l with
  | nil => intro a; simp [val]
  | cons b l ih =>
    intro a
    have h1 := ih (2 * a + (b.toNat - 48))
    have h2 := ih (2 * 0 + (b.toNat - 48))
    have h3 : val (b :: l) = l.foldl (fun n b => 2 * n + (b.toNat - 48)) (2 * 0 + (b.toNat - 48)) := rfl
    rw [h3, h2]
    show l.foldl (fun n b => 2 * n + (b.toNat - 48)) (2 * a + (b.toNat - 48)) = _
    rw [h1, List.length_cons, Nat.pow_succ, Nat.add_mul, Nat.mul_assoc, Nat.mul_left_comm 2 a, Nat.mul_comm 2, Nat.add_mul, Nat.mul_zero, Nat.zero_mul]
    omega

theorem val_cons (b : UInt8) (l : List UInt8) : val (b :: l) = (b.toNat - 48) * 2 ^ l.length + val l := by
  have := val_from l (2 * 0 + (b.toNat - 48))
  have h3 : val (b :: l) = l.foldl (fun n b => 2 * n + (b.toNat - 48)) (2 * 0 + (b.toNat - 48)) := rfl
  rw [h3, this]; simp

theorem val_lt {l : List UInt8} (h : bitsB l = true) : val l < 2 ^ l.length := by
  induction l with
  | nil => simp [val]
  | cons b l ih =>
    have h1 := bitsB_mem h (List.mem_cons_self ..)
    have h2 := ih (bitsB_sub h fun _ hb => List.mem_cons_of_mem _ hb)
    rw [val_cons, List.length_cons, Nat.pow_succ]
    rcases h1 with rfl | rfl
    · have : (48 : UInt8).toNat - 48 = 0 := rfl
      rw [this]; omega
    · have : (49 : UInt8).toNat - 48 = 1 := rfl
      rw [this]; omega

theorem low_snoc (n k : Nat) : Gm.low n (k + 1) = Gm.low (n / 2) k ++ [UInt8.ofNat (48 + n % 2)] := by
  unfold Gm.low
  rw [List.range_succ, List.map_append]
  congr 1
  · apply List.map_congr_left
    intro i hi
    have hi' : i < k := List.mem_range.1 hi
    unfold Gm.bit
    rw [show k + 1 - 1 - i = (k - 1 - i) + 1 from by omega, Nat.pow_succ, Nat.mul_comm, Nat.div_div_eq_div_mul]
  · unfold Gm.bit
    simp

theorem bit_nat (x : Nat) : (UInt8.ofNat (48 + x % 2)).toNat = 48 + x % 2 := by rw [UInt8.toNat_ofNat']; omega

theorem bits_low (n k : Nat) : bitsB (Gm.low n k) = true := bitsB_of fun b hb => by
  unfold Gm.low at hb
  obtain ⟨i, -, rfl⟩ := List.mem_map.1 hb
  unfold Gm.bit
  rcases Nat.mod_two_eq_zero_or_one (n / 2 ^ (k - 1 - i)) with h | h
  · rw [h]; exact Or.inl rfl
  · rw [h]; exact Or.inr rfl

theorem val_low (k : Nat) : ∀ n, val (Gm.low n k) = n % 2 ^ k := by
  induction k with
  | zero => intro n; rw [Nat.pow_zero, Nat.mod_one]; rfl
  | succ k ih =>
    intro n
    rw [low_snoc, val_snoc, ih, bit_nat, Nat.pow_succ, Nat.mul_comm (2 ^ k) 2, Nat.mod_mul]
    omega

theorem low_val : ∀ (k : Nat) (l : List UInt8), l.length = k → bitsB l = true → Gm.low (val l) k = l
  | 0, l, hl, _ => by rw [List.length_eq_zero_iff.1 hl]; rfl
  | k + 1, l, hl, h => by
    have hk : k < l.length := by omega
    have e : l = l.take k ++ [l[k]] := by
      rw [← List.take_succ_eq_append_getElem hk, List.take_of_length_le (by omega)]
    have hb := bitsB_mem h (List.getElem_mem hk)
    have ih := low_val k (l.take k) (by rw [List.length_take]; omega) (bitsB_take h k)
    generalize l.take k = m at *
    generalize l[k] = b at *
    rw [e, low_snoc, val_snoc]
    have h1 : (2 * val m + (b.toNat - 48)) / 2 = val m ∧ UInt8.ofNat (48 + (2 * val m + (b.toNat - 48)) % 2) = b := by
      rcases hb with rfl | rfl
      · have : (48 : UInt8).toNat - 48 = 0 := rfl
        rw [this]
        exact ⟨by omega, by rw [show 48 + (2 * val m + 0) % 2 = 48 from by omega]; rfl⟩
      · have : (49 : UInt8).toNat - 48 = 1 := rfl
        rw [this]
        exact ⟨by omega, by rw [show 48 + (2 * val m + 1) % 2 = 49 from by omega]; rfl⟩
    rw [h1.1, h1.2, ih]

/-! ### Reading -/

def readG (l : List UInt8) : Int × Nat × Nat :=
  if bitsB l = false then (3, 0, 0) else if 30 < zer l then (2, 0, 0) else if l.length < 2 * zer l + 1 then (7, 0, 0) else (0, val ((l.drop (zer l)).take (zer l + 1)), 2 * zer l + 1)

theorem drop_rep (k : Nat) (r : List UInt8) : (List.replicate k (48 : UInt8) ++ 49 :: r).dropWhile (· == 48) = 49 :: r := by
  induction k with
  | zero => rfl
  | succ k ih => rw [List.replicate_succ, List.cons_append, List.dropWhile_cons_of_pos (by rfl), ih]

theorem zer_rep (k : Nat) (r : List UInt8) : zer (List.replicate k 48 ++ 49 :: r) = k := by
  unfold zer
  rw [drop_rep, List.length_append, List.length_replicate]
  omega

theorem low_top {n : Nat} (h : n ≠ 0) : ∃ r, Gm.low n (G.L n) = 49 :: r := by
  have := Gm.low_head h
  cases hl : Gm.low n (G.L n) with
  | nil => rw [hl] at this; cases this
  | cons b r => rw [hl] at this; exact ⟨r, by rw [show b = 49 from by simpa using this]⟩

theorem bits_plain (n : Nat) : bitsB (Gm.plain n) = true := by
  unfold Gm.plain
  rw [bitsB_app, bits_low, Bool.and_true]
  exact bitsB_of fun b hb => Or.inl (List.eq_of_mem_replicate hb)

theorem zer_plain {n : Nat} (h : n ≠ 0) (more : List UInt8) : zer (Gm.plain n ++ more) = G.L n - 1 := by
  obtain ⟨r, hr⟩ := low_top h
  unfold Gm.plain
  rw [hr, List.append_assoc, List.cons_append, zer_rep]

theorem readG_plain {n : Nat} (h : n ≠ 0) (h31 : n < 2 ^ 31) {more : List UInt8} (hm : bitsB more = true) : readG (Gm.plain n ++ more) = (0, n, 2 * G.L n - 1) := by
  have hL := G.L_pos.2 h
  have hL31 : G.L n ≤ 31 := G.L_le.2 h31
  have hlen := Gm.plain_length n h
  unfold readG
  rw [bitsB_app, bits_plain, hm, zer_plain h, List.length_append, hlen, if_neg (by decide), if_neg (by omega), if_neg (by omega)]
  have e : ((Gm.plain n ++ more).drop (G.L n - 1)).take (G.L n - 1 + 1) = Gm.low n (G.L n) := by
    unfold Gm.plain
    rw [List.append_assoc, List.drop_left' (by rw [List.length_replicate]), List.take_left' (by rw [Gm.low_length]; omega)]
  rw [e, val_low, Nat.mod_eq_of_lt (Gm.top h).2, show 2 * (G.L n - 1) + 1 = 2 * G.L n - 1 from by omega]

theorem readG_bad {l : List UInt8} (h : bitsB l = false) : readG l = (3, 0, 0) := by unfold readG; rw [if_pos h]

/-- What is read is written as it was. -/
theorem readG_back {l : List UInt8} {v u : Nat} (h : readG l = (0, v, u)) : bitsB l = true ∧ v ≠ 0 ∧ v < 2 ^ 31 ∧ u ≤ l.length ∧ l.take u = Gm.plain v := by
  unfold readG at h
  split at h
  · cases h
  · rename_i hb
    split at h
    · cases h
    · rename_i h30
      split at h
      · cases h
      · rename_i hlen
        have hb' : bitsB l = true := by simpa using hb
        obtain ⟨k, hk⟩ : ∃ k, zer l = k := ⟨_, rfl⟩
        rw [hk] at h h30 hlen
        cases h
        have hdl : (l.dropWhile (· == 48)).length = l.length - k := by
          have := (List.dropWhile_suffix (l := l) (· == 48)).length_le
          unfold zer at hk; omega
        have htw : l.takeWhile (· == 48) = List.replicate k 48 := by
          have h1 : (l.takeWhile (· == 48)).length = k := by
            have := congrArg List.length (List.takeWhile_append_dropWhile (p := (· == 48)) (l := l))
            rw [List.length_append] at this
            omega
          exact List.eq_replicate_iff.2 ⟨h1, fun b hb => by simpa using List.all_eq_true.1 (List.all_takeWhile (l := l) (p := fun x : UInt8 => x == 48)) b hb⟩
        obtain ⟨b, r, hbr⟩ : ∃ b r, l.dropWhile (· == 48) = b :: r := by
          cases hd : l.dropWhile (· == 48) with
          | nil => rw [hd] at hdl; simp at hdl; omega
          | cons b r => exact ⟨b, r, rfl⟩
        have hne : b ≠ 48 := by
          have := List.head?_dropWhile_not (· == 48) l
          rw [hbr] at this
          simpa using this
        have hl : l = List.replicate k 48 ++ b :: r := by rw [← htw, ← hbr]; exact (List.takeWhile_append_dropWhile).symm
        have hb49 : b = 49 := by
          rcases bitsB_mem hb' (show b ∈ l by rw [hl]; simp) with h | h
          · exact absurd h hne
          · exact h
        subst hb49
        have hrl : l.length = k + (r.length + 1) := by rw [hl, List.length_append, List.length_replicate, List.length_cons]
        have hdrop : l.drop k = 49 :: r := by rw [hl, List.drop_left' (by rw [List.length_replicate])]
        have hm : (l.drop k).take (k + 1) = 49 :: r.take k := by rw [hdrop, List.take_succ_cons]
        have hbr' : bitsB (r.take k) = true := bitsB_sub hb' fun x hx => by rw [hl]; simp [List.mem_of_mem_take hx]
        have hv1 := val_cons 49 (r.take k)
        have hv2 := val_lt hbr'
        have hrk : (r.take k).length = k := by rw [List.length_take]; omega
        rw [hrk] at hv1 hv2
        have h49 : (49 : UInt8).toNat - 48 = 1 := rfl
        rw [h49, Nat.one_mul] at hv1
        have hL : G.L (val (49 :: r.take k)) = k + 1 := G.L_eq (by rw [hv1]; omega) (by rw [hv1, Nat.pow_succ]; omega)
        rw [hm]
        refine ⟨hb', by rw [hv1]; have := Nat.two_pow_pos k; omega, G.L_le.1 (by rw [hL]; omega), by omega, ?_⟩
        have hlow := low_val (k + 1) (49 :: r.take k) (by rw [List.length_cons, hrk]) (by rw [← hm]; exact bitsB_take (bitsB_drop hb' _) _)
        show _ = List.replicate (G.L (val (49 :: r.take k)) - 1) 48 ++ Gm.low (val (49 :: r.take k)) (G.L (val (49 :: r.take k)))
        rw [hL, hlow, ← hm, Nat.add_sub_cancel, show 2 * k + 1 = k + (k + 1) from by omega, List.take_add]
        congr 1
        rw [hl, List.take_left' (by rw [List.length_replicate])]

def readD (l : List UInt8) : Int × Nat × Nat :=
  if (readG l).1 ≠ 0 then ((readG l).1, 0, 0) else if 31 < (readG l).2.1 then (2, 0, 0) else if l.length < (readG l).2.2 + (readG l).2.1 - 1 then (7, 0, 0)
  else (0, 2 ^ ((readG l).2.1 - 1) ||| val ((l.drop (readG l).2.2).take ((readG l).2.1 - 1)), (readG l).2.2 + (readG l).2.1 - 1)

theorem readD_delta {n : Nat} (h : n ≠ 0) (h31 : n < 2 ^ 31) {more : List UInt8} (hm : bitsB more = true) : readD (Gm.delta n ++ more) = (0, n, (Gm.delta n).length) := by
  have hL := G.L_pos.2 h
  have hL31 : G.L n ≤ 31 := G.L_le.2 h31
  have hpl := Gm.plain_length (G.L n) (by omega)
  have hll := Gm.low_length n (G.L n - 1)
  have hLL := G.L_pos.2 (show G.L n ≠ 0 by omega)
  have hg : readG (Gm.delta n ++ more) = (0, G.L n, 2 * G.L (G.L n) - 1) := by
    unfold Gm.delta
    rw [List.append_assoc]
    exact readG_plain (by omega) (by omega) (by rw [bitsB_app, bits_low, hm]; rfl)
  have hdl : (Gm.delta n).length = 2 * G.L (G.L n) - 1 + (G.L n - 1) := Gm.delta_length n h
  unfold readD
  rw [hg]
  dsimp only
  rw [if_neg (by decide), if_neg (by omega), List.length_append, hdl, if_neg (by omega)]
  have e : ((Gm.delta n ++ more).drop (2 * G.L (G.L n) - 1)).take (G.L n - 1) = Gm.low n (G.L n - 1) := by
    unfold Gm.delta
    rw [List.append_assoc, List.drop_left' hpl, List.take_left' hll]
  rw [e, val_low]
  obtain ⟨k, hk⟩ : ∃ k, G.L n = k + 1 := ⟨G.L n - 1, by omega⟩
  have ht := Gm.top h
  rw [hk, Nat.add_sub_cancel] at ht ⊢
  rw [Nat.pow_succ] at ht
  have h2 : n % 2 ^ k = n - 2 ^ k := by
    have e2 : n = (n - 2 ^ k) + 2 ^ k * 1 := by omega
    rw [e2, Nat.add_mul_mod_self_left, Nat.mod_eq_of_lt (by omega)]
    omega
  have h3 : 2 ^ k ||| n % 2 ^ k = n := by
    have h4 := Nat.two_pow_add_eq_or_of_lt (i := k) (b := n % 2 ^ k) (Nat.mod_lt _ (Nat.two_pow_pos k)) 1
    rw [Nat.mul_one] at h4
    rw [← h4, h2]
    omega
  rw [h3]
  rw [show 2 * G.L (k + 1) - 1 + (k + 1) - 1 = 2 * G.L (k + 1) - 1 + k from by omega]

theorem readD_bad {l : List UInt8} (h : bitsB l = false) : readD l = (3, 0, 0) := by unfold readD; rw [readG_bad h]; rfl

end Go.Proofs.YtkdcapjnoapjgaaDoor.Gr
