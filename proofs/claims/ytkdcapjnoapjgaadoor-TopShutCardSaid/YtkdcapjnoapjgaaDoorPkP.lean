/- Tokens as bits, plain facts. No program in sight. -/
import Derived.Test.YtkdcapjnoapjgaaDoorLzP
import Derived.Test.YtkdcapjnoapjgaaDoorGammaP
namespace Go.Proofs.YtkdcapjnoapjgaaDoor.Pk
open Go.Proofs.YtkdcapjnoapjgaaDoor

/-- A token's bits. -/
def tb (t : Lz.Tk) : List UInt8 := if t.n = 0 then 48 :: Gm.low t.b.toNat 8 else 49 :: (Gm.plain t.d.toNat ++ Gm.plain t.n.toNat)

def bits : List Lz.Tk → List UInt8
  | [] => []
  | t :: l => tb t ++ bits l

theorem bits_app : ∀ l m : List Lz.Tk, bits (l ++ m) = bits l ++ bits m
  | [], m => rfl
  | t :: l, m => by rw [List.cons_append, bits, bits, bits_app l m, List.append_assoc]

theorem bits_take {l : List Lz.Tk} {j : Nat} (hj : j < l.length) : bits (l.take (j + 1)) = bits (l.take j) ++ tb l[j] := by
  rw [List.take_succ_eq_append_getElem hj, bits_app]
  show _ = _
  rw [bits, bits, List.append_nil]

/-- How many bits a token has. -/
def sz (t : Lz.Tk) : Nat := if t.n = 0 then 9 else 1 + (2 * G.L t.d.toNat - 1) + (2 * G.L t.n.toNat - 1)

theorem tb_length {t : Lz.Tk} (h : Lz.okT t = true) : (tb t).length = sz t := by
  unfold tb sz
  rcases Lz.okT_parts h with ⟨h0, _⟩ | ⟨h1, h2, h3, h4, _⟩
  · rw [if_pos h0, if_pos h0, List.length_cons, Gm.low_length]
  · rw [if_neg (by omega), if_neg (by omega), List.length_cons, List.length_append, Gm.plain_length _ (by omega), Gm.plain_length _ (by omega)]
    omega

theorem sz_le {t : Lz.Tk} (h : Lz.okT t = true) : sz t ≤ 32 := by
  unfold sz
  rcases Lz.okT_parts h with ⟨h0, _⟩ | ⟨h1, h2, h3, h4, _⟩
  · rw [if_pos h0]; omega
  · rw [if_neg (by omega)]
    have e1 : G.L t.d.toNat ≤ 9 := G.L_le.2 (by omega)
    have e2 : G.L t.n.toNat ≤ 7 := G.L_le.2 (by omega)
    omega

def sizes : List Lz.Tk → Nat
  | [] => 0
  | t :: l => sz t + sizes l

theorem sizes_app : ∀ l m : List Lz.Tk, sizes (l ++ m) = sizes l + sizes m
  | [], m => by simp [sizes]
  | t :: l, m => by rw [List.cons_append, sizes, sizes, sizes_app l m]; omega

theorem sizes_take {l : List Lz.Tk} {j : Nat} (hj : j < l.length) : sizes (l.take (j + 1)) = sizes (l.take j) + sz l[j] := by
  rw [List.take_succ_eq_append_getElem hj, sizes_app]; rfl

theorem bits_length : ∀ l : List Lz.Tk, (∀ t ∈ l, Lz.okT t = true) → (bits l).length = sizes l
  | [], _ => rfl
  | t :: l, h => by
    rw [bits, List.length_append, tb_length (h t (List.mem_cons_self ..)), bits_length l (fun t' ht' => h t' (List.mem_cons_of_mem _ ht')), sizes]

theorem expE_ok : ∀ (l : List Lz.Tk) (out : List UInt8), Lz.expE out l = 0 → ∀ t ∈ l, Lz.okT t = true
  | [], _, _, t, ht => by cases ht
  | t0 :: l, out, h, t, ht => by
    by_cases hc : Lz.codeT out t0 = 0
    · rw [Lz.expE_good hc] at h
      rcases List.mem_cons.1 ht with rfl | ht
      · exact (Lz.codeT_parts hc).1
      · exact expE_ok l _ h t ht
    · rw [Lz.expE_bad hc] at h; exact absurd h hc

theorem len_le : ∀ l : List Lz.Tk, (∀ t ∈ l, Lz.okT t = true) → l.length ≤ Lz.total l
  | [], _ => Nat.le_refl _
  | t :: l, h => by
    have h1 := len_le l (fun t' ht' => h t' (List.mem_cons_of_mem _ ht'))
    have h2 : 1 ≤ Lz.lenT t := by
      have := Lz.okT_parts (h t (List.mem_cons_self ..))
      unfold Lz.lenT; split <;> omega
    rw [List.length_cons, Lz.total]; omega

theorem sizes_le : ∀ l : List Lz.Tk, (∀ t ∈ l, Lz.okT t = true) → sizes l ≤ 32 * l.length
  | [], _ => Nat.le_refl _
  | t :: l, h => by
    have h1 := sizes_le l (fun t' ht' => h t' (List.mem_cons_of_mem _ ht'))
    have h2 := sz_le (h t (List.mem_cons_self ..))
    rw [List.length_cons, sizes]; omega

/-- Few tokens, few bits. -/
theorem few {l : List Lz.Tk} (h : Lz.expE [] l = 0) : l.length ≤ 600 ∧ sizes l ≤ 19200 := by
  have hok := expE_ok l [] h
  have h1 := len_le l hok
  have h2 := Lz.expS_length l [] h
  have h3 := Lz.expS_le l [] (by simp)
  have h4 := sizes_le l hok
  simp at h2
  omega

end Go.Proofs.YtkdcapjnoapjgaaDoor.Pk
