import Derived.Test.YtenkdpogdfcbgaaTxW
import Derived.Deep.AppendLies
import Derived.Test.YtenkdpogdfcbgaaVolTwP
/- diff.Diff on a right state: the places at which two volumes differ. -/
namespace Go.Proofs.Ytenkdpogdfcbgaa
open Go.RowKit

theorem df_infoInt : (Try.prog.info? 3).map (fun i => (i.zero, i.size, i.bytes)) = some (some (.int .i64 0), 1, 8) := by kernel_rfl

/-- The first k places at which two rows differ. -/
def Vo.dN (xs ys : List Bg.Id) (k : Nat) : List Nat := (List.range k).filter fun i => !Vo.idEq (xs.getD i Bg.noId) (ys.getD i Bg.noId)
theorem dN_succ (xs ys : List Bg.Id) (k : Nat) : Vo.dN xs ys (k + 1) = Vo.dN xs ys k ++ if Vo.idEq (xs.getD k Bg.noId) (ys.getD k Bg.noId) = true then [] else [k] := by
  unfold Vo.dN
  rw [List.range_succ, List.filter_append]
  congr 1
  cases h : Vo.idEq (xs.getD k Bg.noId) (ys.getD k Bg.noId) with
  | true => rw [if_pos rfl, List.filter_cons_of_neg (by rw [h]; decide), List.filter_nil]
  | false => rw [if_neg (by decide), List.filter_cons_of_pos (by rw [h]; rfl), List.filter_nil]
theorem dN_length (xs ys : List Bg.Id) (k : Nat) : (Vo.dN xs ys k).length ≤ k := by
  have := List.length_filter_le (fun i => !Vo.idEq (xs.getD i Bg.noId) (ys.getD i Bg.noId)) (List.range k)
  rwa [List.length_range] at this

/-- What diff.Diff answers. -/
def Vo.diffR (s : Vo.St) (n1 n2 : ByteArray) : List Nat × Nat :=
  if (Vo.blocksR s n1).2 ≠ 0 then ([], (Vo.blocksR s n1).2) else if (Vo.blocksR s n2).2 ≠ 0 then ([], (Vo.blocksR s n2).2)
  else if (Vo.blocksR s n1).1.length ≠ (Vo.blocksR s n2).1.length then ([], 11) else (Vo.dN (Vo.blocksR s n1).1 (Vo.blocksR s n2).1 (Vo.blocksR s n1).1.length, 0)

/-- What is told of some places and a code. -/
def NatsTo (w : World) (R : List Nat × Nat) (e : Ending) (w' : World) : Prop :=
  ∃ a n c, e = .returned (.tuple #[.slice a n c, .int .i64 R.2]) ∧ w'.ownsRow w.heap.size 3 1 (.slice a n c) n (iv R.1) ∧ R.1.length = n ∧ Below w.heap.size w w'

end Go.Proofs.Ytenkdpogdfcbgaa

/- What diff.Diff answers, plain: symmetric, empty for one volume, and never less than a way round; rows of numbers. -/
namespace Go.Proofs.Ytenkdpogdfcbgaa
open Go.RowKit

theorem int_cells {w : World} {base n c : Nat} {a : Option Addr} {xs : List Nat} (h : w.ownsRow base 3 1 (.slice a n c) n (iv xs)) : xs.length = n ∧ (0 < n → ∃ g, a = some ⟨g, 0, none⟩ ∧ ∀ j, j < (xs.map fun (j : Nat) => (j : Int)).length → w.cell? ⟨g, 0 + j, none⟩ = some (.int .i64 ((xs.map fun (j : Nat) => (j : Int)).getD j 0))) := by
  have hl : xs.length = n := by have := h.1; unfold iv at this; rw [List.length_map] at this; omega
  refine ⟨hl, fun hn => ?_⟩
  obtain ⟨g, cap, hv, -, -⟩ := h.form hn
  cases hv
  refine ⟨g, rfl, fun j hj => ?_⟩
  rw [List.length_map] at hj
  have hc := h.cellAt j (by omega)
  unfold iv at hc
  rw [Nat.zero_add, hc, List.getElem?_map, List.getElem?_eq_getElem hj, List.getD_eq_getElem?_getD, List.getElem?_map, List.getElem?_eq_getElem hj]
  rfl

theorem Equal_NT (a1 a2 : Option Addr) (n c1 m c2 base1 base2 : Nat) (xs ys : List Nat) (w : World) (h1 : w.ownsRow base1 3 1 (.slice a1 n c1) n (iv xs)) (h2 : w.ownsRow base2 3 1 (.slice a2 m c2) m (iv ys)) (hn : n ≤ 1000) (hxy : xs = ys) :
    Calls Try.prog 31 #[.slice a1 n c1, .slice a2 m c2] w fun e w' => e = .returned (.bool true) ∧ Below w.heap.size w w' := by
  subst hxy
  obtain ⟨l1, k1⟩ := int_cells h1
  obtain ⟨l2, k2⟩ := int_cells h2
  obtain rfl : n = m := by omega
  by_cases h0 : n = 0
  · subst h0
    exact (Try.slices_Equal_int_empty a1 a2 c1 0 c2 w (by omega)).mono fun e w' h => ⟨h.1, by rw [h.2]; exact Below.refl _ _⟩
  · obtain ⟨g1, rfl, q1⟩ := k1 (by omega)
    obtain ⟨g2, rfl, q2⟩ := k2 (by omega)
    have h := Try.slices_Equal_int g1 0 n c1 g2 0 n c2 (xs.map fun (j : Nat) => (j : Int)) (xs.map fun (j : Nat) => (j : Int)) w (by rw [List.length_map]; omega) (by rw [List.length_map]; omega) (by omega) (by omega) q1 q2
    exact h.mono fun e w' ⟨h3, q, h4⟩ => ⟨by rw [h3, beq_self_eq_true], by rw [h4]; exact below_drewN (Below.refl _ _) q⟩

namespace Vo
open Go.Proofs.Ytenkdpogdfcbgaa.Bg

theorem mem_dN {xs ys : List Bg.Id} {k i : Nat} : i ∈ dN xs ys k ↔ i < k ∧ xs.getD i noId ≠ ys.getD i noId := by
  unfold dN
  rw [List.mem_filter, List.mem_range]
  refine and_congr_right fun _ => ?_
  cases h : idEq (xs.getD i noId) (ys.getD i noId) with
  | true => exact ⟨fun h => (by cases h), fun h2 => absurd (idEq_iff.1 h) h2⟩
  | false => exact ⟨fun _ h2 => (by rw [idEq_iff.2 h2] at h; cases h), fun _ => rfl⟩

theorem dN_self (xs : List Bg.Id) (k : Nat) : dN xs xs k = [] := List.eq_nil_iff_forall_not_mem.2 fun _ hi => (mem_dN.1 hi).2 rfl

theorem dN_symm (xs ys : List Bg.Id) (k : Nat) : dN ys xs k = dN xs ys k := by
  unfold dN
  congr 1
  funext i
  cases h : idEq (xs.getD i noId) (ys.getD i noId) with
  | true => rw [idEq_iff.2 (idEq_iff.1 h).symm]
  | false =>
    cases h2 : idEq (ys.getD i noId) (xs.getD i noId) with
    | true => rw [idEq_iff.2 (idEq_iff.1 h2).symm] at h; cases h
    | false => rfl

theorem blocks_code (s : St) (n : ByteArray) : (blocksR s n).2 = 0 ∨ (blocksR s n).2 = 4 := by
  unfold blocksR
  split
  · exact Or.inr rfl
  · split
    · exact Or.inr rfl
    · exact Or.inl rfl

theorem diff_symm (s : St) (a b : ByteArray) : diffR s b a = diffR s a b := by
  unfold diffR
  rcases blocks_code s a with h1 | h1 <;> rcases blocks_code s b with h2 | h2 <;> rw [h1, h2]
  · have z : ¬ (0 : Nat) ≠ 0 := by decide
    rw [if_neg z, if_neg z, if_neg z, if_neg z]
    by_cases h : (blocksR s a).1.length = (blocksR s b).1.length
    · rw [if_neg (fun e => e h.symm), if_neg (fun e => e h), dN_symm, h]
    · rw [if_pos (fun e => h e.symm), if_pos h]
  · have z : ¬ (0 : Nat) ≠ 0 := by decide
    have f : (4 : Nat) ≠ 0 := by decide
    rw [if_pos f, if_neg z, if_pos f]
  · have z : ¬ (0 : Nat) ≠ 0 := by decide
    have f : (4 : Nat) ≠ 0 := by decide
    rw [if_neg z, if_pos f, if_pos f]
  · have f : (4 : Nat) ≠ 0 := by decide
    rw [if_pos f, if_pos f]

theorem diff_ok {s : St} {a b : ByteArray} (h : (diffR s a b).2 = 0) : (blocksR s a).2 = 0 ∧ (blocksR s b).2 = 0 ∧ (blocksR s a).1.length = (blocksR s b).1.length ∧ (diffR s a b).1 = dN (blocksR s a).1 (blocksR s b).1 (blocksR s a).1.length := by
  unfold diffR at h ⊢
  split at h
  · rename_i h1; exact absurd h h1
  · rename_i h1
    split at h
    · rename_i h2; exact absurd h h2
    · rename_i h2
      split at h
      · cases h
      · rename_i h3
        rw [if_neg h1, if_neg h2, if_neg h3]
        exact ⟨Decidable.not_not.1 h1, Decidable.not_not.1 h2, Decidable.not_not.1 h3, rfl⟩

theorem diff_self {s : St} {a : ByteArray} (h : (diffR s a a).2 = 0) : (diffR s a a).1 = [] := by
  rw [(diff_ok h).2.2.2, dN_self]

theorem diff_tri {s : St} {a b c : ByteArray} (h1 : (diffR s a c).2 = 0) (h2 : (diffR s a b).2 = 0) (h3 : (diffR s b c).2 = 0) {i : Nat} (hi : i ∈ (diffR s a c).1) : i ∈ (diffR s a b).1 ∨ i ∈ (diffR s b c).1 := by
  obtain ⟨-, -, l1, e1⟩ := diff_ok h1
  obtain ⟨-, -, l2, e2⟩ := diff_ok h2
  obtain ⟨-, -, l3, e3⟩ := diff_ok h3
  rw [e1, mem_dN] at hi
  rw [e2, e3, mem_dN, mem_dN]
  by_cases h : (blocksR s a).1.getD i noId = (blocksR s b).1.getD i noId
  · exact Or.inr ⟨by omega, by rw [← h]; exact hi.2⟩
  · exact Or.inl ⟨hi.1, h⟩

theorem diff_len {s : St} (hR : Right s) (a b : ByteArray) : (diffR s a b).1.length ≤ 32 := by
  by_cases h : (diffR s a b).2 = 0
  · obtain ⟨-, -, -, e⟩ := diff_ok h
    rw [e]
    exact Nat.le_trans (dN_length _ _ _) (blocks_small hR a)
  · have : (diffR s a b).1 = [] := by
      unfold diffR at h ⊢
      split
      · rfl
      · rename_i h1
        rw [if_neg h1] at h
        split
        · rfl
        · rename_i h2
          rw [if_neg h2] at h
          split
          · rfl
          · rename_i h3
            rw [if_neg h3] at h
            exact absurd rfl h
    rw [this]
    exact Nat.zero_le _

end Vo

abbrev tA : ByteArray := ⟨#[97]⟩
abbrev tB : ByteArray := ⟨#[98]⟩
def opA : Lg.Op := ⟨1, tA, ⟨#[]⟩, 2, ⟨#[]⟩⟩

theorem dm_made : Vo.made [opA] = ⟨[], [⟨tA, [Bg.noId, Bg.noId]⟩]⟩ := by kernel_rfl
theorem dm_clone : Vo.cloneR (Vo.made [opA]) tA tB = ⟨⟨[], [⟨tA, [Bg.noId, Bg.noId]⟩, ⟨tB, [Bg.noId, Bg.noId]⟩]⟩, 0⟩ := by kernel_rfl
theorem dm_diff : Vo.diffR (Vo.cloneR (Vo.made [opA]) tA tB).s tA tB = ([], 0) := by kernel_rfl

end Go.Proofs.Ytenkdpogdfcbgaa
