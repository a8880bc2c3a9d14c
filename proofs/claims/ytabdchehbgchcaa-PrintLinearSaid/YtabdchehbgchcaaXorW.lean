/- The walk of woolkeep.xor: the texts added byte by byte. -/
import Derived.Test.YtabdchehbgchcaaPrintW
import Derived.Deep.AppendLies
import Derived.Deep.RegionLaw
import Derived.Laws.IdiomStrings
import Derived.Lib.BufferRead
namespace Go.Proofs.Ytabdchehbgchcaa
open Go.RowKit

/-- Three texts added, as far as the first goes. -/
def xor3 (l m n : List UInt8) (k : Nat) : List UInt8 := (List.range k).map fun i => l.getD i 0 ^^^ m.getD i 0 ^^^ n.getD i 0

theorem xor3_succ (l m n : List UInt8) (k : Nat) : xor3 l m n (k + 1) = xor3 l m n k ++ [l.getD k 0 ^^^ m.getD k 0 ^^^ n.getD k 0] := by
  unfold xor3; rw [List.range_succ, List.map_append]; rfl

theorem xor3_length (l m n : List UInt8) (k : Nat) : (xor3 l m n k).length = k := by unfold xor3; simp

theorem Try.infoU8 : (Try.prog.info? 5).map (fun i => (i.zero, i.size, i.bytes)) = some (some (.int .u8 0), 1, 1) := by kernel_rfl

/-- Bytes as values. -/
def bv (l : List UInt8) : List Value := l.map fun b => .int .u8 (b.toNat : Int)

theorem own_base {w : World} {base : Nat} {e : TypeId} {size : Nat} {v : Value} {n : Nat} {xs : List Value} (h : w.ownsRow base e size v n xs) : ∀ k, v.ownBlock = some k → base ≤ k := by
  intro k hk
  rcases h.2 with ⟨rfl, _⟩ | ⟨g, cap, cur, rfl, hb, _⟩
  · cases hk
  · cases hk; exact hb

set_option maxRecDepth 100000 in
set_option maxHeartbeats 2000000 in
theorem xor_any (s t u : ByteArray) (w : World) (hs : s.size ≤ 140737488351232) (ht : t.size = s.size) (hu : u.size = s.size) :
    Calls Try.prog 30 #[.string s, .string t, .string u] w fun e w' => e = .returned (.string ⟨(xor3 s.data.toList t.data.toList u.data.toList s.size).toArray⟩) ∧ Below w.heap.size w w' := by
  obtain ⟨i0, hi, hz0, hz1, hz2⟩ := info_parts Try.infoU8
  have HT := Lib.hid ht; have HU := Lib.hid hu; clear ht hu
  go_enter Try.func30, Try.ntmps30
  go_wp2_with fail
  go_loopw [7, 11] (fun v i wr => ∃ k : Nat, k ≤ s.size ∧ i = .int .i64 k ∧ wr.ownsRow w.heap.size 5 1 v k (bv (xor3 s.data.toList t.data.toList u.data.toList k)) ∧ Below w.heap.size w wr)
    (fun _ i _ => s.size - (intOf i).toNat)
  case atStart => exact ⟨0, Nat.zero_le _, rfl, World.ownsRow_nil _ _ _ _, Below.refl _ _⟩
  case round =>
    rename_i v7
    obtain ⟨k, hk, rfl, hown, hbel⟩ := hrel
    by_cases hlt : k < s.size
    · have x1 := idx_str Try.underlying9 (s := s) (x := (k : Int)) (k := k) rfl hlt
      have x2 := idx_str Try.underlying9 (s := t) (x := (k : Int)) (k := k) rfl (by rw [HT.out]; exact hlt)
      have x3 := idx_str Try.underlying9 (s := u) (x := (k : Int)) (k := k) rfl (by rw [HU.out]; exact hlt)
      have hN := xor3_succ s.data.toList t.data.toList u.data.toList k
      obtain ⟨A, hA⟩ : ∃ A : UInt8, A = s.data.toList.getD k 0 := ⟨_, rfl⟩
      obtain ⟨B, hB⟩ : ∃ B : UInt8, B = t.data.toList.getD k 0 := ⟨_, rfl⟩
      obtain ⟨C, hC⟩ : ∃ C : UInt8, C = u.data.toList.getD k 0 := ⟨_, rfl⟩
      have a1 := A.toNat_lt; have b1 := B.toNat_lt; have c1 := C.toNat_lt
      unfold bt at x1 x2 x3
      rw [← hA] at x1; rw [← hB] at x2; rw [← hC] at x3
      rw [← hA, ← hB, ← hC] at hN
      clear hA hB hC
      have HN := Lib.hid hN; clear hN
      have bx1 : bits .xor .u8 (A.toNat : Int) (B.toNat : Int) = ((A ^^^ B).toNat : Int) := by rw [u8_xor_nat _ _ a1 b1, UInt8.toNat_xor]
      have ab1 := (A ^^^ B).toNat_lt
      have bx2 : bits .xor .u8 ((A ^^^ B).toNat : Int) (C.toNat : Int) = ((A ^^^ B ^^^ C).toNat : Int) := by rw [u8_xor_nat _ _ ab1 c1, ← UInt8.toNat_xor]
      generalize A ^^^ B ^^^ C = R at *
      generalize (A ^^^ B).toNat = AB at *
      generalize A.toNat = A' at *
      generalize B.toNat = B' at *
      generalize C.toNat = C' at *
      have hown2 : ((wr.alloc (.cells #[.int .u8 (R.toNat : Int)] 5)).drew).ownsRow w.heap.size 5 1 u7 k (bv (xor3 s.data.toList t.data.toList u.data.toList k)) := (hown.alloc _).drew
      have hcell2 : ∀ j x, [Value.int .u8 (R.toNat : Int)][j]? = some x → ((wr.alloc (.cells #[.int .u8 (R.toNat : Int)] 5)).drew).cell? ((⟨wr.heap.size, 0, none⟩ : Addr).add j) = some x := fun j x h => cell_one_new wr (.int .u8 (R.toNat : Int)) 5 j x h
      have hone : ∀ x ∈ [Value.int .u8 (R.toNat : Int)], x.oneCell' = true := by intro x hx; simp at hx; subst hx; rfl
      have hb1 : k + 1 ≤ maxLen := by unfold maxLen; omega
      have hb2 : (k + 1) * 1 ≤ 140737488355328 := by omega
      have hb3 : w.heap.size ≤ ((wr.alloc (.cells #[.int .u8 (R.toNat : Int)] 5)).drew).heap.size := by have := hbel.size; show _ ≤ (wr.alloc _).heap.size; rw [World.size_alloc]; omega
      have H2 := Lib.hid hown2; have H3 := Lib.hid hcell2; have H4 := Lib.hid hone
      clear hown2 hcell2 hone
      go_wp2_with fail
      go_region_law (refine step_append_lies _ (by rfl) (.tmp 14) (.tmp 26) 42 (by rfl) w.heap.size 5 i0 (.int .u8 0) 1 1 Try.underlying42 hi hz0 hz1 hz2 (by rfl) (by decide) u7 k _ (by rfl) H2.out ⟨wr.heap.size, 0, none⟩ 1 1 [.int .u8 (R.toNat : Int)] (by rfl) (by rfl) H3.out H4.out (by decide) hb1 hb2 hb3 _ (by rfl) (fun g cap wq q1 q2 q3 q4 => ?_))
      all_goals
        have q5 : wq.ownsRow w.heap.size 5 1 (.slice (some ⟨g, 0, none⟩) (k + 1) cap) (k + 1) (bv (xor3 s.data.toList t.data.toList u.data.toList (k + 1))) := by
          rw [HN.out]; unfold bv at q1 ⊢; rw [List.map_append]; exact q1
        have hbw : w.heap.size ≤ wr.heap.size := hbel.size
        have q6 : Below w.heap.size w wq := ((hbel.alloc hbw _).drew).grown q2 hb3 (own_base hown)
        clear q1 q2 q3 q4 H2 H3 H4 hb3 hown hbel a1 b1 c1 bx1 bx2 x1 x2 x3 ab1
        go_wp2_with fail
        go_round
        case rel => exact ⟨k + 1, hlt, by go_num, q5, q6⟩
        case measure => simp [intOf]; omega
    · obtain rfl : k = s.size := by omega
      have hlen := hown.1
      rcases hown.2 with ⟨rfl, hz⟩ | ⟨g, cap, cur, rfl, _⟩
      · have hcv := Lib.run_convert_nil_bytes (P := Try.prog) wr 42 9 5 0 Try.underlying42 Try.underlying5 Try.underlying9
        have hE : xor3 s.data.toList t.data.toList u.data.toList s.size = [] := by rw [hz]; rfl
        have HE := Lib.hid hE; clear hE hz hlen hown
        go_wp2_with fail
        go_ret
        exact ⟨by rw [HE.out]; rfl, hbel⟩
      · have hll := xor3_length s.data.toList t.data.toList u.data.toList s.size
        have hcells : ∀ (j : Nat) (hj : j < (xor3 s.data.toList t.data.toList u.data.toList s.size).length), wr.cell? ((⟨g, 0, none⟩ : Addr).add j) = some (.int .u8 ((xor3 s.data.toList t.data.toList u.data.toList s.size)[j].toNat : Int)) := fun j hj => hown.cells (g := g) rfl j _ (by simp [bv, hj])
        obtain ⟨L, hL⟩ : ∃ L, L = xor3 s.data.toList t.data.toList u.data.toList s.size := ⟨_, rfl⟩
        rw [← hL] at hll
        have hcells' : ∀ (j : Nat) (hj : j < L.length), wr.cell? ((⟨g, 0, none⟩ : Addr).add j) = some (.int .u8 (L[j].toNat : Int)) := by subst hL; exact hcells
        have HE := Lib.hid hL; clear hL hcells
        have hcv := run_convert_bytes_back (P := Try.prog) wr 42 9 5 ⟨g, 0, none⟩ cap L Try.underlying42 Try.underlying5 Try.underlying9 hcells'
        rw [hll] at hcv
        clear hcells' hown hlen
        have HL := Lib.hid hll; clear hll
        go_wp2_with fail
        go_ret
        exact ⟨by rw [← HE.out]; rfl, hbel⟩

end Go.Proofs.Ytabdchehbgchcaa
