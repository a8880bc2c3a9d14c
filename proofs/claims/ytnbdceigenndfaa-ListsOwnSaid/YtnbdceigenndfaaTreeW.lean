/- The walks of package tree: four, said, leaves, up, Levels, Check, Root. -/
import Derived.Test.YtnbdceigenndfaaTreeP
import Derived.Test.YtnbdceigenndfaaPlainW
import Derived.Test.YtnbdceigenndfaaUse
import Derived.Lib.BufferRead
import Derived.Deep.RegionLaw
namespace Go.Proofs.Ytnbdceigenndfaa
open Go.RowKit

theorem addr_addT (b j : Nat) : (⟨b, 0, none⟩ : Addr).add j = ⟨b, j, none⟩ := by unfold Addr.add; split <;> simp_all

set_option maxRecDepth 100000 in
set_option maxHeartbeats 1000000 in
theorem four_any (p : Nat) (w : World) (hpb : p ≤ 2147483647) :
    Calls Try.prog 49 #[.int .i64 p] w fun e w' => e = .returned (.string ⟨(Tr.four p).toArray⟩) ∧ Below w.heap.size w w' := by
  unfold Tr.four
  obtain ⟨B0, h0⟩ : ∃ x, x = UInt8.ofNat (p / 16777216) := ⟨_, rfl⟩
  obtain ⟨B1, h1⟩ : ∃ x, x = UInt8.ofNat (p / 65536) := ⟨_, rfl⟩
  obtain ⟨B2, h2⟩ : ∃ x, x = UInt8.ofNat (p / 256) := ⟨_, rfl⟩
  obtain ⟨B3, h3⟩ : ∃ x, x = UInt8.ofNat p := ⟨_, rfl⟩
  have x0 : (p : Int) / 16777216 = (B0.toNat : Int) := by rw [h0, UInt8.toNat_ofNat']; omega
  have x1 : (p : Int) / 65536 % 256 = (B1.toNat : Int) := by rw [h1, UInt8.toNat_ofNat']; omega
  have x2 : (p : Int) / 256 % 256 = (B2.toNat : Int) := by rw [h2, UInt8.toNat_ofNat']; omega
  have x3 : (p : Int) % 256 = (B3.toNat : Int) := by rw [h3, UInt8.toNat_ofNat']; omega
  rw [← h0, ← h1, ← h2, ← h3]
  clear h0 h1 h2 h3
  obtain ⟨W, hW⟩ : ∃ W, W = w.alloc (.cells #[.int .u8 (B0.toNat : Int), .int .u8 (B1.toNat : Int), .int .u8 (B2.toNat : Int), .int .u8 (B3.toNat : Int)] 5) := ⟨_, rfl⟩
  have hB : Below w.heap.size w W := by rw [hW]; exact (Below.refl _ w).alloc (Nat.le_refl _) _
  have hcells : ∀ (j : Nat) (hj : j < [B0, B1, B2, B3].length), W.cell? ((⟨w.heap.size, 0, none⟩ : Addr).add j) = some (.int .u8 (([B0, B1, B2, B3][j]).toNat : Int)) := by
    intro j hj
    rw [addr_addT, hW]
    rcases j with _ | _ | _ | _ | j
    · exact cell_new w (k := 0) rfl
    · exact cell_new w (k := 1) rfl
    · exact cell_new w (k := 2) rfl
    · exact cell_new w (k := 3) rfl
    · exact absurd hj (by simp)
  have hcv := run_convert_bytes_back (P := Try.prog) W 91 9 5 ⟨w.heap.size, 0, none⟩ 4 [B0, B1, B2, B3] Try.underlying91 Try.underlying5 Try.underlying9 hcells
  rw [show [B0, B1, B2, B3].length = 4 from rfl, hW] at hcv
  have HB := Lib.hid hB
  clear hcells hB
  go_enter Try.func49, Try.ntmps49
  go_wp2_with fail
  go_ret
  exact ⟨rfl, by rw [← hW]; exact HB.out⟩

theorem pr_le (l : List UInt8) : Tr.pr l ≤ 2147483647 := by
  have := G.print_lt l (m := 1073741907) (by omega)
  have h31 : G.L 1073741907 = 31 := G.L_eq (k := 30) (by decide) (by decide)
  have := G.L_le.1 (show G.L (G.print 1073741907 l) ≤ 31 by omega)
  unfold Tr.pr
  omega

set_option maxRecDepth 100000 in
set_option maxHeartbeats 1000000 in
theorem said_any (p q : Nat) (w : World) (hp : p ≤ 2147483647) (hq : q ≤ 2147483647) :
    Calls Try.prog 48 #[.int .i64 p, .int .i64 q] w fun e w' => e = .returned (.string ⟨(Tr.said p q).toArray⟩) ∧ Below w.heap.size w w' := by
  have P1 : ∀ w, Calls Try.prog 49 #[.int .i64 p] w fun e w' => e = .returned (.string ⟨(Tr.four p).toArray⟩) ∧ Below w.heap.size w w' := fun w => four_any p w hp
  have P2 : ∀ w, Calls Try.prog 49 #[.int .i64 q] w fun e w' => e = .returned (.string ⟨(Tr.four q).toArray⟩) ∧ Below w.heap.size w w' := fun w => four_any q w hq
  obtain ⟨X, hX⟩ : ∃ X : ByteArray, X = ⟨(Tr.four p).toArray⟩ := ⟨_, rfl⟩
  obtain ⟨Y, hY⟩ : ∃ Y : ByteArray, Y = ⟨(Tr.four q).toArray⟩ := ⟨_, rfl⟩
  have hXs : X.size = 4 := by rw [hX]; rfl
  have hYs : Y.size = 4 := by rw [hY]; rfl
  have hres : (⟨#[110]⟩ : ByteArray) ++ X ++ Y = ⟨(Tr.said p q).toArray⟩ := by
    apply ByteArray.ext
    apply Array.toList_inj.mp
    rw [hX, hY]
    simp [Tr.said]
  rw [← hX] at P1; rw [← hY] at P2; rw [← hres]
  clear hX hY hres
  go_enter Try.func48, Try.ntmps48
  go_wp2_with fail
  with_reducible refine (P1 _).mono ?_
  rintro e w1 ⟨rfl, hb1⟩
  go_wp2_with fail
  with_reducible refine (P2 _).mono ?_
  rintro e w2 ⟨rfl, hb2⟩
  have HB := Lib.hid (hb1.trans (hb2.mono hb1.size))
  clear hb1 hb2
  go_wp2_with fail
  go_ret
  exact ⟨rfl, HB.out⟩

/-- Texts in a slice. -/
def TextsAt (w : World) (a : Option Addr) (n : Nat) (ss : List ByteArray) : Prop := n ≠ 0 → ∃ x, a = some x ∧ ∀ i, i < n → w.cell? (x.add i) = some (.string (ss.getD i ByteArray.empty))

theorem TextsAt.keep {w w' : World} {a : Option Addr} {n : Nat} {ss : List ByteArray} (h : TextsAt w a n ss) (hb : Below w.heap.size w w') : TextsAt w' a n ss := fun h0 => by
  obtain ⟨x, hx, hc⟩ := h h0
  exact ⟨x, hx, fun i hi => by rw [hb.cell (World.block_lt_of_cell? w (x.add i) (hc i hi))]; exact hc i hi⟩

/-- The leaves of the first k texts. -/
def lvs (ss : List ByteArray) (k : Nat) : List Nat := (List.range k).map fun i => Tr.leaf (ss.getD i ByteArray.empty).data.toList

theorem lvs_succ (ss : List ByteArray) (k : Nat) : lvs ss (k + 1) = lvs ss k ++ [Tr.leaf (ss.getD k ByteArray.empty).data.toList] := by unfold lvs; rw [List.range_succ, List.map_append]; rfl
theorem lvs_length (ss : List ByteArray) (k : Nat) : (lvs ss k).length = k := by unfold lvs; simp

set_option maxRecDepth 100000 in
set_option maxHeartbeats 2000000 in
theorem leaves_any (a : Option Addr) (n cap : Nat) (ss : List ByteArray) (w : World) (hn : n ≤ 32) (hT : TextsAt w a n ss) (hsz : ∀ i, i < n → (ss.getD i ByteArray.empty).size ≤ 64) :
    Calls Try.prog 44 #[.slice a n cap] w fun e w' => ∃ v, e = .returned v ∧ w'.ownsRow w.heap.size 3 1 v n (iv (lvs ss n)) ∧ Below w.heap.size w w' := by
  obtain ⟨i0, hi, hz0, hz1, hz2⟩ := info_parts Try.infoInt
  have HT := Lib.hid hT; have HS := Lib.hid hsz
  clear hT hsz
  go_enter Try.func44, Try.ntmps44
  go_wp2_with fail
  go_loopw [3, 8] (fun v i wr => ∃ k : Nat, k ≤ n ∧ i = .int .i64 k ∧ wr.ownsRow w.heap.size 3 1 v k (iv (lvs ss k)) ∧ Hid (Below w.heap.size w wr)) (fun _ i _ => n - (intOf i).toNat)
  case atStart => exact ⟨0, by omega, rfl, World.ownsRow_nil _ _ _ _, Lib.hid (Below.refl _ _)⟩
  case round =>
    rename_i v3
    obtain ⟨k, hk, rfl, hown, hB⟩ := hrel
    by_cases hlt : k < n
    · obtain ⟨x, rfl, hc⟩ := HT.out (by omega)
      have hck : wr.cell? (x.add k) = some (.string (ss.getD k ByteArray.empty)) := by
        rw [hB.out.cell (World.block_lt_of_cell? w (x.add k) (hc k hlt))]; exact hc k hlt
      have hs64 := HS.out k hlt
      have hlv := lvs_succ ss k
      generalize ss.getD k ByteArray.empty = s at *
      obtain ⟨S, hS⟩ : ∃ S, S = (⟨#[108]⟩ : ByteArray) ++ s := ⟨_, rfl⟩
      have hSl : S.data.toList = 108 :: s.data.toList := by rw [hS]; simp
      have hSs : S.size = 1 + s.size := by rw [hS, ByteArray.size_append]; rfl
      obtain ⟨p, hp⟩ : ∃ p, p = Tr.leaf s.data.toList := ⟨_, rfl⟩
      have hpl : p = G.print 1073741907 S.data.toList := by rw [hp, hSl]; rfl
      have PL : Ans1 31 #[.int .i64 1073741907, .string S] (.int .i64 p) := fun w => by rw [hpl]; exact Plain_any 1073741907 S w (by omega) (by omega) (by rw [hSs]; unfold maxLen; omega)
      rw [← hp] at hlv
      rw [hS] at PL
      have HLV := Lib.hid hlv
      clear hlv hp hpl hS hSl hSs
      have hown2 : (wr.alloc (.cells #[.int .i64 (p : Int)] 3)).ownsRow w.heap.size 3 1 u3 k (iv (lvs ss k)) := hown.alloc _
      have hcell2 : ∀ j x, [Value.int .i64 (p : Int)][j]? = some x → (wr.alloc (.cells #[.int .i64 (p : Int)] 3)).cell? ((⟨wr.heap.size, 0, none⟩ : Addr).add j) = some x := fun j x h => cell_one_new wr (.int .i64 (p : Int)) 3 j x h
      have hone : ∀ x ∈ [Value.int .i64 (p : Int)], x.oneCell' = true := by intro x hx; simp at hx; subst hx; rfl
      have hbsz := hB.out.size
      have hb1 : k + 1 ≤ maxLen := by unfold maxLen; omega
      have hb2 : (k + 1) * 8 ≤ 140737488355328 := by omega
      have hb3 : w.heap.size ≤ (wr.alloc (.cells #[.int .i64 (p : Int)] 3)).heap.size := by rw [World.size_alloc]; omega
      have hbase := row_base hown
      have H2 := Lib.hid hown2; have H3 := Lib.hid hcell2; have H4 := Lib.hid hone
      clear hown2 hcell2 hone hc
      go_wp2_with (first
        | (go_at_call 31; with_reducible refine PL.use ?_; rintro e w' ⟨rfl, rfl⟩)
        | (at_builtin; refine wpList_append_lies _ rfl _ _ _ rfl w.heap.size 3 i0 (.int .i64 0) 1 8 Try.underlying22 hi hz0 hz1 hz2 rfl (by decide) u3 k _ rfl H2.out ⟨wr.heap.size, 0, none⟩ 1 1 [.int .i64 (p : Int)] rfl rfl H3.out H4.out (by decide) hb1 hb2 hb3 _ rfl ?_))
      intro g cap' wq q1 q2 q3 q4
      have HB' : Hid (Below w.heap.size w wq) := Lib.hid ((hB.out.alloc hbsz _).grown q2 hb3 hbase)
      have HR : wq.ownsRow w.heap.size 3 1 (.slice (some ⟨g, 0, none⟩) (k + 1) cap') (k + 1) (iv (lvs ss (k + 1))) := by rw [HLV.out, iv_snoc]; exact q1
      clear q1 q2 q3 q4 H2 H3 H4 hb3 hbase hown hB
      go_wp2_with fail
      go_round
      case rel => exact ⟨k + 1, hlt, by go_num, HR, HB'⟩
      case measure => simp [intOf]; omega
    · obtain rfl : k = n := by omega
      go_wp2_with fail
      go_ret
      exact ⟨_, rfl, hown, hB.out⟩

/-- What the level above has when k pairs, or all, are done. -/
theorem up_step {l : List Nat} {k : Nat} (h : 2 * k + 1 < l.length) : (Tr.up l).take (k + 1) = (Tr.up l).take k ++ [Tr.node (l.getD (2 * k) 0) (l.getD (2 * k + 1) 0)] := by
  induction k generalizing l with
  | zero =>
    match l, h with
    | a :: b :: r, _ => rfl
    | [_], h => simp at h
    | [], h => simp at h
  | succ k ih =>
    match l, h with
    | a :: b :: r, h =>
      have := ih (l := r) (by simp at h; omega)
      rw [Tr.up, List.take_succ_cons, List.take_succ_cons, this]
      rfl
    | [_], h => simp at h
    | [], h => simp at h

theorem up_end {l : List Nat} {k : Nat} (h : 2 * k + 1 = l.length) : Tr.up l = (Tr.up l).take k ++ [l.getD (2 * k) 0] := by
  induction k generalizing l with
  | zero =>
    match l, h with
    | [a], _ => rfl
    | [], h => simp at h
    | _ :: _ :: _, h => simp at h
  | succ k ih =>
    match l, h with
    | a :: b :: r, h =>
      have := ih (l := r) (by simp at h; omega)
      rw [Tr.up, List.take_succ_cons, List.cons_append]
      congr 1
    | [_], h => simp at h
    | [], h => simp at h

set_option maxRecDepth 100000 in
set_option maxHeartbeats 2000000 in
theorem up_any (g cap n : Nat) (l : List Nat) (w : World) (hn : l.length = n) (hn32 : n ≤ 32) (hR : RowIn w g l) (hl : ∀ x, x ∈ l → x ≤ 2147483647) :
    Calls Try.prog 45 #[.slice (some ⟨g, 0, none⟩) n cap] w fun e w' => ∃ v, e = .returned v ∧ w'.ownsRow w.heap.size 3 1 v (Tr.up l).length (iv (Tr.up l)) ∧ Below w.heap.size w w' := by
  obtain ⟨i0, hi, hz0, hz1, hz2⟩ := info_parts Try.infoInt
  have HR := Lib.hid hR; have HN := Lib.hid hn; have HLL := Lib.hid hl
  have HU : Hid ((Tr.up l).length = (n + 1) / 2) := Lib.hid (by rw [Tr.up_length, hn])
  clear hR hn hl
  go_enter Try.func45, Try.ntmps45
  go_wp2_with fail
  go_loopw [3, 4] (fun v i wr => ∃ (k : Nat) (l' : List Nat), i = .int .i64 (2 * (k : Int)) ∧ Hid (2 * k ≤ n ∧ l' = (Tr.up l).take k ∨ 2 * k = n + 1 ∧ l' = Tr.up l) ∧ l'.length ≤ 32 ∧ wr.ownsRow w.heap.size 3 1 v l'.length (iv l') ∧ Hid (Below w.heap.size w wr)) (fun _ i _ => n + 2 - (intOf i).toNat)
  case atStart => exact ⟨0, [], rfl, Lib.hid (Or.inl ⟨by omega, rfl⟩), by decide, World.ownsRow_nil _ _ _ _, Lib.hid (Below.refl _ _)⟩
  case round =>
    rename_i v3
    obtain ⟨k, l', rfl, hcase, hl32, hown, hB⟩ := hrel
    by_cases hlt : 2 * k < n
    · have hlk : l' = (Tr.up l).take k := by rcases hcase.out with h | h; exact h.2; omega
      have hc : ∀ j, j < n → wr.cell? ⟨g, j, none⟩ = some (.int .i64 (l.getD j 0 : Int)) := by
        intro j hj
        have hjl : j < l.length := by rw [HN.out]; exact hj
        rw [hB.out.cell (p := ⟨g, j, none⟩) HR.out.1, HR.out.2 j hjl]
        simp [List.getD, hjl]
      have hle : ∀ j, j < n → l.getD j 0 ≤ 2147483647 := by
        intro j hj
        have hjl : j < l.length := by rw [HN.out]; exact hj
        have : l.getD j 0 = l[j] := by simp [List.getD, hjl]
        rw [this]
        exact HLL.out _ (List.getElem_mem hjl)
      have hbsz := hB.out.size
      have hb1 : l'.length + 1 ≤ maxLen := by unfold maxLen; omega
      have hb2 : (l'.length + 1) * 8 ≤ 140737488355328 := by omega
      have hbase := row_base hown
      by_cases hodd : 2 * k + 1 = n
      · have c1 := hc (2 * k) hlt
        have hend := up_end (l := l) (k := k) (by rw [HN.out]; exact hodd)
        rw [← hlk] at hend
        generalize l.getD (2 * k) 0 = p at *
        have HE := Lib.hid hend
        have hown2 : (wr.alloc (.cells #[.int .i64 (p : Int)] 3)).ownsRow w.heap.size 3 1 u3 l'.length (iv l') := hown.alloc _
        have hcell2 : ∀ j x, [Value.int .i64 (p : Int)][j]? = some x → (wr.alloc (.cells #[.int .i64 (p : Int)] 3)).cell? ((⟨wr.heap.size, 0, none⟩ : Addr).add j) = some x := fun j x h => cell_one_new wr (.int .i64 (p : Int)) 3 j x h
        have hone : ∀ x ∈ [Value.int .i64 (p : Int)], x.oneCell' = true := by intro x hx; simp at hx; subst hx; rfl
        have hb3 : w.heap.size ≤ (wr.alloc (.cells #[.int .i64 (p : Int)] 3)).heap.size := by rw [World.size_alloc]; omega
        have H2 := Lib.hid hown2; have H3 := Lib.hid hcell2; have H4 := Lib.hid hone
        have e1 : (2 * (k : Int) + 1 == (n : Int)) = true := by rw [beq_iff_eq]; omega
        have i1 : (0 : Int) ≤ 2 * (k : Int) := by omega
        have i2 : 2 * (k : Int) < (n : Int) := by omega
        have t1 : (2 * (k : Int)).toNat = 2 * k := by omega
        clear hown2 hcell2 hone hend hc hle hlk
        go_wp2_with (at_builtin; refine wpList_append_lies _ rfl _ _ _ rfl w.heap.size 3 i0 (.int .i64 0) 1 8 Try.underlying22 hi hz0 hz1 hz2 rfl (by decide) u3 l'.length _ rfl H2.out ⟨wr.heap.size, 0, none⟩ 1 1 [.int .i64 (p : Int)] rfl rfl H3.out H4.out (by decide) hb1 hb2 hb3 _ rfl ?_)
        intro g' cap' wq q1 q2 q3 q4
        have HB' : Hid (Below w.heap.size w wq) := Lib.hid ((hB.out.alloc hbsz _).grown q2 hb3 hbase)
        have HL : Hid ((Tr.up l).length = l'.length + 1) := Lib.hid (by rw [HE.out, List.length_append, List.length_singleton])
        have HRR : wq.ownsRow w.heap.size 3 1 (.slice (some ⟨g', 0, none⟩) (l'.length + 1) cap') (Tr.up l).length (iv (Tr.up l)) := by rw [HL.out, HE.out, iv_snoc]; exact q1
        clear q1 q2 q3 q4 H2 H3 H4 hb3 hbase hown hB
        go_wp2_with fail
        go_round
        case rel => exact ⟨k + 1, Tr.up l, by go_num, Lib.hid (Or.inr ⟨by omega, rfl⟩), by have := HU.out; omega, HRR, HB'⟩
        case measure => simp [intOf]; omega
      · have hk1 : 2 * k + 1 < n := by omega
        have c1 := hc (2 * k) hlt
        have c2 := hc (2 * k + 1) hk1
        have l1 := hle (2 * k) hlt
        have l2 := hle (2 * k + 1) hk1
        have hstep := up_step (l := l) (k := k) (by rw [HN.out]; exact hk1)
        rw [← hlk] at hstep
        generalize l.getD (2 * k) 0 = p at *
        generalize l.getD (2 * k + 1) 0 = q at *
        obtain ⟨X, hX⟩ : ∃ X : ByteArray, X = ⟨(Tr.said p q).toArray⟩ := ⟨_, rfl⟩
        have S1 : ∀ w, Calls Try.prog 48 #[.int .i64 p, .int .i64 q] w fun e w' => e = .returned (.string X) ∧ Below w.heap.size w w' := fun w => by rw [hX]; exact said_any p q w l1 l2
        obtain ⟨z, hz⟩ : ∃ z, z = Tr.node p q := ⟨_, rfl⟩
        have hXs : X.size = 9 := by rw [hX]; rfl
        have PL : Ans1 31 #[.int .i64 1073741907, .string X] (.int .i64 z) := fun w => by
          have := Plain_any 1073741907 X w (by omega) (by omega) (by rw [hXs]; unfold maxLen; omega)
          rw [hz]
          rw [hX] at this ⊢
          exact this
        rw [← hz] at hstep
        have HE := Lib.hid hstep
        have e1 : (2 * (k : Int) + 1 == (n : Int)) = false := by rw [beq_eq_false_iff_ne]; omega
        have i1 : (0 : Int) ≤ 2 * (k : Int) := by omega
        have i2 : 2 * (k : Int) < (n : Int) := by omega
        have i3 : (0 : Int) ≤ 2 * (k : Int) + 1 := by omega
        have i4 : 2 * (k : Int) + 1 < (n : Int) := by omega
        have t1 : (2 * (k : Int)).toNat = 2 * k := by omega
        have t2 : (2 * (k : Int) + 1).toNat = 2 * k + 1 := by omega
        have p1 : IntKind.i64.wrap (2 * (k : Int) + 1) = 2 * (k : Int) + 1 := IntWalk.i64_in _ (by omega)
        have HO := Lib.hid hown
        clear hstep hc hle hlk hz hX hXs hown l1 l2
        go_wp2_with fail
        go_region_law (first
          | (refine step_append_lies _ (by rfl) (.tmp 23) (.tmp 35) 22 (by rfl) w.heap.size 3 i0 (.int .i64 0) 1 8 Try.underlying22 hi hz0 hz1 hz2 (by rfl) (by decide) u3 l'.length _ (by rfl) (HOs.out.alloc (.cells #[.int .i64 (z : Int)] 3)) ⟨ws.heap.size, 0, none⟩ 1 1 [.int .i64 (z : Int)] (by rfl) (by rfl) (fun j x h => cell_one_new ws (.int .i64 (z : Int)) 3 j x h) (by intro x hx; simp at hx; subst hx; rfl) (by decide) hb1 hb2 (by have := HBs.out.size; show _ ≤ (ws.alloc _).heap.size; rw [World.size_alloc]; omega) _ (by rfl) (fun g' cap' wq q1 q2 q3 q4 => ?_))
          | (go_simp
             go_wp2_with (go_at_call 48; refine (S1 _).mono ?_; rintro e ws ⟨rfl, hbs⟩)
             have HBs : Hid (Below w.heap.size w ws) := Lib.hid (below_via hbs ⟨hB.out.os, hB.out.tape, hB.out.output, hB.out.size, hB.out.block⟩ hbsz)
             have HOs : Hid (ws.ownsRow w.heap.size 3 1 u3 l'.length (iv l')) := Lib.hid (own_kept hbs HO.out)
             clear hbs)
          | (go_simp
             go_wp2_with (go_at_call 31; with_reducible refine PL.use ?_; rintro e w' ⟨rfl, rfl⟩)))
        all_goals
          have K := HBs.out.alloc HBs.out.size (.cells #[.int .i64 (z : Int)] 3)
          have HB' : Hid (Below w.heap.size w wq) := Lib.hid (below_grew q2 ⟨K.os, K.tape, K.output, K.size, K.block⟩ K.size (row_base HO.out))
          have HL : (l' ++ [z]).length = l'.length + 1 := by rw [List.length_append, List.length_singleton]
          have HRR : wq.ownsRow w.heap.size 3 1 (.slice (some ⟨g', 0, none⟩) (l'.length + 1) cap') (l' ++ [z]).length (iv (l' ++ [z])) := by rw [HL, iv_snoc]; exact q1
          clear q1 q2 q3 q4 K
          go_wp2_with fail
          go_round
          case rel => exact ⟨k + 1, l' ++ [z], by go_num, Lib.hid (Or.inl ⟨by omega, by rw [HE.out]⟩), by rw [HL]; have h1 := congrArg List.length HE.out; rw [List.length_take, List.length_append, List.length_singleton] at h1; omega, HRR, HB'⟩
          case measure => simp [intOf]; omega
    · have hfin : Hid (l' = Tr.up l) := Lib.hid (by
        rcases hcase.out with h | h
        · rw [h.2, List.take_of_length_le (by have := HU.out; omega)]
        · exact h.2)
      have e2 : decide (2 * (k : Int) < (n : Int)) = false := decide_eq_false (by omega)
      go_wp2_with fail
      go_ret
      exact ⟨_, rfl, by rw [← hfin.out]; exact hown, hB.out⟩

end Go.Proofs.Ytnbdceigenndfaa
