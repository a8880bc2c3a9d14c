/- The walk of cut.Split, on ends that rise to the text's own. -/
import Derived.Test.YtalenienmkaflaaSplitP
import Derived.Test.YtalenienmkaflaaCutK
namespace Go.Proofs.Ytalenienmkaflaa
open Go.RowKit

theorem Try.infoStr : (Try.prog.info? 9).map (fun i => (i.zero, i.size, i.bytes)) = some (some (.string ⟨#[]⟩), 1, 16) := by kernel_rfl

/-- Piece i of a text. -/
def pce (s : ByteArray) (l : List Nat) (i : Nat) : ByteArray := s.extract (Ct.pos l i) (Ct.pos l (i + 1))
/-- The first k pieces as values. -/
def svs (s : ByteArray) (l : List Nat) (k : Nat) : List Value := (List.range k).map fun i => .string (pce s l i)

theorem svs_succ (s : ByteArray) (l : List Nat) (k : Nat) : svs s l (k + 1) = svs s l k ++ [.string (pce s l k)] := by unfold svs; rw [List.range_succ, List.map_append]; rfl

set_option maxRecDepth 100000 in
set_option maxHeartbeats 2000000 in
theorem Split_ok (s : ByteArray) (a : Option Addr) (l : List Nat) (n cap : Nat) (w : World) (hs : s.size ≤ 600) (hl : l.length = n) (hn : n ≤ 600) (hx : n ≠ 0 → ∃ g, a = some ⟨g, 0, none⟩ ∧ RowIn w g l)
    (hm : ∀ k, k < n → Ct.pos l k < Ct.pos l (k + 1) ∧ Ct.pos l (k + 1) ≤ s.size) (hz : Ct.pos l n = s.size) :
    Calls Try.prog 24 #[.string s, .slice a n cap] w fun e w' => ∃ v, e = .returned (.tuple #[v, .int .i64 0]) ∧ w'.ownsRow w.heap.size 9 1 v n (svs s l n) ∧ Below w.heap.size w w' := by
  obtain ⟨i0, hi, hz0, hz1, hz2⟩ := info_parts Try.infoStr
  have HM := Lib.hid hm; have HZ := Lib.hid hz; have HX := Lib.hid hx; have HL := Lib.hid hl
  clear hm hz hx hl
  go_enter Try.func24, Try.ntmps24
  go_wp2_with fail
  go_loopw [6, 7, 15] (fun v b i wr => ∃ k : Nat, k ≤ n ∧ i = .int .i64 k ∧ b = .int .i64 (Ct.pos l k) ∧ wr.ownsRow w.heap.size 9 1 v k (svs s l k) ∧ Hid (Below w.heap.size w wr)) (fun _ _ i _ => n - (intOf i).toNat)
  case atStart => exact ⟨0, by omega, rfl, rfl, World.ownsRow_nil _ _ _ _, Lib.hid (Below.refl _ _)⟩
  case round =>
    rename_i v6
    obtain ⟨k, hk, rfl, rfl, hown, hB⟩ := hrel
    by_cases hlt : k < n
    · obtain ⟨g, rfl, hR⟩ := HX.out (by omega)
      obtain ⟨m1, m2⟩ := HM.out k hlt
      have hc : wr.cell? ⟨g, k, none⟩ = some (.int .i64 (Ct.pos l (k + 1) : Int)) := by
        rw [hB.out.cell (p := ⟨g, k, none⟩) hR.1, Ct.pos_succ]
        have hkl : k < l.length := by rw [HL.out]; exact hlt
        rw [hR.2 k hkl]
        simp [List.getD, hkl]
      have hT : svs s l (k + 1) = svs s l k ++ [.string (pce s l k)] := svs_succ s l k
      have hpc : pce s l k = s.extract (Ct.pos l k) (Ct.pos l (k + 1)) := rfl
      have x1 := sl_str Try.underlying9 (s := s) (x := (Ct.pos l k : Int)) (y := (Ct.pos l (k + 1) : Int)) (a := Ct.pos l k) (b := Ct.pos l (k + 1)) rfl rfl (by omega) m2
      rw [← hpc] at x1
      have HP := Lib.hid (rfl : Ct.pos l (k + 1) = Ct.pos l (k + 1))
      obtain ⟨b, hb⟩ : ∃ b, b = Ct.pos l k := ⟨_, rfl⟩
      obtain ⟨e, he⟩ : ∃ e, e = Ct.pos l (k + 1) := ⟨_, rfl⟩
      rw [← hb] at m1 x1 ⊢
      rw [← he] at m1 m2 hc x1
      have HE := Lib.hid he
      generalize pce s l k = T at *
      clear hb he hpc HP
      have HT := Lib.hid hT
      have hown2 : (wr.alloc (.cells #[.string T] 9)).ownsRow w.heap.size 9 1 u6 k (svs s l k) := hown.alloc _
      have hcell2 : ∀ j x, [Value.string T][j]? = some x → (wr.alloc (.cells #[.string T] 9)).cell? ((⟨wr.heap.size, 0, none⟩ : Addr).add j) = some x := fun j x h => cell_one_new wr (.string T) 9 j x h
      have hone : ∀ x ∈ [Value.string T], x.oneCell' = true := by intro x hx; simp at hx; subst hx; rfl
      have hbsz := hB.out.size
      have hb1 : k + 1 ≤ maxLen := by unfold maxLen; omega
      have hb2 : (k + 1) * 16 ≤ 140737488355328 := by omega
      have hb3 : w.heap.size ≤ (wr.alloc (.cells #[.string T] 9)).heap.size := by rw [World.size_alloc]; omega
      have hbase := row_base hown
      have H2 := Lib.hid hown2; have H3 := Lib.hid hcell2; have H4 := Lib.hid hone
      clear hown2 hcell2 hone hT
      go_wp2_with (at_builtin; refine wpList_append_lies _ rfl _ _ _ rfl w.heap.size 9 i0 (.string ⟨#[]⟩) 1 16 Try.underlying33 hi hz0 hz1 hz2 rfl (by decide) u6 k _ rfl H2.out ⟨wr.heap.size, 0, none⟩ 1 1 [.string T] rfl rfl H3.out H4.out (by decide) hb1 hb2 hb3 _ rfl ?_)
      intro g' cap' wq q1 q2 q3 q4
      have HB' : Hid (Below w.heap.size w wq) := Lib.hid ((hB.out.alloc hbsz _).grown q2 hb3 hbase)
      have HR : wq.ownsRow w.heap.size 9 1 (.slice (some ⟨g', 0, none⟩) (k + 1) cap') (k + 1) (svs s l (k + 1)) := by rw [HT.out]; exact q1
      clear q1 q2 q3 q4 H2 H3 H4 hb3 hbase hown hB
      go_wp2_with fail
      go_round
      case rel => exact ⟨k + 1, hlt, by go_num, by rw [← HE.out], HR, HB'⟩
      case measure => simp [intOf]; omega
    · obtain rfl : k = n := by omega
      rw [HZ.out]
      go_wp2_with fail
      go_ret2
      exact ⟨_, rfl, hown, hB.out⟩

end Go.Proofs.Ytalenienmkaflaa
