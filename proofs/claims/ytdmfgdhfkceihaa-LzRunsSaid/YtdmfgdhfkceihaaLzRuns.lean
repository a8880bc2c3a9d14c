/- LzRuns: runs are one byte and copies of 64, different bytes are literals; for every input; what was there stands below. -/
import Derived.Test.YtdmfgdhfkceihaaLzW5
import Derived.Test.YtdmfgdhfkceihaaLzRunsP
import Derived.Test.YtdmfgdhfkceihaaShelf
import Derived.Test.YtdmfgdhfkceihaaShut
namespace Go.Proofs.Ytdmfgdhfkceihaa
open Go.RowKit

/-- Tokens written out. -/
theorem karg_lits (w : World) (T : TypeId) (ts : List Lz.Tk) (cs : Array Value) (n : Nat) (hcs : cs = (kv ts).toArray) (hn : ts.length = n) (hm : n ≤ maxLen) : KArg (w.alloc (.cells cs T)) (some ⟨w.heap.size, 0, none⟩) n n ts := ⟨fun _ => ⟨_, rfl, fun j t hj => by
    obtain ⟨k1, k2, k3⟩ := kv_get hj
    rw [addr_lit0, addr_lit0, addr_lit0]
    subst hcs
    exact ⟨cell_new w (by simpa using k1), cell_new w (by simpa using k2), cell_new w (by simpa using k3)⟩⟩, hn, Nat.le_refl _, hm⟩

theorem aa_parse : Lz.parse [97, 97, 97] 1 = [⟨0, 0, 97⟩, ⟨1, 2, 0⟩] := by kernel_rfl

theorem Parse_aa (w : World) : Calls Try.prog 14 #[.string ⟨#[97, 97, 97]⟩, .int .i64 1] w (ParseR w [⟨0, 0, 97⟩, ⟨1, 2, 0⟩] 2 0) := by
  have := Parse_K ⟨#[97, 97, 97]⟩ [97, 97, 97] 1 2 w rfl (by decide) (by decide) (by decide) (by rw [aa_parse]; rfl)
  rw [aa_parse] at this
  exact this

theorem rep_byte (c : UInt8) (k : Nat) : Lib.repeatL (⟨#[c]⟩ : ByteArray).data.toList k = List.replicate k c := by
  induction k with
  | zero => rfl
  | succ k ih => rw [Lib.repeatL, ih]; rfl

set_option maxRecDepth 100000 in
set_option maxHeartbeats 4000000 in
theorem runs_core (c : UInt8) (a b : Int) (w : World) :
    Calls Try.prog 7 #[.int .u8 c.toNat, .int .i64 a, .int .i64 b] w fun e w' => e = .returned (.bool true) ∧ Below w.heap.size w w' := by
  obtain ⟨i0, hi, hz0, hz1, hz2⟩ := info_parts Try.infoU8
  have W1 : Ans1 16 #[.int .i64 a, .int .i64 300] (.int .i64 (wi a 300)) := fun w => within_any a 300 300 w rfl (by omega) (by omega)
  have W2 : Ans1 16 #[.int .i64 b, .int .i64 256] (.int .i64 (wi b 256)) := fun w => within_any b 256 256 w rfl (by omega) (by omega)
  have hn := wi_lt a 300 (by omega)
  have hm := wi_lt b 256 (by omega)
  generalize wi a 300 = n at *
  generalize wi b 256 = m at *
  have hc := c.toNat_lt
  have R1 : ∀ w, Calls Try.prog 17 #[.string ⟨#[c]⟩, .int .i64 n] w fun e w' => e = .returned (.string ⟨(List.replicate n c).toArray⟩) ∧ Below w.heap.size w w' := fun w => by
    have := Try.strings_Repeat ⟨#[c]⟩ n w (by omega) (by show 1 * n ≤ _; omega)
    rwa [rep_byte] at this
  have P1 : ∀ w, Calls Try.prog 14 #[.string ⟨(List.replicate n c).toArray⟩, .int .i64 5] w (ParseR w (Lz.parse (List.replicate n c) 5) (if n = 0 then 0 else 1 + (n - 1 + 63) / 64) 0) := fun w =>
    Parse_K ⟨(List.replicate n c).toArray⟩ (List.replicate n c) 5 _ w (by simp) (by rw [str_size]; simp; omega) (by decide) (by decide) (Lz.parse_same c n)
  have hup := Lz.ups_parse c.toNat m 256 (by omega)
  have P2 : ∀ w, Calls Try.prog 14 #[.string ⟨(Lz.ups c.toNat m).toArray⟩, .int .i64 256] w (ParseR w (Lz.parse (Lz.ups c.toNat m) 256) m 0) := fun w =>
    Parse_K ⟨(Lz.ups c.toNat m).toArray⟩ (Lz.ups c.toNat m) 256 _ w (by simp) (by rw [str_size, Lz.ups_length]; omega) (by decide) (by decide) hup.1
  have HU := Lib.hid hup.2
  generalize Lz.parse (Lz.ups c.toNat m) 256 = us at *
  generalize Lz.parse (List.replicate n c) 5 = rs at *
  obtain ⟨A, hA⟩ : ∃ A : ByteArray, A = ⟨(List.replicate n c).toArray⟩ := ⟨_, rfl⟩
  rw [← hA] at R1 P1
  obtain ⟨L, hL⟩ : ∃ L, (if n = 0 then 0 else 1 + (n - 1 + 63) / 64) = L := ⟨_, rfl⟩
  rw [hL] at P1
  have HL := Lib.hid hL
  clear hup hA hL
  have hcv : ∀ w : World, (convert 43 9 (.slice (some ⟨w.heap.size, 0, none⟩) 1 1)).run Try.prog (w.alloc (.cells #[.int .u8 c.toNat] 5)) = .ok (.string ⟨#[c]⟩) (w.alloc (.cells #[.int .u8 c.toNat] 5)) := fun w => by
    have := run_convert_bytes_back (P := Try.prog) (w.alloc (.cells #[.int .u8 c.toNat] 5)) 43 9 5 ⟨w.heap.size, 0, none⟩ 1 [c] Try.underlying43 Try.underlying5 Try.underlying9 (fun j hj => by
      obtain rfl : j = 0 := by simpa using hj
      rw [addr_lit0]; exact cell_new w (k := 0) rfl)
    exact this
  go_enter Try.func7, Try.ntmps7
  go_wp2_with fail
  with_reducible refine (Parse_aa _).mono ?_
  rintro e w1 ⟨a1, c1, rfl, hk1, hb1⟩
  have E1 := Equal_KB a1 (some ⟨w1.heap.size, 0, none⟩) 2 c1 2 _ _ (hk1.keep ((Below.refl _ _).alloc (Nat.le_refl _) _)) (karg_lits w1 33 [⟨0, 0, 97⟩, ⟨1, 2, 0⟩] _ 2 rfl rfl (by decide)) (by decide)
  have HB1 := Lib.hid (hb1.alloc hb1.size (.cells (kv [⟨0, 0, 97⟩, ⟨1, 2, 0⟩]).toArray 33))
  simp only [kv] at E1 HB1
  clear hk1 hb1
  go_wp2_with fail
  with_reducible refine E1.mono ?_
  rintro e w2 ⟨rfl, hb2⟩
  have HB2 := Lib.hid (HB1.out.trans (hb2.mono HB1.out.size))
  clear E1 hb2 HB1
  go_wp2_with fail
  with_reducible refine W1.use ?_
  rintro e w' ⟨rfl, rfl⟩
  go_wp2_with fail
  with_reducible refine W2.use ?_
  rintro e w' ⟨rfl, rfl⟩
  have hcv2 := hcv w2
  clear hcv W1 W2
  go_wp2_with fail
  with_reducible refine (R1 _).mono ?_
  rintro e w3 ⟨rfl, hb3⟩
  have HB3 := Lib.hid (HB2.out.trans ((((Below.refl _ _).alloc (Nat.le_refl _) _).trans (hb3.mono (by rw [World.size_alloc]; omega))).mono HB2.out.size))
  clear R1 hb3 hcv2
  go_wp2_with fail
  with_reducible refine (P1 _).mono ?_
  rintro e w4 ⟨a4, c4, rfl, -, hb4⟩
  have HB4 := Lib.hid (HB3.out.trans (hb4.mono HB3.out.size))
  clear P1 hb4
  go_wp2_with fail
  go_loopw [11, 45] (fun v i wr => ∃ (k cp : Nat) (g : Option Addr), k ≤ m ∧ i = .int .i64 k ∧ v = .slice g k cp ∧ Hid (wr.ownsRow w.heap.size 5 1 (.slice g k cp) k (bv (Lz.ups c.toNat k))) ∧ Hid (Below w.heap.size w wr)) (fun _ i _ => m - (intOf i).toNat)
  case atStart => exact ⟨0, 0, none, Nat.zero_le _, rfl, rfl, Lib.hid (World.ownsRow_nil _ _ _ _), HB4⟩
  case round =>
    obtain ⟨k, cp, g, hk, rfl, rfl, hO, hB⟩ := hrel
    by_cases hlt : k < m
    · obtain ⟨y, hy⟩ : ∃ y, UInt8.ofNat (c.toNat + k) = y := ⟨_, rfl⟩
      have hyv : IntKind.u8.wrap ((c.toNat : Int) + (k : Int)) = (y.toNat : Int) := by
        rw [← hy, UInt8.toNat_ofNat']
        unfold IntKind.wrap
        simp [IntKind.bits, IntKind.signed]
      have hus : Hid (Lz.ups c.toNat (k + 1) = Lz.ups c.toNat k ++ [y]) := Lib.hid (by rw [← hy]; exact Lz.ups_succ _ _)
      clear hy
      have hbase := row_base hO.out
      have hown2 : (wr.alloc (.cells #[.int .u8 (y.toNat : Int)] 5)).ownsRow w.heap.size 5 1 (.slice g k cp) k (bv (Lz.ups c.toNat k)) := hO.out.alloc _
      have hcell2 : ∀ j x, [Value.int .u8 (y.toNat : Int)][j]? = some x → (wr.alloc (.cells #[.int .u8 (y.toNat : Int)] 5)).cell? ((⟨wr.heap.size, 0, none⟩ : Addr).add j) = some x := fun j x h => cell_one_new wr (.int .u8 (y.toNat : Int)) 5 j x h
      have hone : ∀ x ∈ [Value.int .u8 (y.toNat : Int)], x.oneCell' = true := by intro x hx; simp at hx; subst hx; rfl
      have hbsz := hB.out.size
      have hm9 : k + 1 ≤ maxLen := by unfold maxLen; omega
      have hm2 : (k + 1) * 1 ≤ 140737488355328 := by omega
      have hm3 : w.heap.size ≤ (wr.alloc (.cells #[.int .u8 (y.toNat : Int)] 5)).heap.size := by rw [World.size_alloc]; omega
      have H2 := Lib.hid hown2; have H3 := Lib.hid hcell2; have H4 := Lib.hid hone
      clear hown2 hcell2 hone
      have hyn := y.toNat_lt
      have HBY : Hid (bv (Lz.ups c.toNat (k + 1)) = bv (Lz.ups c.toNat k) ++ [.int .u8 (y.toNat : Int)]) := Lib.hid (by rw [hus.out]; exact bv_snoc _ y)
      go_wp2_with (at_builtin; refine wpList_append_lies _ rfl _ _ _ rfl w.heap.size 5 i0 (.int .u8 0) 1 1 Try.underlying43 hi hz0 hz1 hz2 rfl (by decide) (.slice g k cp) k _ rfl H2.out ⟨wr.heap.size, 0, none⟩ 1 1 [.int .u8 (y.toNat : Int)] rfl rfl H3.out H4.out (by decide) hm9 hm2 hm3 _ rfl ?_)
      intro g' cap' wq q1 q2 q3 q4
      have HB' : Hid (Below w.heap.size w wq) := Lib.hid ((hB.out.alloc hbsz _).grown q2 hm3 hbase)
      have HR2 : Hid (wq.ownsRow w.heap.size 5 1 (.slice (some ⟨g', 0, none⟩) (k + 1) cap') (k + 1) (bv (Lz.ups c.toNat (k + 1)))) := Lib.hid (by rw [HBY.out]; exact q1)
      clear q1 q2 q3 q4 H2 H3 H4 hm3 hbase hbsz
      go_wp2_with fail
      go_roundw
      case rel => exact ⟨k + 1, cap', some ⟨g', 0, none⟩, hlt, by go_num, rfl, HR2, HB'⟩
      case measure => simp [intOf]; omega
    · obtain rfl : k = m := by omega
      have hcv : (convert 43 9 (.slice g k cp)).run Try.prog wr = .ok (.string ⟨(Lz.ups c.toNat k).toArray⟩) wr := by
        have hlen := Lz.ups_length c.toNat k
        rcases hO.out.2 with ⟨hnil, hz⟩ | ⟨g1, cap, cur, hv, _⟩
        · cases hnil
          exact Lib.run_convert_nil_bytes (P := Try.prog) wr 43 9 5 0 Try.underlying43 Try.underlying5 Try.underlying9
        · cases hv
          have := run_convert_bytes_back (P := Try.prog) wr 43 9 5 ⟨g1, 0, none⟩ cp (Lz.ups c.toNat k) Try.underlying43 Try.underlying5 Try.underlying9 (fun j hj => hO.out.cells (g := g1) rfl j _ (by simp [bv, hj]))
          rwa [hlen] at this
      obtain ⟨Q, hQ⟩ : ∃ Q : ByteArray, Q = ⟨(Lz.ups c.toNat k).toArray⟩ := ⟨_, rfl⟩
      rw [← hQ] at P2 hcv
      clear hQ hO
      go_wp2_with fail
      with_reducible refine (P2 _).mono ?_
      rintro e w5 ⟨a5, c5, rfl, hk5, hb5⟩
      have HB5 := Lib.hid (hB.out.trans (hb5.mono hB.out.size))
      have HK5 := Lib.hid hk5
      have hml : us.length = k := hk5.len
      clear P2 hcv hb5 hk5
      go_wp2_with fail
      go_loopw [77] (fun x wr => ∃ j : Nat, j ≤ k ∧ x = .int .i64 j ∧ Hid (Below w.heap.size w wr) ∧ Hid (Below w5.heap.size w5 wr)) (fun x _ => k - (intOf x).toNat)
      case atStart => exact ⟨0, Nat.zero_le _, rfl, HB5, Lib.hid (Below.refl _ _)⟩
      case round =>
        obtain ⟨j, hj, rfl, hBB, hB6⟩ := hrel
        by_cases hlj : j < k
        · have hj' : j < us.length := by rw [hml]; exact hlj
          have hne : us ≠ [] := by rintro rfl; simp at hj'
          obtain ⟨x0, rfl, hcc⟩ := (HK5.out.keep hB6.out).at_ hne
          obtain ⟨q1, q2, q3⟩ := hcc j us[j] (List.getElem?_eq_getElem hj')
          obtain ⟨yb, yo, ys, hy⟩ : ∃ b o s, x0.add (j * 3) = ⟨b, o, s⟩ := ⟨_, _, _, rfl⟩
          rw [← Go.Deep.add_add, hy, show (⟨yb, yo, ys⟩ : Addr).add 1 = ⟨yb, yo + 1, none⟩ from rfl] at q2
          rw [← Go.Deep.add_add, hy, show (⟨yb, yo, ys⟩ : Addr).add 2 = ⟨yb, yo + 2, none⟩ from rfl] at q3
          rw [hy] at q1
          rw [HU.out us[j] (List.getElem_mem hj')] at q2
          clear hcc hne
          generalize us[j].d = D at *
          generalize us[j].b = Y at *
          go_wp2_with fail
          go_roundw
          case rel => exact ⟨j + 1, hlj, by go_num, Lib.hid (hBB.out.alloc hBB.out.size _), Lib.hid (hB6.out.alloc hB6.out.size _)⟩
          case measure => simp [intOf]; omega
        · obtain rfl : j = k := by omega
          rcases n with _ | p
          · have hL0 : L = 0 := HL.out.symm
            subst hL0
            go_wp2_with fail
            go_ret
            exact ⟨rfl, hBB.out⟩
          · have hL0 : L = 1 + (p + 63) / 64 := HL.out.symm
            have hp : p < 300 := by omega
            have hw1 : (p : Int) + 1 - 1 = p := by omega
            have hw2 : IntKind.i64.wrap ((p : Int) + 63) = (p : Int) + 63 := IntWalk.i64_in _ (by omega)
            have hw3 : ((p : Int) + 63) / 64 = (((p + 63) / 64 : Nat) : Int) := by omega
            obtain ⟨q, hq⟩ : ∃ q, (p + 63) / 64 = q := ⟨_, rfl⟩
            have hq4 : q ≤ 300 := by omega
            rw [hq] at hw3 hL0
            subst hL0
            go_wp2_with fail
            go_ret
            exact ⟨by simp, hBB.out⟩

theorem lzRuns_walk (c a b : Int) (hc : (Lit.int .u8 c).wf = true) (_ : (Lit.int .i64 a).wf = true) (_ : (Lit.int .i64 b).wf = true) (w : World) :
    Calls Try.prog 7 #[.int .u8 c, .int .i64 a, .int .i64 b] w fun e w' => e = .returned (.bool true) ∧ Below w.heap.size w w' := by
  have hb := Go.bounds_u8 hc
  obtain ⟨C, rfl⟩ : ∃ C : UInt8, c = (C.toNat : Int) := by
    refine ⟨UInt8.ofNat c.toNat, ?_⟩
    rw [UInt8.toNat_ofNat']; omega
  exact runs_core C a b w

end Go.Proofs.Ytdmfgdhfkceihaa
