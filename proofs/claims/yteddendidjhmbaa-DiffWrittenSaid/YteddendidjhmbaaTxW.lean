import Derived.Test.YteddendidjhmbaaMdW
import Derived.Deep.AppendLies
import Derived.Test.YteddendidjhmbaaShelf
/- The walk of woolkeep.texts on a right state. -/
namespace Go.Proofs.Yteddendidjhmbaa
open Go.RowKit

theorem tx_infoStr : (Try.prog.info? 9).map (fun i => (i.zero, i.size, i.bytes)) = some (some (.string ⟨#[]⟩), 1, 16) := by kernel_rfl

/-- What a volume reads as, place after place. -/
def Vo.textsR (s : Vo.St) (name : ByteArray) : List ByteArray := (List.range (Vo.blocksR s name).1.length).map fun (j : Nat) => (Vo.readR s name (j : Int)).1
/-- The first k of them as values. -/
def txN (s : Vo.St) (name : ByteArray) (k : Nat) : List Value := (List.range k).map fun (j : Nat) => Value.string (Vo.readR s name (j : Int)).1
theorem txN_succ (s : Vo.St) (name : ByteArray) (k : Nat) : txN s name (k + 1) = txN s name k ++ [.string (Vo.readR s name (k : Int)).1] := by
  unfold txN
  rw [List.range_succ, List.map_append]
  rfl
theorem txN_is (s : Vo.St) (name : ByteArray) : txN s name (Vo.blocksR s name).1.length = (Vo.textsR s name).map Value.string := by
  unfold txN Vo.textsR
  rw [List.map_map]
  rfl
theorem textsR_length (s : Vo.St) (name : ByteArray) : (Vo.textsR s name).length = (Vo.blocksR s name).1.length := by
  unfold Vo.textsR
  rw [List.length_map, List.length_range]

theorem blocks_small {s : Vo.St} (h : Vo.Right s) (name : ByteArray) : (Vo.blocksR s name).1.length ≤ 32 := by
  unfold Vo.blocksR
  split
  · exact Nat.zero_le _
  · split
    · exact Nat.zero_le _
    · rename_i v hv
      obtain ⟨hi, rfl⟩ := List.getElem?_eq_some_iff.1 hv
      exact (h.vol _ (List.getElem_mem hi)).len

theorem blocks_bad {s : Vo.St} {name : ByteArray} (h : (Vo.blocksR s name).2 ≠ 0) : (Vo.blocksR s name).1 = [] := by
  unfold Vo.blocksR at h ⊢
  split
  · rfl
  · rename_i hf
    rw [hf] at h
    dsimp only at h
    split
    · rfl
    · rename_i hv
      rw [hv] at h
      exact absurd rfl h

set_option maxRecDepth 100000 in
set_option maxHeartbeats 4000000 in
theorem texts_V (a b : Option Addr) (n c m d base : Nat) (rs : List Rw) (s : Vo.St) (name : ByteArray) (w : World) (hS : StW w base a n c b m d rs s) (hR : Vo.Right s) :
    Calls Try.prog 44 #[.agg #[.slice a n c, .slice b m d], .string name] w fun e w' => ∃ v, e = .returned v ∧ w'.ownsRow w.heap.size 9 1 v (Vo.textsR s name).length ((Vo.textsR s name).map Value.string) ∧ Below w.heap.size w w' := by
  obtain ⟨i0, hi, hz0, hz1, hz2⟩ := info_parts tx_infoStr
  have hB : Below w.heap.size w (w.alloc (.cells #[.slice a n c, .slice b m d] 52)) := (Below.refl _ w).alloc (Nat.le_refl _) _
  have hX := bxs_new w 52 #[.slice a n c, .slice b m d] [.slice a n c, .slice b m d] rfl
  have BK := Blocks_V a b n c m d base rs s name _ (hS.keep hB) hR
  have HS := Lib.hid hS; have HB := Lib.hid hB; have HX := Lib.hid hX; have HR := Lib.hid hR
  have c0 := hX.c 0 _ rfl; have c1 := hX.c 1 _ rfl
  have HT := Lib.hid (txN_is s name)
  rw [textsR_length]
  have hle := blocks_small hR name
  have HBD := Lib.hid (blocks_bad (s := s) (name := name))
  obtain ⟨R, hRR⟩ : ∃ R, Vo.blocksR s name = R := ⟨_, rfl⟩
  rw [hRR] at BK HT hle HBD ⊢
  obtain ⟨ids, E⟩ := R
  dsimp only at HT hle HBD ⊢
  clear hS hB hX hR hRR
  go_enter Try.func44, Try.ntmps44
  go_wp2_with fail
  with_reducible refine BK.mono ?_
  rintro e w1 ⟨a1, n1, c3, rfl, -, hl, hb1⟩
  have HB1 := Lib.hid (HB.out.trans (hb1.mono HB.out.size))
  have HX1 := Lib.hid (HX.out.on hb1)
  dsimp only at hl
  clear c0 c1 hb1 BK
  by_cases hE : E = 0
  · subst hE
    have HL := Lib.hid hl
    rw [hl] at hle
    clear hl HBD
    go_wp2_with fail
    go_loopw [7, 21] (fun v x wr => ∃ k : Nat, k ≤ n1 ∧ x = .int .i64 k ∧ wr.ownsRow (w.heap.size + 1) 9 1 v k (txN s name k) ∧ Hid (Below w.heap.size w wr) ∧ Hid (Bxs wr w.heap.size [.slice a n c, .slice b m d])) (fun _ x _ => n1 - (intOf x).toNat)
    case atStart => exact ⟨0, Nat.zero_le _, rfl, World.ownsRow_nil _ _ _ _, HB1, HX1⟩
    case round =>
      rename_i v7
      obtain ⟨k, hk, rfl, hown, hB, hX⟩ := hrel
      by_cases hlt : k < n1
      · have x0 := hX.out.c 0 _ rfl; have x1 := hX.out.c 1 _ rfl
        have RD := Read_V a b n c m d base rs s name (k : Int) wr (HS.out.keep hB.out) HR.out
        have hTs : Hid (txN s name (k + 1) = txN s name k ++ [.string (Vo.readR s name (k : Int)).1]) := Lib.hid (txN_succ s name k)
        have hbsz := hB.out.size
        generalize (Vo.readR s name (k : Int)).1 = T at *
        generalize (Vo.readR s name (k : Int)).2 = E at *
        go_wp2_with fail
        with_reducible refine RD.mono ?_
        rintro e w2 ⟨rfl, hb2⟩
        have hown1 := own_keep hown hb2
        have HB2 := Lib.hid (hB.out.trans (hb2.mono hbsz))
        have HX2 := Lib.hid (hX.out.on hb2)
        have hown2 : (w2.alloc (.cells #[.string T] 9)).ownsRow (w.heap.size + 1) 9 1 u7 k (txN s name k) := hown1.alloc _
        have hcell2 : ∀ j x, [Value.string T][j]? = some x → (w2.alloc (.cells #[.string T] 9)).cell? ((⟨w2.heap.size, 0, none⟩ : Addr).add j) = some x := fun j x h => cell_one_new w2 (.string T) 9 j x h
        have hone : ∀ x ∈ [Value.string T], x.oneCell' = true := by intro x hx; simp at hx; subst hx; rfl
        have hb1 : k + 1 ≤ maxLen := by unfold maxLen; omega
        have hb22 : (k + 1) * 16 ≤ 140737488355328 := by omega
        have hz2' : w.heap.size ≤ w2.heap.size := HB2.out.size
        have hb3 : w.heap.size + 1 ≤ (w2.alloc (.cells #[.string T] 9)).heap.size := by rw [World.size_alloc]; omega
        have hbase := row_base hown1
        have H2 := Lib.hid hown2; have H3 := Lib.hid hcell2; have H4 := Lib.hid hone
        clear hown2 hcell2 hone x0 x1 RD hb2
        go_wp2_with (at_builtin; refine wpList_append_lies _ rfl _ _ _ rfl (w.heap.size + 1) 9 i0 (.string ⟨#[]⟩) 1 16 Try.underlying69 hi hz0 hz1 hz2 rfl (by decide) u7 k _ rfl H2.out ⟨w2.heap.size, 0, none⟩ 1 1 [.string T] rfl rfl H3.out H4.out (by decide) hb1 hb22 hb3 _ rfl ?_)
        intro g' cap' wq q1 q2 q3 q4
        have HB' : Hid (Below w.heap.size w wq) := Lib.hid ((HB2.out.alloc hz2' _).grown q2 (by omega) (fun k e => by have := hbase k e; omega))
        have HX' : Hid (Bxs wq w.heap.size [.slice a n c, .slice b m d]) := Lib.hid ((HX2.out.alloc _).grown q2 (fun e => by have := hbase _ e.symm; omega))
        have HR2 : wq.ownsRow (w.heap.size + 1) 9 1 (.slice (some ⟨g', 0, none⟩) (k + 1) cap') (k + 1) (txN s name (k + 1)) := by rw [hTs.out]; exact q1
        clear q1 q2 q3 q4 H2 H3 H4 hb3 hbase hown hown1 hB
        go_wp2_with fail
        go_roundw
        case rel => exact ⟨k + 1, hlt, by go_num, HR2, HB', HX'⟩
        case measure => simp [intOf]; omega
      · obtain rfl : k = n1 := by omega
        go_wp2_with fail
        go_ret
        rw [← HT.out, HL.out]
        exact ⟨_, rfl, own_low hown (Nat.le_succ _), hB.out⟩
  · obtain rfl := HBD.out hE
    have hb : ((E : Int) != 0) = true := bne_iff_ne.2 (by omega)
    clear hE HBD
    go_wp2_with fail
    go_ret
    rw [← HT.out]
    exact ⟨_, rfl, World.ownsRow_nil _ _ _ _, HB1.out⟩

end Go.Proofs.Yteddendidjhmbaa

/- Rows of texts: when two are one, when one holds a text. -/
namespace Go.Proofs.Yteddendidjhmbaa
open Go.RowKit

theorem txt_cells {w : World} {base n c : Nat} {a : Option Addr} {xs : List ByteArray} (h : w.ownsRow base 9 1 (.slice a n c) n (xs.map Value.string)) : xs.length = n ∧ (0 < n → ∃ g, a = some ⟨g, 0, none⟩ ∧ ∀ j, j < xs.length → w.cell? ⟨g, 0 + j, none⟩ = some (.string (xs.getD j ByteArray.empty))) := by
  have hl : xs.length = n := by have := h.1; rw [List.length_map] at this; omega
  refine ⟨hl, fun hn => ?_⟩
  obtain ⟨g, cap, hv, -, -⟩ := h.form hn
  cases hv
  refine ⟨g, rfl, fun j hj => ?_⟩
  have hc := h.cellAt j (by omega)
  rw [Nat.zero_add, hc, List.getElem?_map, List.getElem?_eq_getElem hj, List.getD_eq_getElem?_getD, List.getElem?_eq_getElem hj]
  rfl

/-- What a call of texts leaves. -/
def TxTo (w : World) (l : List ByteArray) (e : Ending) (w' : World) : Prop :=
  ∃ a n c, e = .returned (.slice a n c) ∧ w'.ownsRow w.heap.size 9 1 (.slice a n c) n (l.map Value.string) ∧ n ≤ 32 ∧ Below w.heap.size w w'

theorem Texts_V (a b : Option Addr) (n c m d base : Nat) (rs : List Rw) (s : Vo.St) (name : ByteArray) (w : World) (hS : StW w base a n c b m d rs s) (hR : Vo.Right s) :
    Calls Try.prog 44 #[.agg #[.slice a n c, .slice b m d], .string name] w (TxTo w (Vo.textsR s name)) :=
  (texts_V a b n c m d base rs s name w hS hR).mono fun e w' ⟨v, h1, h2, h3⟩ => by
    have hl : (Vo.textsR s name).length ≤ 32 := by rw [textsR_length]; exact blocks_small hR name
    rcases h2.2 with ⟨hv, h0⟩ | ⟨g, cap, cur, hv, -⟩
    · rw [hv] at h1 h2
      rw [h0] at h2
      exact ⟨none, 0, 0, h1, h2, Nat.zero_le _, h3⟩
    · rw [hv] at h1 h2
      exact ⟨_, _, cap, h1, h2, hl, h3⟩

theorem Equal_S (a1 a2 : Option Addr) (n c1 m c2 base1 base2 : Nat) (xs ys : List ByteArray) (w : World) (h1 : w.ownsRow base1 9 1 (.slice a1 n c1) n (xs.map Value.string)) (h2 : w.ownsRow base2 9 1 (.slice a2 m c2) m (ys.map Value.string)) (hn : n ≤ 1000) (hm : m ≤ 1000) :
    Calls Try.prog 43 #[.slice a1 n c1, .slice a2 m c2] w fun e w' => e = .returned (.bool (decide (xs = ys))) ∧ ∃ q, w' = w.drewN q := by
  obtain ⟨l1, k1⟩ := txt_cells h1
  obtain ⟨l2, k2⟩ := txt_cells h2
  by_cases hnm : n = m
  · by_cases h0 : n = 0
    · have e1 : xs = [] := List.eq_nil_of_length_eq_zero (by omega)
      have e2 : ys = [] := List.eq_nil_of_length_eq_zero (by omega)
      subst h0; subst hnm; subst e1; subst e2
      exact (Try.slices_Equal_string_empty a1 a2 c1 0 c2 w (by omega)).mono fun e w' h => ⟨h.1, 0, h.2⟩
    · obtain ⟨g1, rfl, q1⟩ := k1 (by omega)
      obtain ⟨g2, rfl, q2⟩ := k2 (by omega)
      have h := Try.slices_Equal_string g1 0 n c1 g2 0 m c2 xs ys w (by omega) (by omega) (by omega) (by omega) q1 q2
      rw [List.take_of_length_le (by omega), List.take_of_length_le (by omega)] at h
      exact h
  · have e : decide (xs = ys) = false := decide_eq_false fun e => hnm (by rw [← l1, ← l2, e])
    rw [e]
    exact (Try.slices_Equal_string_lens a1 a2 n c1 m c2 w hnm).mono fun e w' h => ⟨h.1, 0, h.2⟩

theorem Equal_ST (a1 a2 : Option Addr) (n c1 m c2 base1 base2 : Nat) (xs ys : List ByteArray) (w : World) (h1 : w.ownsRow base1 9 1 (.slice a1 n c1) n (xs.map Value.string)) (h2 : w.ownsRow base2 9 1 (.slice a2 m c2) m (ys.map Value.string)) (hn : n ≤ 1000) (hm : m ≤ 1000) (hxy : xs = ys) :
    Calls Try.prog 43 #[.slice a1 n c1, .slice a2 m c2] w fun e w' => e = .returned (.bool true) ∧ Below w.heap.size w w' :=
  (Equal_S a1 a2 n c1 m c2 base1 base2 xs ys w h1 h2 hn hm).mono fun e w' ⟨h3, q, h4⟩ => by
    rw [decide_eq_true hxy] at h3
    rw [h4]
    exact ⟨h3, below_drewN (Below.refl _ _) q⟩

theorem Contains_S (a : Option Addr) (n c base : Nat) (xs : List ByteArray) (x : ByteArray) (w : World) (h1 : w.ownsRow base 9 1 (.slice a n c) n (xs.map Value.string)) (hn : n ≤ 1000) :
    Calls Try.prog 42 #[.slice a n c, .string x] w fun e w' => e = .returned (.bool (Lib.containsS xs x)) ∧ w' = w := by
  obtain ⟨l1, k1⟩ := txt_cells h1
  by_cases h0 : n = 0
  · have e1 : xs = [] := List.eq_nil_of_length_eq_zero (by omega)
    subst h0; subst e1
    exact Try.slices_Contains_string_empty a c x w
  · obtain ⟨g1, rfl, q1⟩ := k1 (by omega)
    have h := Try.slices_Contains_string g1 0 n c xs x w (by omega) (by omega) q1
    rw [List.take_of_length_le (by omega)] at h
    exact h

end Go.Proofs.Yteddendidjhmbaa
