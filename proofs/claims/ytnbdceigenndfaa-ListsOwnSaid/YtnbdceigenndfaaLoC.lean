import Derived.Test.YtnbdceigenndfaaLoG
import Derived.Test.YtnbdceigenndfaaFactW
import Derived.Test.YtnbdceigenndfaaCutW
import Derived.Test.YtnbdceigenndfaaSyncW
/- The calls of ListsOwn, whatever comes in: each answers a new row. -/
namespace Go.Proofs.Ytnbdceigenndfaa
open Go.RowKit

theorem lo_fact (m : Nat) (hm : m ≤ 2147483647) (w : World) : Calls Try.prog 4 #[.int .i64 (m : Nat)] w fun e w' => ∃ l : List Nat, (m ≠ 0 → G.Fin m l) ∧ (m = 0 → l = []) ∧ l.length ≤ 31 ∧ RowTo w 3 1 (iv l) e w' := by
  by_cases h0 : m = 0
  · subst h0
    have C1 := check_ok 0 w (by omega) (by omega)
    show Calls _ _ #[.int .i64 0] _ _
    go_enter Try.func4, Try.ntmps4
    go_wp2_with fail
    with_reducible refine C1.mono ?_
    rintro e w' ⟨rfl, rfl⟩
    go_wp2_with fail
    go_ret2
    exact ⟨[], fun h => absurd rfl h, fun _ => rfl, Nat.zero_le _, rowTo_nil rfl (Below.refl _ _)⟩
  · refine (Factors_ok m w h0 hm).mono ?_
    rintro e w' ⟨v, l, he, h1, h2, ho, hb⟩
    exact ⟨l, fun _ => h1, fun h => absurd h h0, h2, rowTo_of he ho hb⟩

def endsL (s : ByteArray) : List Nat := if s.size ≤ 600 then Ct.ends 1 9 7 s.data.toList else []
theorem ends_few (s : ByteArray) : (endsL s).length ≤ 600 := by
  unfold endsL
  split
  · have := Ct.ends_length (least := 1) (most := 9) (mask := 7) (Nat.le_refl _) s.data.toList
    have hl : s.data.toList.length = s.size := by simp
    omega
  · exact Nat.zero_le _
theorem lo_ends (s : ByteArray) (hs : s.size ≤ maxLen) (w : World) : Calls Try.prog 9 #[.string s, .int .i64 1, .int .i64 9, .int .i64 7] w (RowTo w 3 1 (iv (endsL s))) := by
  unfold endsL
  by_cases h : s.size ≤ 600
  · rw [if_pos h]
    refine (show Calls Try.prog 9 #[.string s, .int .i64 1, .int .i64 9, .int .i64 7] w _ from Ends_ok s 1 9 7 w h (by omega) (by omega) (by omega) (by omega)).mono ?_
    rintro e w' ⟨v, he, ho, hb⟩
    exact rowTo_of he ho hb
  · rw [if_neg h]
    refine (Ends_large s 1 9 7 w (by omega) hs).mono ?_
    rintro e w' ⟨he, rfl⟩
    exact rowTo_nil he (Below.refl _ _)

def parseL (s : ByteArray) : List Lz.Tk := if s.size ≤ 600 then Lz.parse s.data.toList 99 else []
theorem parse_few (s : ByteArray) : (parseL s).length ≤ 600 := by
  unfold parseL
  split
  · have hL : (s.data.toList).length = s.size := by simp
    have := Lz.rest_len (s := s.data.toList) (w := 99) s.data.toList.length 0 (by omega)
    unfold Lz.parse
    omega
  · exact Nat.zero_le _
theorem lo_parse (s : ByteArray) (hs : s.size ≤ maxLen) (w : World) : Calls Try.prog 11 #[.string s, .int .i64 99] w (RowTo w 49 3 (kv (parseL s))) := by
  unfold parseL
  by_cases h : s.size ≤ 600
  · rw [if_pos h]
    refine (show Calls Try.prog 11 #[.string s, .int .i64 99] w _ from Parse_ok s 99 w h (by omega) (by omega)).mono ?_
    rintro e w' ⟨v, he, ho, hb⟩
    exact rowTo_of he ho hb
  · rw [if_neg h]
    refine (Parse_bad s 99 w hs (by unfold ParseE; rw [if_pos (by omega)]; decide)).mono ?_
    rintro e w' ⟨he, hb⟩
    exact rowTo_nil he hb

theorem lo_chk {ss : List ByteArray} {n : Nat} (h : chk ss n = 0) : 1 ≤ n ∧ n ≤ 32 ∧ ∀ i, i < n → (ss.getD i ByteArray.empty).size ≤ 64 := by
  unfold chk at h
  split at h
  · cases h
  · split at h
    · cases h
    · rename_i h1 h2
      refine ⟨by omega, by omega, big_false.1 ?_⟩
      cases hb : big ss n with
      | false => rfl
      | true => exact absurd (Or.inr hb) h2

theorem lo_proof (a : Option Addr) (n c : Nat) (i : Int) (ss : List ByteArray) (w : World) (hn : n ≤ maxLen) (hT : TextsAt w a n ss) : Calls Try.prog 12 #[.slice a n c, .int .i64 i] w fun e w' => ∃ l : List (Bool × Nat), l.length ≤ 600 ∧ RowTo w 52 2 (stv l) e w' := by
  have C1 := TCheck_any a n c ss w hn hT
  unfold maxLen at hn
  obtain ⟨E, hE⟩ : ∃ E, chk ss n = E := ⟨_, rfl⟩
  rw [hE] at C1
  by_cases h0 : E = 0
  · subst h0
    obtain ⟨h1, h2, h3⟩ := lo_chk hE
    by_cases hi : 0 ≤ i ∧ i < (n : Int)
    · obtain ⟨k, rfl⟩ : ∃ k : Nat, i = (k : Int) := ⟨i.toNat, by omega⟩
      refine (Proof_ok a n c k ss w h1 h2 (by omega) hT h3).mono ?_
      rintro e w' ⟨v, he, ho, hb⟩
      have hl := lvs_length ss n
      have h5 := Tr.proof_len 5 (lvs ss n) k (fun e => by rw [e] at hl; simp at hl; omega) (by omega) (by omega)
      exact ⟨_, by omega, rowTo_of he ho hb⟩
    · clear hE h1 h2 h3 hT
      by_cases hi0 : i < 0
      · go_enter Try.func12, Try.ntmps12
        go_wp2_with fail
        with_reducible refine C1.mono ?_
        rintro e w' ⟨rfl, rfl⟩
        go_wp2_with fail
        go_ret2
        exact ⟨[], Nat.zero_le _, rowTo_nil rfl (Below.refl _ _)⟩
      · have hi1 : (n : Int) ≤ i := by omega
        have hi2 : ¬ i < 0 := hi0
        clear hi
        go_enter Try.func12, Try.ntmps12
        go_wp2_with fail
        with_reducible refine C1.mono ?_
        rintro e w' ⟨rfl, rfl⟩
        go_wp2_with fail
        go_ret2
        exact ⟨[], Nat.zero_le _, rowTo_nil rfl (Below.refl _ _)⟩
  · have hb : ((E : Int) != 0) = true := bne_iff_ne.2 (by omega)
    clear hE hT
    go_enter Try.func12, Try.ntmps12
    go_wp2_with fail
    with_reducible refine C1.mono ?_
    rintro e w' ⟨rfl, rfl⟩
    go_wp2_with fail
    go_ret2
    exact ⟨[], Nat.zero_le _, rowTo_nil rfl (Below.refl _ _)⟩

theorem lo_compare (a b : Option Addr) (n m ca cb : Nat) (ss tt : List ByteArray) (w : World) (hn : n ≤ maxLen) (hm : m ≤ maxLen) (hS : TextsAt w a n ss) (hT : TextsAt w b m tt) : Calls Try.prog 13 #[.slice a n ca, .slice b m cb] w fun e w' =>
    ∃ (l : List Nat) (d : Option Addr) (k c : Nat) (E1 E2 : Value), l.length ≤ 4294967296 ∧ e = .returned (.tuple #[.slice d k c, E1, E2]) ∧ w'.ownsRow w.heap.size 3 1 (.slice d k c) k (iv l) ∧ Below w.heap.size w w' := by
  by_cases h0 : cmpE ss n tt m = 0
  · obtain ⟨h1, h2, rfl⟩ := cmpE_zero.1 h0
    obtain ⟨k1, k2, k3⟩ := lo_chk h1
    obtain ⟨-, -, k4⟩ := lo_chk h2
    refine (Compare_ok a b n ca cb ss tt w k1 k2 hS hT k3 k4).mono ?_
    rintro e w' ⟨v, he, ho, hb⟩
    obtain ⟨d, c, rfl, -⟩ := lo_shape ho
    have hl := lvs_length ss n
    have hne : lvs ss n ≠ [] := fun e => by rw [e] at hl; simp at hl; omega
    have h5 := Tr.levels_len (lvs ss n) hne
    have h6 := (Sy.lk_size (Tr.levels (lvs ss n)) (Tr.levels (lvs tt n)) ((Tr.levels (lvs ss n)).length - 1) 0).1
    have h7 : 2 ^ ((Tr.levels (lvs ss n)).length - 1) ≤ 2 ^ 32 := Nat.pow_le_pow_right (by decide) (by omega)
    exact ⟨_, d, _, c, _, _, Nat.le_trans h6 h7, he, ho, hb⟩
  · refine (Compare_bad a b n m ca cb ss tt w hn hm hS hT h0).mono ?_
    rintro e w' ⟨he, rfl⟩
    exact ⟨[], none, 0, 0, _, _, Nat.zero_le _, he, World.ownsRow_nil _ _ _ _, Below.refl _ _⟩

set_option maxRecDepth 100000 in
set_option maxHeartbeats 4000000 in
theorem lo_split (s : ByteArray) (hs : s.size ≤ maxLen) (a : Option Addr) (n c : Nat) (l : List Int) (w : World) (h : At w a n 1 (l.map (Value.int .i64))) (hl : l.length = n) (hn : n ≤ 9223372036854775807) :
    Calls Try.prog 10 #[.string s, .slice a n c] w fun e w' => ∃ ts : List ByteArray, ts.length ≤ 600 ∧ RowTo w 9 1 (ts.map Value.string) e w' := by
  obtain ⟨i0, hi, hz0, hz1, hz2⟩ := info_parts Try.infoStrL
  unfold maxLen at hs
  have HA := Lib.hid h; have HL := Lib.hid hl
  clear h hl
  by_cases hbig : 600 < s.size
  · go_enter Try.func10, Try.ntmps10
    go_wp2_with fail
    go_ret2
    exact ⟨[], Nat.zero_le _, rowTo_nil rfl (Below.refl _ _)⟩
  · have hs6 : s.size ≤ 600 := by omega
    clear hbig
    go_enter Try.func10, Try.ntmps10
    go_wp2_with fail
    go_loopw [6, 7, 15] (fun v b i wr => ∃ (k q : Nat) (ts : List ByteArray), k ≤ n ∧ i = .int .i64 k ∧ b = .int .i64 q ∧ q ≤ s.size ∧ ts.length ≤ q ∧ Hid (wr.ownsRow w.heap.size 9 1 v ts.length (ts.map Value.string)) ∧ Hid (Below w.heap.size w wr)) (fun _ _ i _ => n - (intOf i).toNat)
    case atStart => exact ⟨0, 0, [], Nat.zero_le _, rfl, rfl, Nat.zero_le _, Nat.le_refl _, Lib.hid (World.ownsRow_nil _ _ _ _), Lib.hid (Below.refl _ _)⟩
    case round =>
      obtain ⟨k, q, ts, hk, rfl, rfl, hq, hts, HO, HB⟩ := hrel
      obtain ⟨b6, d6, rfl, -, -, -⟩ := lo_shape HO.out
      by_cases hlt : k < n
      · obtain ⟨A, bb, oo, ss, u, rfl, hA, hu, hc⟩ := (HA.out.keep HB.out).one hlt
        have hkl : k < l.length := by rw [HL.out]; exact hlt
        rw [List.getElem?_map, List.getElem?_eq_getElem hkl] at hu
        obtain rfl := Option.some.inj hu
        generalize l[k] = y at *
        clear hu
        by_cases h1 : y ≤ (q : Int)
        · go_wp2_with fail
          go_ret2
          exact ⟨[], Nat.zero_le _, rowTo_nil rfl HB.out⟩
        · by_cases h2 : (s.size : Int) < y
          · have h1' : ¬ y ≤ (q : Int) := h1
            go_wp2_with fail
            go_ret2
            exact ⟨[], Nat.zero_le _, rowTo_nil rfl HB.out⟩
          · obtain ⟨z, rfl⟩ : ∃ z : Nat, y = (z : Int) := ⟨y.toNat, by omega⟩
            have hqz : q < z := by omega
            have hzs : z ≤ s.size := by omega
            have x1 := sl_str Try.underlying9 (s := s) (x := (q : Int)) (y := (z : Int)) (a := q) (b := z) rfl rfl (by omega) hzs
            obtain ⟨T, hT⟩ : ∃ T, s.extract q z = T := ⟨_, rfl⟩
            rw [hT] at x1
            have H2 : Hid ((wr.alloc (.cells #[.string T] 9)).ownsRow w.heap.size 9 1 (.slice b6 ts.length d6) ts.length (ts.map Value.string)) := Lib.hid (HO.out.alloc _)
            have H3 : Hid (∀ j x, [Value.string T][j]? = some x → (wr.alloc (.cells #[.string T] 9)).cell? ((⟨wr.heap.size, 0, none⟩ : Addr).add j) = some x) := Lib.hid fun j x h => cell_one_new wr (.string T) 9 j x h
            have H4 : Hid (∀ x ∈ [Value.string T], x.oneCell' = true) := Lib.hid (by intro x hx; simp at hx; subst hx; rfl)
            have hbsz := HB.out.size
            have hb1 : ts.length + 1 ≤ maxLen := by unfold maxLen; omega
            have hb2 : (ts.length + 1) * 16 ≤ 140737488355328 := by omega
            have hb3 : w.heap.size ≤ (wr.alloc (.cells #[.string T] 9)).heap.size := by rw [World.size_alloc]; omega
            clear hT h1 h2
            go_wp2_with (at_builtin; refine wpList_append_lies _ rfl _ _ _ rfl w.heap.size 9 i0 (.string ⟨#[]⟩) 1 16 Try.underlying23 hi hz0 hz1 hz2 rfl (by decide) (.slice b6 ts.length d6) ts.length _ rfl H2.out ⟨wr.heap.size, 0, none⟩ 1 1 [.string T] rfl rfl H3.out H4.out (by decide) hb1 hb2 hb3 _ rfl ?_)
            intro g' cap' wq q1 q2 q3 q4
            have HB' : Hid (Below w.heap.size w wq) := Lib.hid ((HB.out.alloc hbsz _).grown q2 hb3 fun k hk => lo_base HO.out k hk)
            have HR : Hid (wq.ownsRow w.heap.size 9 1 (.slice (some ⟨g', 0, none⟩) (ts.length + 1) cap') (ts ++ [T]).length ((ts ++ [T]).map Value.string)) := Lib.hid (by rw [List.length_append, List.map_append]; exact q1)
            clear q1 q2 q3 q4 H2 H3 H4 hb3 hc
            go_wp2_with fail
            go_roundw
            case rel => exact ⟨k + 1, z, ts ++ [T], hlt, by go_num, rfl, hzs, by rw [List.length_append, List.length_singleton]; omega, HR, HB'⟩
            case measure => simp [intOf]; omega
      · obtain rfl : k = n := by omega
        by_cases hqs : q = s.size
        · subst hqs
          go_wp2_with fail
          go_ret2
          exact ⟨ts, by omega, rowTo_of rfl HO.out HB.out⟩
        · have hne : ((q : Int) != (s.size : Int)) = true := bne_iff_ne.2 (by omega)
          go_wp2_with fail
          go_ret2
          exact ⟨[], Nat.zero_le _, rowTo_nil rfl HB.out⟩

end Go.Proofs.Ytnbdceigenndfaa
