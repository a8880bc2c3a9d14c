/- LzLength: lengths add up, and token lists concatenate; for every input within reach. -/
import Derived.Test.YtdmfgdhfkceihaaLzConL
import Derived.Deep.Slices
import Derived.Test.YtdmfgdhfkceihaaShelf
import Derived.Test.YtdmfgdhfkceihaaUse
namespace Go.Proofs.Ytdmfgdhfkceihaa
open Go.RowKit

section
open Go.Deep Go.ChangeShapes Go.WideShapes
theorem slice_len2 {H : Type} {enc : TypeId × Value → H} {P : Program} {w : World} {base : Nat} {spare : Nat → Bool} {held : Bool} {t e : TypeId} {fuel : Nat} {cs : List Value} {x : DataW H × List MemPlace} {a : Option Addr} {len cap : Nat}
    (ht : P.underlying t = some (.slice e)) (h : DataW.trod enc P w base spare held fuel t cs = some x) (hcs : cs = [.slice a len cap]) : len = 0 ∨ ∃ E S, x.1 = DataW.slice E S ∧ E.length = len := by
  rcases open_slice ht h with ⟨h0, _⟩ | ⟨a', len', cap', m, n, D, Pl, h0, -, -, -, -, hx, -⟩
  · rw [h0] at hcs
    simp at hcs
    exact Or.inl hcs.2.1.symm
  · rw [h0] at hcs
    simp at hcs
    obtain ⟨-, rfl, -⟩ := hcs
    exact Or.inr ⟨_, _, congrArg Prod.fst hx, by simp⟩
end

theorem karg_lit2 (w : World) (T : TypeId) (ts : List Lz.Tk) (cs : Array Value) (n : Nat) (hcs : cs = (kv ts).toArray) (hn : ts.length = n) (hm : n ≤ maxLen) : KArg (w.alloc (.cells cs T)) (some ⟨w.heap.size, 0, none⟩) n n ts := ⟨fun _ => ⟨_, rfl, fun j t hj => by
    obtain ⟨k1, k2, k3⟩ := kv_get hj
    rw [addr_lit0, addr_lit0, addr_lit0]
    subst hcs
    exact ⟨cell_new w (by simpa using k1), cell_new w (by simpa using k2), cell_new w (by simpa using k3)⟩⟩, hn, Nat.le_refl _, hm⟩

theorem expE_ok : ∀ (l : List Lz.Tk) (out : List UInt8), Lz.expE out l = 0 → ∀ t ∈ l, Lz.okT t = true
  | [], _, _, t, ht => by cases ht
  | t0 :: l, out, h, t, ht => by
    by_cases hc : Lz.codeT out t0 = 0
    · rw [Lz.expE_good hc] at h
      rcases List.mem_cons.1 ht with rfl | ht
      · exact (Lz.codeT_parts hc).1
      · exact expE_ok l _ h t ht
    · rw [Lz.expE_bad hc] at h; exact absurd h hc

theorem total_app : ∀ l m : List Lz.Tk, Lz.total (l ++ m) = Lz.total l + Lz.total m
  | [], m => by simp [Lz.total]
  | t :: l, m => by rw [List.cons_append, Lz.total, Lz.total, total_app l m]; omega

theorem total_take {l : List Lz.Tk} {j : Nat} (hj : j < l.length) : Lz.total (l.take (j + 1)) = Lz.total (l.take j) + Lz.lenT l[j] := by
  rw [List.take_succ_eq_append_getElem hj, total_app]; rfl

theorem total_take_le (l : List Lz.Tk) (j : Nat) : Lz.total (l.take j) ≤ Lz.total l := by
  have := total_app (l.take j) (l.drop j)
  rw [List.take_append_drop] at this
  omega

theorem Expand_aaaa (w : World) (T : TypeId) : Calls Try.prog 11 #[.slice (some ⟨w.heap.size, 0, none⟩) 2 2] (w.alloc (.cells #[.int .i64 0, .int .i64 0, .int .i64 97, .int .i64 1, .int .i64 3, .int .i64 0] T)) fun e w' => e = .returned (.tuple #[.string ⟨#[97, 97, 97, 97]⟩, .int .i64 0]) ∧ Below (w.alloc (.cells #[.int .i64 0, .int .i64 0, .int .i64 97, .int .i64 1, .int .i64 3, .int .i64 0] T)).heap.size (w.alloc (.cells #[.int .i64 0, .int .i64 0, .int .i64 97, .int .i64 1, .int .i64 3, .int .i64 0] T)) w' :=
  Expand_as (some ⟨w.heap.size, 0, none⟩) 2 2 [⟨0, 0, 97⟩, ⟨1, 3, 0⟩] [97, 97, 97, 97] 0 _ (karg_lit2 w T [⟨0, 0, 97⟩, ⟨1, 3, 0⟩] _ 2 rfl rfl (by decide)) (by kernel_rfl) (by kernel_rfl)

set_option maxRecDepth 100000 in
set_option maxHeartbeats 4000000 in
theorem length_core (a1 a2 : Option Addr) (n1 c1 n2 c2 : Nat) (t1 t2 : List Lz.Tk) (w : World) (h1 : KArg w a1 n1 c1 t1) (h2 : KArg w a2 n2 c2 t2) (z1 : a1 = none → n1 = 0 ∧ c1 = 0) (z2 : a2 = none → n2 = 0 ∧ c2 = 0) (hn1 : n1 * 24 ≤ 140737488351232) (hn2 : n2 * 24 ≤ 140737488351232) :
    Calls Try.prog 4 #[.slice a1 n1 c1, .slice a2 n2 c2] w fun e w' => e = .returned (.bool true) ∧ Below w.heap.size w w' := by
  have H1 := Lib.hid h1; have H2 := Lib.hid h2; have Z1 := Lib.hid z1; have Z2 := Lib.hid z2
  clear h1 h2 z1 z2
  obtain ⟨S, hS⟩ : ∃ S, Lz.expS [] t1 = S := ⟨_, rfl⟩
  obtain ⟨E, hE⟩ : ∃ E, Lz.expE [] t1 = E := ⟨_, rfl⟩
  obtain ⟨T, hT⟩ : ∃ T, Lz.expS [] (t1 ++ t2) = T := ⟨_, rfl⟩
  obtain ⟨F, hF⟩ : ∃ F, Lz.expE [] (t1 ++ t2) = F := ⟨_, rfl⟩
  have X1 := fun (w1 : World) (h : KArg w1 a1 n1 c1 t1) => Expand_as a1 n1 c1 t1 S E w1 h hE hS
  have X2 := fun (w1 : World) (a : Option Addr) (n c : Nat) (h : KArg w1 a n c (t1 ++ t2)) => Expand_as a n c (t1 ++ t2) T F w1 h hF hT
  by_cases hE0 : E = 0
  · subst hE0
    have hok := expE_ok t1 [] hE
    have htt : Lz.total t1 = S.length := by rw [← hS, Lz.expS_length t1 [] hE]; simp
    have hs6 : S.length ≤ 600 := by rw [← hS]; exact Lz.expS_le t1 [] (by simp)
    have HOK := Lib.hid hok; have HTT := Lib.hid htt
    clear hok htt
    by_cases hF0 : F = 0
    · subst hF0
      have hpre : S <+: T := by
        have h1 := hF
        rw [Lz.expE_append, if_pos hE, hS] at h1
        rw [← hT, Lz.expS_append t1 t2 [] hE, hS]
        exact Lz.expS_prefix t2 S h1
      have HPF : Ans1 13 #[.string ⟨T.toArray⟩, .string ⟨S.toArray⟩] (.bool true) := fun w => by
        refine (Try.strings_HasPrefix _ _ w).mono ?_
        rintro e w' ⟨rfl, rfl⟩
        exact ⟨by congr 2; exact List.isPrefixOf_iff_prefix.2 (by simpa using hpre), rfl⟩
      clear hS hE hT hF hpre
      go_enter Try.func4, Try.ntmps4
      go_wp2_with fail
      with_reducible refine (Expand_aaaa _ _).mono ?_
      rintro e w1 ⟨rfl, hb1⟩
      have HB1 := Lib.hid ((((Below.refl _ w).alloc (Nat.le_refl _) (.cells #[.int .i64 0, .int .i64 0, .int .i64 97, .int .i64 1, .int .i64 3, .int .i64 0] 33))).trans (hb1.mono (by rw [World.size_alloc]; omega)))
      clear hb1
      have X3 := X1 w1 (H1.out.keep HB1.out)
      clear X1
      go_wp2_with fail
      with_reducible refine X3.mono ?_
      rintro e w2 ⟨rfl, hb2⟩
      have HB2 := Lib.hid (HB1.out.trans (hb2.mono HB1.out.size))
      clear X3 hb2
      have hb3 : Below w.heap.size w (w2.alloc (.cells #[.slice a1 n1 c1, .slice a2 n2 c2] 30)) := HB2.out.alloc HB2.out.size _
      have C1 := Concat2_L w2.heap.size 2 n1 c1 n2 c2 a1 a2 t1 t2 (w2.alloc (.cells #[.slice a1 n1 c1, .slice a2 n2 c2] 30)) (by rw [World.size_alloc]; omega) (cell_new w2 (k := 0) rfl) (cell_new w2 (k := 1) rfl) (H1.out.keep hb3) (H2.out.keep hb3) Z1.out Z2.out hn1 hn2
      have HB3 := Lib.hid hb3
      clear hb3
      go_wp2_with fail
      with_reducible refine C1.mono ?_
      rintro e w4 ⟨v4, rfl, ho4, hb4⟩
      have HB4 := Lib.hid (HB3.out.trans (hb4.mono HB3.out.size))
      obtain ⟨a4, c4, rfl, hk4⟩ := karg_own ho4 (by rw [List.length_append, H1.out.len, H2.out.len])
      have X4 := X2 _ _ _ _ hk4
      clear C1 hb4 ho4 hk4 X2
      go_wp2_with fail
      with_reducible refine X4.mono ?_
      rintro e w5 ⟨rfl, hb5⟩
      have HB5 := Lib.hid (HB4.out.trans (hb5.mono HB4.out.size))
      clear X4 hb5
      go_wp2_with fail
      go_loopw [11, 55] (fun v x wr => ∃ (j k : Nat), j ≤ n1 ∧ k ≤ 600 ∧ x = .int .i64 j ∧ v = .int .i64 k ∧ Hid (Lz.total (t1.take j) = k) ∧ Hid (Below w.heap.size w wr)) (fun _ x _ => n1 - (intOf x).toNat)
      case atStart => exact ⟨0, 0, Nat.zero_le _, Nat.zero_le _, rfl, rfl, Lib.hid rfl, HB5⟩
      case round =>
        obtain ⟨j, k, hj, hk6, rfl, rfl, hK, hB⟩ := hrel
        by_cases hlt : j < n1
        · have hj' : j < t1.length := by rw [H1.out.len]; exact hlt
          have hne : t1 ≠ [] := by rintro rfl; simp at hj'
          obtain ⟨x0, rfl, hc⟩ := (H1.out.keep hB.out).at_ hne
          obtain ⟨q1, q2, q3⟩ := hc j t1[j] (List.getElem?_eq_getElem hj')
          obtain ⟨yb, yo, ys, hy⟩ : ∃ b o s, x0.add (j * 3) = ⟨b, o, s⟩ := ⟨_, _, _, rfl⟩
          rw [← Go.Deep.add_add, hy, show (⟨yb, yo, ys⟩ : Addr).add 1 = ⟨yb, yo + 1, none⟩ from rfl] at q2
          rw [← Go.Deep.add_add, hy, show (⟨yb, yo, ys⟩ : Addr).add 2 = ⟨yb, yo + 2, none⟩ from rfl] at q3
          rw [hy] at q1
          have hok := Lz.okT_parts (HOK.out t1[j] (List.getElem_mem hj'))
          have htt := total_take hj'
          have hle := total_take_le t1 (j + 1)
          rw [HTT.out, htt, hK.out] at hle
          have hlen : Lz.lenT t1[j] = if t1[j].n = 0 then 1 else t1[j].n.toNat := rfl
          rw [hK.out] at htt
          clear hc hne
          generalize Lz.lenT t1[j] = L at *
          generalize t1[j].d = D at *
          generalize t1[j].n = N at *
          generalize t1[j].b = Y at *
          have hLN : (L : Int) = if 1 < N then N else 1 := by
            rw [hlen]; split <;> split <;> omega
          have hKL : Hid (Lz.total (t1.take (j + 1)) = k + L) := Lib.hid htt
          have hL6 : k + L ≤ 600 := by omega
          have hN64 : 0 ≤ N ∧ N ≤ 64 := by omega
          clear hok htt hle hlen
          by_cases hN1 : 1 < N
          · rw [if_pos hN1] at hLN
            obtain rfl := hLN.symm
            go_wp2_with fail
            go_roundw
            case rel => exact ⟨j + 1, k + L, hlt, hL6, by go_num, by go_num, hKL, Lib.hid (hB.out.alloc hB.out.size _)⟩
            case measure => simp [intOf]; omega
          · rw [if_neg hN1] at hLN
            obtain rfl : L = 1 := by omega
            go_wp2_with fail
            go_roundw
            case rel => exact ⟨j + 1, k + 1, hlt, hL6, by go_num, by go_num, hKL, Lib.hid (hB.out.alloc hB.out.size _)⟩
            case measure => simp [intOf]; omega
        · obtain rfl : j = n1 := by omega
          have hk9 : k = S.length := by
            have := hK.out
            rw [List.take_of_length_le (by rw [H1.out.len]; exact Nat.le_refl _)] at this
            rw [← this]; exact HTT.out
          subst hk9
          have hsz : (⟨S.toArray⟩ : ByteArray).size = S.length := str_size S
          generalize (⟨S.toArray⟩ : ByteArray) = SB at *
          generalize (⟨T.toArray⟩ : ByteArray) = TB at *
          go_wp2_with fail
          with_reducible refine HPF.use ?_
          rintro e w' ⟨rfl, rfl⟩
          go_wp2_with fail
          go_ret
          exact ⟨by simp, hB.out⟩
    · have hFb : (F != 0) = true := bne_iff_ne.2 hF0
      clear hS hE hT hF
      go_enter Try.func4, Try.ntmps4
      go_wp2_with fail
      with_reducible refine (Expand_aaaa _ _).mono ?_
      rintro e w1 ⟨rfl, hb1⟩
      have HB1 := Lib.hid ((((Below.refl _ w).alloc (Nat.le_refl _) (.cells #[.int .i64 0, .int .i64 0, .int .i64 97, .int .i64 1, .int .i64 3, .int .i64 0] 33))).trans (hb1.mono (by rw [World.size_alloc]; omega)))
      clear hb1
      have X3 := X1 w1 (H1.out.keep HB1.out)
      clear X1
      go_wp2_with fail
      with_reducible refine X3.mono ?_
      rintro e w2 ⟨rfl, hb2⟩
      have HB2 := Lib.hid (HB1.out.trans (hb2.mono HB1.out.size))
      clear X3 hb2
      have hb3 : Below w.heap.size w (w2.alloc (.cells #[.slice a1 n1 c1, .slice a2 n2 c2] 30)) := HB2.out.alloc HB2.out.size _
      have C1 := Concat2_L w2.heap.size 2 n1 c1 n2 c2 a1 a2 t1 t2 (w2.alloc (.cells #[.slice a1 n1 c1, .slice a2 n2 c2] 30)) (by rw [World.size_alloc]; omega) (cell_new w2 (k := 0) rfl) (cell_new w2 (k := 1) rfl) (H1.out.keep hb3) (H2.out.keep hb3) Z1.out Z2.out hn1 hn2
      have HB3 := Lib.hid hb3
      clear hb3
      go_wp2_with fail
      with_reducible refine C1.mono ?_
      rintro e w4 ⟨v4, rfl, ho4, hb4⟩
      have HB4 := Lib.hid (HB3.out.trans (hb4.mono HB3.out.size))
      obtain ⟨a4, c4, rfl, hk4⟩ := karg_own ho4 (by rw [List.length_append, H1.out.len, H2.out.len])
      have X4 := X2 _ _ _ _ hk4
      clear C1 hb4 ho4 hk4 X2
      go_wp2_with fail
      with_reducible refine X4.mono ?_
      rintro e w5 ⟨rfl, hb5⟩
      have HB5 := Lib.hid (HB4.out.trans (hb5.mono HB4.out.size))
      clear X4 hb5
      go_wp2_with fail
      go_loopw [11, 55] (fun v x wr => ∃ (j k : Nat), j ≤ n1 ∧ k ≤ 600 ∧ x = .int .i64 j ∧ v = .int .i64 k ∧ Hid (Lz.total (t1.take j) = k) ∧ Hid (Below w.heap.size w wr)) (fun _ x _ => n1 - (intOf x).toNat)
      case atStart => exact ⟨0, 0, Nat.zero_le _, Nat.zero_le _, rfl, rfl, Lib.hid rfl, HB5⟩
      case round =>
        obtain ⟨j, k, hj, hk6, rfl, rfl, hK, hB⟩ := hrel
        by_cases hlt : j < n1
        · have hj' : j < t1.length := by rw [H1.out.len]; exact hlt
          have hne : t1 ≠ [] := by rintro rfl; simp at hj'
          obtain ⟨x0, rfl, hc⟩ := (H1.out.keep hB.out).at_ hne
          obtain ⟨q1, q2, q3⟩ := hc j t1[j] (List.getElem?_eq_getElem hj')
          obtain ⟨yb, yo, ys, hy⟩ : ∃ b o s, x0.add (j * 3) = ⟨b, o, s⟩ := ⟨_, _, _, rfl⟩
          rw [← Go.Deep.add_add, hy, show (⟨yb, yo, ys⟩ : Addr).add 1 = ⟨yb, yo + 1, none⟩ from rfl] at q2
          rw [← Go.Deep.add_add, hy, show (⟨yb, yo, ys⟩ : Addr).add 2 = ⟨yb, yo + 2, none⟩ from rfl] at q3
          rw [hy] at q1
          have hok := Lz.okT_parts (HOK.out t1[j] (List.getElem_mem hj'))
          have htt := total_take hj'
          have hle := total_take_le t1 (j + 1)
          rw [HTT.out, htt, hK.out] at hle
          have hlen : Lz.lenT t1[j] = if t1[j].n = 0 then 1 else t1[j].n.toNat := rfl
          rw [hK.out] at htt
          clear hc hne
          generalize Lz.lenT t1[j] = L at *
          generalize t1[j].d = D at *
          generalize t1[j].n = N at *
          generalize t1[j].b = Y at *
          have hLN : (L : Int) = if 1 < N then N else 1 := by
            rw [hlen]; split <;> split <;> omega
          have hKL : Hid (Lz.total (t1.take (j + 1)) = k + L) := Lib.hid htt
          have hL6 : k + L ≤ 600 := by omega
          have hN64 : 0 ≤ N ∧ N ≤ 64 := by omega
          clear hok htt hle hlen
          by_cases hN1 : 1 < N
          · rw [if_pos hN1] at hLN
            obtain rfl := hLN.symm
            go_wp2_with fail
            go_roundw
            case rel => exact ⟨j + 1, k + L, hlt, hL6, by go_num, by go_num, hKL, Lib.hid (hB.out.alloc hB.out.size _)⟩
            case measure => simp [intOf]; omega
          · rw [if_neg hN1] at hLN
            obtain rfl : L = 1 := by omega
            go_wp2_with fail
            go_roundw
            case rel => exact ⟨j + 1, k + 1, hlt, hL6, by go_num, by go_num, hKL, Lib.hid (hB.out.alloc hB.out.size _)⟩
            case measure => simp [intOf]; omega
        · obtain rfl : j = n1 := by omega
          have hk9 : k = S.length := by
            have := hK.out
            rw [List.take_of_length_le (by rw [H1.out.len]; exact Nat.le_refl _)] at this
            rw [← this]; exact HTT.out
          subst hk9
          have hsz : (⟨S.toArray⟩ : ByteArray).size = S.length := str_size S
          generalize (⟨S.toArray⟩ : ByteArray) = SB at *
          go_wp2_with fail
          go_ret
          exact ⟨by simp, hB.out⟩
  · have hFE : F = E := by rw [← hF, Lz.expE_append, if_neg (by rw [hE]; exact hE0), hE]
    have hS0 : S = [] := by rw [← hS]; exact Lz.expS_wrong t1 [] (by rw [hE]; exact hE0)
    have hT0 : T = [] := by rw [← hT]; exact Lz.expS_wrong (t1 ++ t2) [] (by rw [hF, hFE]; exact hE0)
    subst hFE hS0 hT0
    have hEb : (F != 0) = true := bne_iff_ne.2 hE0
    clear hS hE hT hF
    go_enter Try.func4, Try.ntmps4
    go_wp2_with fail
    with_reducible refine (Expand_aaaa _ _).mono ?_
    rintro e w1 ⟨rfl, hb1⟩
    have HB1 := Lib.hid ((((Below.refl _ w).alloc (Nat.le_refl _) (.cells #[.int .i64 0, .int .i64 0, .int .i64 97, .int .i64 1, .int .i64 3, .int .i64 0] 33))).trans (hb1.mono (by rw [World.size_alloc]; omega)))
    clear hb1
    have X3 := X1 w1 (H1.out.keep HB1.out)
    clear X1
    go_wp2_with fail
    with_reducible refine X3.mono ?_
    rintro e w2 ⟨rfl, hb2⟩
    have HB2 := Lib.hid (HB1.out.trans (hb2.mono HB1.out.size))
    clear X3 hb2
    have hb3 : Below w.heap.size w (w2.alloc (.cells #[.slice a1 n1 c1, .slice a2 n2 c2] 30)) := HB2.out.alloc HB2.out.size _
    have C1 := Concat2_L w2.heap.size 2 n1 c1 n2 c2 a1 a2 t1 t2 (w2.alloc (.cells #[.slice a1 n1 c1, .slice a2 n2 c2] 30)) (by rw [World.size_alloc]; omega) (cell_new w2 (k := 0) rfl) (cell_new w2 (k := 1) rfl) (H1.out.keep hb3) (H2.out.keep hb3) Z1.out Z2.out hn1 hn2
    have HB3 := Lib.hid hb3
    clear hb3
    go_wp2_with fail
    with_reducible refine C1.mono ?_
    rintro e w4 ⟨v4, rfl, ho4, hb4⟩
    have HB4 := Lib.hid (HB3.out.trans (hb4.mono HB3.out.size))
    obtain ⟨a4, c4, rfl, hk4⟩ := karg_own ho4 (by rw [List.length_append, H1.out.len, H2.out.len])
    have X4 := X2 _ _ _ _ hk4
    clear C1 hb4 ho4 hk4 X2
    go_wp2_with fail
    with_reducible refine X4.mono ?_
    rintro e w5 ⟨rfl, hb5⟩
    have HB5 := Lib.hid (HB4.out.trans (hb5.mono HB4.out.size))
    clear X4 hb5
    go_wp2_with fail
    go_ret
    exact ⟨rfl, HB5.out⟩

theorem nil_of3 {w : World} {a : Option Addr} {n c : Nat} {ts : List Lz.Tk} (h : IsRow3 w a n c ts) : a = none → n = 0 ∧ c = 0 := by
  rintro rfl
  rcases h with ⟨-, h1, h2, -⟩ | ⟨x, h, -⟩
  · exact ⟨h1, h2⟩
  · cases h

theorem lzLength_walk (a1 : Option Addr) (n1 c1 : Nat) (t1 : List Lz.Tk) (a2 : Option Addr) (n2 c2 : Nat) (t2 : List Lz.Tk) (w : World) (h1 : IsRow3 w a1 n1 c1 t1) (b1 : n1 * 24 ≤ 140737488351232) (h2 : IsRow3 w a2 n2 c2 t2) (b2 : n2 * 24 ≤ 140737488351232) :
    Calls Try.prog 4 #[.slice a1 n1 c1, .slice a2 n2 c2] w fun e w' => e = .returned (.bool true) ∧ Below w.heap.size w w' :=
  length_core a1 a2 n1 c1 n2 c2 t1 t2 w (karg_of h1) (karg_of h2) (nil_of3 h1) (nil_of3 h2) b1 b2

end Go.Proofs.Ytdmfgdhfkceihaa
