/- PackSizes: encoded sizes of bytes and copies; for every input. -/
import Derived.Test.YtdmfgdhfkceihaaPkW
import Derived.Test.YtdmfgdhfkceihaaShut
import Derived.Deep.RegionHeld3
namespace Go.Proofs.Ytdmfgdhfkceihaa
open Go.RowKit

theorem conv_one (c : UInt8) (w : World) : (convert 43 9 (.slice (some ⟨w.heap.size, 0, none⟩) 1 1)).run Try.prog (w.alloc (.cells #[.int .u8 c.toNat] 5)) = .ok (.string ⟨#[c]⟩) (w.alloc (.cells #[.int .u8 c.toNat] 5)) := by
  have := run_convert_bytes_back (P := Try.prog) (w.alloc (.cells #[.int .u8 c.toNat] 5)) 43 9 5 ⟨w.heap.size, 0, none⟩ 1 [c] Try.underlying43 Try.underlying5 Try.underlying9 (fun j hj => by
    obtain rfl : j = 0 := by simpa using hj
    rw [addr_lit0]; exact cell_new w (k := 0) rfl)
  exact this

set_option maxRecDepth 100000 in
set_option maxHeartbeats 1000000 in
/-- As many digits as there are. -/
theorem Digits_len (n : Nat) (w : World) (hn : n ≤ 1000000) :
    Calls Try.prog 19 #[.int .i64 n] w fun e w' => ∃ s : ByteArray, e = .returned (.string s) ∧ s.size = G.L n ∧ Below w.heap.size w w' := by
  obtain ⟨L, hL⟩ : ∃ L, L = G.L n := ⟨_, rfl⟩
  have hL20 : L ≤ 20 := by rw [hL]; exact G.L_le.2 (by omega)
  rw [← hL]
  have HL := Lib.hid hL
  clear hL
  go_enter Try.func19, Try.ntmps19
  go_wp2_with fail
  go_loopw [0, 3] (fun x v wr => ∃ (m : Nat) (s : ByteArray), m ≤ 1000000 ∧ x = .int .i64 m ∧ v = .string s ∧ s.size ≤ 20 ∧ Hid (s.size + G.L m = L) ∧ Hid (Below w.heap.size w wr)) (fun x _ _ => (intOf x).toNat)
  case atStart => exact ⟨n, ⟨#[]⟩, hn, rfl, rfl, by decide, Lib.hid (by rw [HL.out]; show 0 + _ = _; omega), Lib.hid (Below.refl _ _)⟩
  case round =>
    obtain ⟨m, s, hm, rfl, rfl, hs, hA, hB⟩ := hrel
    by_cases h0 : 0 < m
    · have hm2 : (m : Int) / 2 = ((m / 2 : Nat) : Int) := by omega
      have hq : Int.tdiv (m : Int) 2 = ((m / 2 : Nat) : Int) := by rw [Int.tdiv_eq_ediv_of_nonneg (by omega)]; exact hm2
      have hr : Int.tmod (m : Int) 2 = ((m % 2 : Nat) : Int) := by rw [Int.tmod_eq_emod_of_nonneg (by omega)]; omega
      have hLh := G.L_half (b := m) (by omega)
      obtain ⟨r, hr2⟩ : ∃ r, m % 2 = r := ⟨_, rfl⟩
      have hr3 : r < 2 := by omega
      obtain ⟨h, hh⟩ : ∃ h, m / 2 = h := ⟨_, rfl⟩
      rw [hr2] at hr
      rw [hh] at hq hm2 hLh
      have hemod : (m : Int) % 2 = (r : Int) := by omega
      have ix := idx_str Try.underlying9 (s := ⟨#[48, 49]⟩) (x := (r : Int)) (k := r) rfl hr3
      have hbt : bt (⟨#[48, 49]⟩ : ByteArray).data.toList r = (((⟨#[48, 49]⟩ : ByteArray).data.toList.getD r 0).toNat : Int) := rfl
      rw [hbt] at ix
      generalize (⟨#[48, 49]⟩ : ByteArray).data.toList.getD r 0 = c at *
      have hcv := conv_one c wr
      clear hbt
      obtain ⟨V, hV⟩ : ∃ V : ByteArray, V = (⟨#[c]⟩ : ByteArray) ++ s := ⟨_, rfl⟩
      have hVs : V.size = s.size + 1 := by rw [hV, ByteArray.size_append]; have : (⟨#[c]⟩ : ByteArray).size = 1 := rfl; omega
      have hA2 : V.size + G.L h = L := by rw [hVs]; have := hA.out; omega
      have hV20 : V.size ≤ 20 := by omega
      have hcs : (⟨#[c]⟩ : ByteArray).size = 1 := rfl
      have HA2 := Lib.hid hA2
      have HV := Lib.hid hV
      clear hV hA2 hLh hq hVs
      go_wp2_with fail
      go_roundw
      case rel => exact ⟨h, V, by omega, by first | rfl | go_num, by rw [HV.out], hV20, HA2, Lib.hid (hB.out.alloc hB.out.size _)⟩
      case measure => simp [intOf]; omega
    · obtain rfl : m = 0 := by omega
      have hz : s.size = L := by have := hA.out; rw [show G.L 0 = 0 from rfl] at this; omega
      go_wp2_with fail
      go_ret
      exact ⟨s, rfl, hz, hB.out⟩

theorem karg_lit4 (w : World) (T : TypeId) (ts : List Lz.Tk) (cs : Array Value) (n : Nat) (hcs : cs = (kv ts).toArray) (hn : ts.length = n) (hm : n ≤ maxLen) : KArg (w.alloc (.cells cs T)) (some ⟨w.heap.size, 0, none⟩) n n ts := ⟨fun _ => ⟨_, rfl, fun j t hj => by
    obtain ⟨k1, k2, k3⟩ := kv_get hj
    rw [addr_lit0, addr_lit0, addr_lit0]
    subst hcs
    exact ⟨cell_new w (by simpa using k1), cell_new w (by simpa using k2), cell_new w (by simpa using k3)⟩⟩, hn, Nat.le_refl _, hm⟩

theorem Bits_two (w : World) (T : TypeId) (R : ByteArray) (hR : R = ⟨(Pk.bits [⟨0, 0, 97⟩, ⟨1, 3, 0⟩]).toArray⟩) : Calls Try.prog 18 #[.slice (some ⟨w.heap.size, 0, none⟩) 2 2] (w.alloc (.cells #[.int .i64 0, .int .i64 0, .int .i64 97, .int .i64 1, .int .i64 3, .int .i64 0] T)) fun e w' => e = .returned (.tuple #[.string R, .int .i64 0]) ∧ Below (w.alloc (.cells #[.int .i64 0, .int .i64 0, .int .i64 97, .int .i64 1, .int .i64 3, .int .i64 0] T)).heap.size (w.alloc (.cells #[.int .i64 0, .int .i64 0, .int .i64 97, .int .i64 1, .int .i64 3, .int .i64 0] T)) w' := by
  rw [hR]
  exact Bits_ok (some ⟨w.heap.size, 0, none⟩) 2 2 [⟨0, 0, 97⟩, ⟨1, 3, 0⟩] _ (karg_lit4 w T [⟨0, 0, 97⟩, ⟨1, 3, 0⟩] _ 2 rfl rfl (by decide)) (by kernel_rfl)

theorem kc_on {w V V' : World} {B : Nat} {d n : Int} (hb : Below V.heap.size V V') (h : V.cell? ⟨B, 0, none⟩ = some (.int .i64 d) ∧ V.cell? ⟨B, 1, none⟩ = some (.int .i64 n) ∧ Below w.heap.size w V ∧ B < V.heap.size) :
    V'.cell? ⟨B, 0, none⟩ = some (.int .i64 d) ∧ V'.cell? ⟨B, 1, none⟩ = some (.int .i64 n) ∧ Below w.heap.size w V' ∧ B < V'.heap.size := by
  obtain ⟨h0, h1, h2, h3⟩ := h
  exact ⟨(hb.cell (p := ⟨B, 0, none⟩) h3).trans h0, (hb.cell (p := ⟨B, 1, none⟩) h3).trans h1, h2.trans (hb.mono h2.size), Nat.lt_of_lt_of_le h3 hb.size⟩

set_option maxRecDepth 100000 in
set_option maxHeartbeats 4000000 in
theorem sizes_core (a : Option Addr) (n c : Nat) (ts : List Lz.Tk) (w : World) (hT : KArg w a n c ts) :
    Calls Try.prog 8 #[.slice a n c] w fun e w' => e = .returned (.bool true) ∧ Below w.heap.size w w' := by
  obtain ⟨R0, hR0⟩ : ∃ R : ByteArray, R = ⟨(Pk.bits [⟨0, 0, 97⟩, ⟨1, 3, 0⟩]).toArray⟩ := ⟨_, rfl⟩
  have K1 := fun w T => Bits_two w T R0 hR0
  have hR0s : R0.size = 14 := by rw [hR0]; kernel_rfl
  clear hR0
  have HT := Lib.hid hT
  by_cases hE : Lz.expE [] ts = 0
  · have X1 := fun (w1 : World) (h : KArg w1 a n c ts) => Bits_ok a n c ts w1 h hE
    have hok := Pk.expE_ok ts [] hE
    have hfew := Pk.few hE
    obtain ⟨R, hR⟩ : ∃ R : ByteArray, R = ⟨(Pk.bits ts).toArray⟩ := ⟨_, rfl⟩
    have hRs : R.size = Pk.sizes ts := by rw [hR]; show (List.toArray _).size = _; rw [List.size_toArray, Pk.bits_length ts hok]
    rw [← hR] at X1
    have hn : n ≤ 600 := by rw [← hT.len]; exact hfew.1
    have hRle : R.size ≤ 19200 := by omega
    have HOK := Lib.hid hok; have HRS := Lib.hid hRs; have HFEW := Lib.hid hfew
    clear hR hok hRs hfew hE hT
    go_enter Try.func8, Try.ntmps8
    go_wp2_with fail
    with_reducible refine (K1 _ _).mono ?_
    rintro e w1 ⟨rfl, hb1⟩
    have HB1 := Lib.hid ((((Below.refl _ w).alloc (Nat.le_refl _) (.cells #[.int .i64 0, .int .i64 0, .int .i64 97, .int .i64 1, .int .i64 3, .int .i64 0] 33))).trans (hb1.mono (by rw [World.size_alloc]; omega)))
    have X2 := X1 w1 (HT.out.keep HB1.out)
    clear hb1 X1 K1
    go_wp2_with fail
    with_reducible refine X2.mono ?_
    rintro e w2 ⟨rfl, hb2⟩
    have HB2 := Lib.hid (HB1.out.trans (hb2.mono HB1.out.size))
    clear X2 hb2
    go_wp2_with fail
    go_loopw [7, 35] (fun v x wr => ∃ j m : Nat, j ≤ n ∧ m ≤ 19200 ∧ x = .int .i64 j ∧ v = .int .i64 m ∧ Hid (Pk.sizes (ts.take j) = m) ∧ Hid (Below w.heap.size w wr)) (fun _ x _ => n - (intOf x).toNat)
    case atStart => exact ⟨0, 0, Nat.zero_le _, Nat.zero_le _, rfl, rfl, Lib.hid rfl, HB2⟩
    case round =>
      obtain ⟨j, m, hj, hm, rfl, rfl, hM, hB⟩ := hrel
      by_cases hlt : j < n
      · have hj' : j < ts.length := by rw [HT.out.len]; exact hlt
        have hne : ts ≠ [] := by rintro rfl; simp at hj'
        obtain ⟨x0, rfl, hc⟩ := (HT.out.keep hB.out).at_ hne
        obtain ⟨q1, q2, q3⟩ := hc j ts[j] (List.getElem?_eq_getElem hj')
        obtain ⟨yb, yo, ys, hy⟩ : ∃ b o s, x0.add (j * 3) = ⟨b, o, s⟩ := ⟨_, _, _, rfl⟩
        rw [← Go.Deep.add_add, hy, show (⟨yb, yo, ys⟩ : Addr).add 1 = ⟨yb, yo + 1, none⟩ from rfl] at q2
        rw [← Go.Deep.add_add, hy, show (⟨yb, yo, ys⟩ : Addr).add 2 = ⟨yb, yo + 2, none⟩ from rfl] at q3
        rw [hy] at q1
        have hparts := Lz.okT_parts (HOK.out ts[j] (List.getElem_mem hj'))
        have HST : Hid (Pk.sizes (ts.take (j + 1)) = m + Pk.sz ⟨ts[j].d, ts[j].n, ts[j].b⟩) := Lib.hid (by rw [Pk.sizes_take hj', hM.out])
        have hle : Pk.sizes (ts.take (j + 1)) ≤ 19200 := by
          have h1 := Pk.sizes_app (ts.take (j + 1)) (ts.drop (j + 1))
          rw [List.take_append_drop] at h1
          have := HFEW.out.2
          omega
        rw [HST.out] at hle
        clear hc hne
        generalize ts[j].d = D at *
        generalize ts[j].n = N at *
        generalize ts[j].b = Y at *
        rcases hparts with ⟨rfl, rfl, hY0, hY1⟩ | ⟨hN0, hN1, hD0, hD1, rfl⟩
        · have hsz : Pk.sz ⟨0, 0, Y⟩ = 9 := rfl
          rw [hsz] at hle
          have HST2 : Hid (Pk.sizes (ts.take (j + 1)) = m + 9) := Lib.hid HST.out
          clear hsz
          go_wp2_with fail
          go_roundw
          case rel => exact ⟨j + 1, m + 9, hlt, hle, by go_num, by go_num, HST2, Lib.hid (hB.out.alloc hB.out.size _)⟩
          case measure => simp [intOf]; omega
        · obtain ⟨M, rfl⟩ : ∃ M : Nat, N = (M : Int) := ⟨N.toNat, by omega⟩
          obtain ⟨Q, rfl⟩ : ∃ Q : Nat, D = (Q : Int) := ⟨D.toNat, by omega⟩
          have hsz : Pk.sz ⟨(Q : Int), (M : Int), 0⟩ = 1 + (2 * G.L Q - 1) + (2 * G.L M - 1) := if_neg (by show ¬ ((M : Int) = 0); omega)
          rw [hsz] at hle HST
          have e1 : G.L Q ≤ 9 := G.L_le.2 (by omega)
          have e2 : G.L M ≤ 7 := G.L_le.2 (by omega)
          have e3 : 0 < G.L Q := G.L_pos.2 (by omega)
          have e4 : 0 < G.L M := G.L_pos.2 (by omega)
          have D1 := fun w => Digits_len Q w (by omega)
          have D2 := fun w => Digits_len M w (by omega)
          obtain ⟨l1, hl1⟩ : ∃ l, G.L Q = l := ⟨_, rfl⟩
          obtain ⟨l2, hl2⟩ : ∃ l, G.L M = l := ⟨_, rfl⟩
          rw [hl1] at hle HST e1 e3 D1
          rw [hl2] at hle HST e2 e4 D2
          have HB0 := Lib.hid (hB.out.alloc hB.out.size (.cells #[.int .i64 Q, .int .i64 M, .int .i64 0] 33))
          obtain ⟨B0, hB0⟩ : ∃ B0, wr.heap.size = B0 := ⟨_, rfl⟩
          have hKB := kbox_new wr 33 Q M 0
          rw [hB0] at hKB
          obtain ⟨k0, k1, k2, k3⟩ := id hKB
          clear hsz hl1 hl2 hKB k2
          have hbb := HB0.out
          go_wp2_with fail
          go_region_held3 (fun V => V.cell? ⟨B0, 0, none⟩ = some (.int .i64 Q) ∧ V.cell? ⟨B0, 1, none⟩ = some (.int .i64 M) ∧ Below w.heap.size w V ∧ B0 < V.heap.size)
            (first
              | with_reducible exact ⟨by assumption, by assumption, by assumption, by assumption⟩
              | exact ⟨by assumption, by assumption, Below.drew (by assumption), by assumption⟩
              | (go_split_ands; exact kc_on hbs ⟨by assumption, by assumption, by assumption, by assumption⟩)
              | (go_split_ands; exact kc_on hbs ⟨by assumption, by assumption, Below.drew (by assumption), by assumption⟩)
              | go_keep)
            (first
              | (go_at_call 19; with_reducible refine (D1 _).mono ?_; rintro e ws ⟨s1, rfl, hs1, hbs⟩)
              | (go_at_call 19; with_reducible refine (D2 _).mono ?_; rintro e ws ⟨s2, rfl, hs2, hbs⟩))
          have u1 : IntKind.i64.wrap (2 * (l1 : Int)) = 2 * l1 := IntWalk.i64_in _ (by omega)
          have u2 : IntKind.i64.wrap (1 + 2 * (l1 : Int)) = 1 + 2 * l1 := IntWalk.i64_in _ (by omega)
          have u3 : IntKind.i64.wrap (1 + 2 * (l1 : Int) - 1) = 2 * l1 := by rw [show 1 + 2 * (l1 : Int) - 1 = 2 * l1 from by omega]; exact u1
          have u4 : IntKind.i64.wrap (2 * (l2 : Int)) = 2 * l2 := IntWalk.i64_in _ (by omega)
          have u5 : IntKind.i64.wrap (2 * (l1 : Int) + 2 * l2) = 2 * l1 + 2 * l2 := IntWalk.i64_in _ (by omega)
          have u6 : IntKind.i64.wrap (2 * (l1 : Int) + 2 * l2 - 1) = 2 * l1 + 2 * l2 - 1 := IntWalk.i64_in _ (by omega)
          have u7 : IntKind.i64.wrap ((m : Int) + (2 * (l1 : Int) + 2 * l2 - 1)) = ((m + (1 + (2 * l1 - 1) + (2 * l2 - 1)) : Nat) : Int) := by rw [IntWalk.i64_in _ (by omega)]; omega
          simp only [u1, u2, u3, u4, u5, u6, u7]
          go_wp2_with fail
          go_roundw
          case rel => exact ⟨j + 1, _, hlt, hle, by go_num, rfl, HST, Lib.hid (by first | assumption | (go_split_ands; assumption))⟩
          case measure => simp [intOf]; omega
      · obtain rfl : j = n := by omega
        have hmR : R.size = m := by
          rw [HRS.out, ← hM.out, List.take_of_length_le (by rw [HT.out.len]; exact Nat.le_refl _)]
        go_wp2_with fail
        go_ret
        exact ⟨by simp, hB.out⟩
  · have X1 := fun (w1 : World) (h : KArg w1 a n c ts) => Bits_bad a n c ts _ w1 h rfl hE
    have hb : (Lz.expE [] ts != 0) = true := bne_iff_ne.2 hE
    generalize Lz.expE [] ts = E at *
    go_enter Try.func8, Try.ntmps8
    go_wp2_with fail
    with_reducible refine (K1 _ _).mono ?_
    rintro e w1 ⟨rfl, hb1⟩
    have HB1 := Lib.hid ((((Below.refl _ w).alloc (Nat.le_refl _) (.cells #[.int .i64 0, .int .i64 0, .int .i64 97, .int .i64 1, .int .i64 3, .int .i64 0] 33))).trans (hb1.mono (by rw [World.size_alloc]; omega)))
    have X2 := X1 w1 (HT.out.keep HB1.out)
    clear hb1 X1 K1
    go_wp2_with fail
    with_reducible refine X2.mono ?_
    rintro e w2 ⟨rfl, hb2⟩
    have HB2 := Lib.hid (HB1.out.trans (hb2.mono HB1.out.size))
    clear X2 hb2
    go_wp2_with fail
    go_ret
    exact ⟨rfl, HB2.out⟩

theorem packSizes_walk (a : Option Addr) (n c : Nat) (ts : List Lz.Tk) (w : World) (h : IsRow3 w a n c ts) :
    Calls Try.prog 8 #[.slice a n c] w fun e w' => e = .returned (.bool true) ∧ Below w.heap.size w w' :=
  sizes_core a n c ts w (karg_of h)

end Go.Proofs.Ytdmfgdhfkceihaa
