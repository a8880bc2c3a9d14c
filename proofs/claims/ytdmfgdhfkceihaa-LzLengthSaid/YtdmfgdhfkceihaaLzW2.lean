/- The walk of lz.Expand: what tokens make. -/
import Derived.Test.YtdmfgdhfkceihaaLzW
namespace Go.Proofs.Ytdmfgdhfkceihaa
open Go.RowKit

theorem addr_lit0 (b j : Nat) : (⟨b, 0, none⟩ : Addr).add j = ⟨b, j, none⟩ := by unfold Addr.add; split <;> simp_all

theorem own_lt {w : World} {base : Nat} {e : TypeId} {size : Nat} {v : Value} {n : Nat} {xs : List Value} (h : w.ownsRow base e size v n xs) : ∀ k, v.ownBlock = some k → k < w.heap.size := by
  intro k hk
  rcases h.2 with ⟨rfl, _⟩ | ⟨g, cap, cur, rfl, hb, hh, _⟩
  · cases hk
  · cases hk; exact (Array.getElem?_eq_some_iff.1 hh).1

/-- The three cells of a token's box. -/
def KBox (w : World) (B : Nat) (d n b : Int) : Prop := w.cell? ⟨B, 0, none⟩ = some (.int .i64 d) ∧ w.cell? ⟨B, 1, none⟩ = some (.int .i64 n) ∧ w.cell? ⟨B, 2, none⟩ = some (.int .i64 b) ∧ B < w.heap.size

theorem KBox.on {w w' : World} {B : Nat} {d n b : Int} (h : KBox w B d n b) (hb : Below w.heap.size w w') : KBox w' B d n b :=
  ⟨(hb.cell (p := ⟨B, 0, none⟩) h.2.2.2).trans h.1, (hb.cell (p := ⟨B, 1, none⟩) h.2.2.2).trans h.2.1, (hb.cell (p := ⟨B, 2, none⟩) h.2.2.2).trans h.2.2.1, Nat.lt_of_lt_of_le h.2.2.2 hb.size⟩

theorem kbox_new (w : World) (T : TypeId) (d n b : Int) : KBox (w.alloc (.cells #[.int .i64 d, .int .i64 n, .int .i64 b] T)) w.heap.size d n b :=
  ⟨cell_new w (k := 0) rfl, cell_new w (k := 1) rfl, cell_new w (k := 2) rfl, by rw [World.size_alloc]; exact Nat.lt_succ_self _⟩

theorem KBox.grew {w w' : World} {B : Nat} {d n b : Int} {row : Option Nat} (h : KBox w B d n b) (hg : w.grownBy w' row) (hs : w.heap.size ≤ w'.heap.size) (hr : ∀ k, row = some k → k ≠ B) : KBox w' B d n b := by
  have hne : some B ≠ row := fun e => hr B e.symm rfl
  exact ⟨(hg.cell_far ⟨B, 0, none⟩ h.2.2.2 hne).trans h.1, (hg.cell_far ⟨B, 1, none⟩ h.2.2.2 hne).trans h.2.1, (hg.cell_far ⟨B, 2, none⟩ h.2.2.2 hne).trans h.2.2.1, Nat.lt_of_lt_of_le h.2.2.2 hs⟩

/-- A row of bytes is no token's box. -/
theorem own_nobox {w : World} {base B g c : Nat} {e : TypeId} {m : Nat} {l : List UInt8} {d n b : Int} (h : w.ownsRow base e 1 (.slice (some ⟨g, 0, none⟩) m c) m (bv l)) (hm : 0 < l.length) (hB : KBox w B d n b) : g ≠ B := by
  rintro rfl
  have h1 := h.cells (g := g) rfl 0 (.int .u8 (l[0].toNat : Int)) (by simp [bv, hm])
  rw [show (⟨g, 0, none⟩ : Addr).add 0 = ⟨g, 0, none⟩ from rfl, hB.1] at h1
  cases h1

theorem codeT_eq (out : List UInt8) (m : Nat) (d n b : Int) (hm : out.length = m) :
    Lz.codeT out ⟨d, n, b⟩ = if Lz.okT ⟨d, n, b⟩ = false then 1 else if (m : Int) < d then 3 else if 600 < m + Lz.lenT ⟨d, n, b⟩ then 2 else 0 := by
  unfold Lz.codeT; rw [hm]

set_option maxRecDepth 100000 in
set_option maxHeartbeats 4000000 in
theorem Expand_K (a : Option Addr) (n c : Nat) (ts : List Lz.Tk) (w : World) (hT : KArg w a n c ts) :
    Calls Try.prog 11 #[.slice a n c] w fun e w' => e = .returned (.tuple #[.string ⟨(Lz.expS [] ts).toArray⟩, .int .i64 (Lz.expE [] ts)]) ∧ Below w.heap.size w w' := by
  obtain ⟨i0, hi, hz0, hz1, hz2⟩ := info_parts Try.infoU8
  have hn : n ≤ 9223372036854775807 := by have := hT.cap; have := hT.max; unfold maxLen at this; omega
  have HT := Lib.hid hT
  clear hT
  go_enter Try.func11, Try.ntmps11
  go_wp2_with fail
  go_loopw [4, 9] (fun v i wr => ∃ (k : Nat) (g : Option Addr) (cp m : Nat) (out : List UInt8), k ≤ n ∧ m ≤ 600 ∧ i = .int .i64 k ∧ v = .slice g m cp ∧ Hid (wr.ownsRow w.heap.size 5 1 (.slice g m cp) m (bv out)) ∧ Hid (out.length = m) ∧ Hid (Lz.expE [] ts = Lz.expE out (ts.drop k) ∧ Lz.expS [] ts = Lz.expS out (ts.drop k)) ∧ Hid (Below w.heap.size w wr)) (fun _ i _ => n - (intOf i).toNat)
  case atStart => exact ⟨0, none, 0, 0, [], Nat.zero_le _, Nat.zero_le _, rfl, rfl, Lib.hid (World.ownsRow_nil _ _ _ _), Lib.hid rfl, Lib.hid ⟨rfl, rfl⟩, Lib.hid (Below.refl _ _)⟩
  case round =>
    obtain ⟨k, g, cp, m, out, hk, hm, rfl, rfl, hown, hlen, hE, hB⟩ := hrel
    by_cases hlt : k < n
    · have hk' : k < ts.length := by rw [HT.out.len]; exact hlt
      have hne : ts ≠ [] := by rintro rfl; simp at hk'
      obtain ⟨x0, rfl, hc⟩ := (HT.out.keep hB.out).at_ hne
      obtain ⟨c1, c2, c3⟩ := hc k ts[k] (List.getElem?_eq_getElem hk')
      obtain ⟨yb, yo, ys, hy⟩ : ∃ b o s, x0.add (k * 3) = ⟨b, o, s⟩ := ⟨_, _, _, rfl⟩
      rw [← Go.Deep.add_add, hy, show (⟨yb, yo, ys⟩ : Addr).add 1 = ⟨yb, yo + 1, none⟩ from rfl] at c2
      rw [← Go.Deep.add_add, hy, show (⟨yb, yo, ys⟩ : Addr).add 2 = ⟨yb, yo + 2, none⟩ from rfl] at c3
      rw [hy] at c1
      have HE : Hid (Lz.expE [] ts = Lz.expE out (⟨ts[k].d, ts[k].n, ts[k].b⟩ :: ts.drop (k + 1)) ∧ Lz.expS [] ts = Lz.expS out (⟨ts[k].d, ts[k].n, ts[k].b⟩ :: ts.drop (k + 1))) := Lib.hid (by
        have := hE.out
        rw [List.drop_eq_getElem_cons hk'] at this
        exact this)
      clear hc hne hE
      generalize ts[k].d = D at *
      generalize ts[k].n = N at *
      generalize ts[k].b = B at *
      have hcode := codeT_eq out m D N B hlen.out
      rcases hok : Lz.okT ⟨D, N, B⟩ with _ | _
      · have O1 := fun w => one_K D N B false hok w
        rw [if_pos hok] at hcode
        have HR : Hid (Lz.expE [] ts = 1 ∧ Lz.expS [] ts = []) := Lib.hid (by rw [HE.out.1, HE.out.2, Lz.expE_bad (by rw [hcode]; decide), Lz.expS_bad (by rw [hcode]; decide)]; exact ⟨hcode, rfl⟩)
        clear hcode hok
        go_wp2_with fail
        with_reducible refine (O1 _).mono ?_
        rintro e w2 ⟨rfl, hb2⟩
        have HB2 : Hid (Below w.heap.size w w2) := Lib.hid ((hB.out.alloc hB.out.size _).trans (hb2.mono (hB.out.alloc hB.out.size _).size))
        clear hb2
        go_wp2_with fail
        go_ret2
        exact ⟨by rw [HR.out.1, HR.out.2]; rfl, HB2.out⟩
      · have O1 := fun w => one_K D N B true hok w
        have hparts := Lz.okT_parts hok
        rw [if_neg (by rw [hok]; decide)] at hcode
        dsimp only at hparts
        clear hok
        by_cases hd : (m : Int) < D
        · rw [if_pos hd] at hcode
          have HR : Hid (Lz.expE [] ts = 3 ∧ Lz.expS [] ts = []) := Lib.hid (by rw [HE.out.1, HE.out.2, Lz.expE_bad (by rw [hcode]; decide), Lz.expS_bad (by rw [hcode]; decide)]; exact ⟨hcode, rfl⟩)
          clear hcode hparts
          go_wp2_with fail
          with_reducible refine (O1 _).mono ?_
          rintro e w2 ⟨rfl, hb2⟩
          have HB2 : Hid (Below w.heap.size w w2) := Lib.hid ((hB.out.alloc hB.out.size _).trans (hb2.mono (hB.out.alloc hB.out.size _).size))
          have b0 : w2.cell? ⟨wr.heap.size, 0, none⟩ = some (.int .i64 D) := by
            rw [hb2.cell (p := ⟨wr.heap.size, 0, none⟩) (by rw [World.size_alloc]; exact Nat.lt_succ_self _)]; exact cell_new wr (k := 0) rfl
          clear hb2
          go_wp2_with fail
          go_ret2
          exact ⟨by rw [HR.out.1, HR.out.2]; rfl, HB2.out⟩
        · rw [if_neg hd] at hcode
          by_cases hl : 600 < m + Lz.lenT ⟨D, N, B⟩
          · rw [if_pos hl] at hcode
            have HR : Hid (Lz.expE [] ts = 2 ∧ Lz.expS [] ts = []) := Lib.hid (by rw [HE.out.1, HE.out.2, Lz.expE_bad (by rw [hcode]; decide), Lz.expS_bad (by rw [hcode]; decide)]; exact ⟨hcode, rfl⟩)
            have hN1 : 0 ≤ N ∧ N ≤ 64 := by omega
            have hmx : 600 < (m : Int) + (if 1 < N then N else 1) := by
              unfold Lz.lenT at hl
              dsimp only at hl
              split at hl <;> split <;> omega
            clear hcode hparts hl
            go_wp2_with fail
            with_reducible refine (O1 _).mono ?_
            rintro e w2 ⟨rfl, hb2⟩
            have HB2 : Hid (Below w.heap.size w w2) := Lib.hid ((hB.out.alloc hB.out.size _).trans (hb2.mono (hB.out.alloc hB.out.size _).size))
            have b0 : w2.cell? ⟨wr.heap.size, 0, none⟩ = some (.int .i64 D) := by
              rw [hb2.cell (p := ⟨wr.heap.size, 0, none⟩) (by rw [World.size_alloc]; exact Nat.lt_succ_self _)]; exact cell_new wr (k := 0) rfl
            have b1 : w2.cell? ⟨wr.heap.size, 1, none⟩ = some (.int .i64 N) := by
              rw [hb2.cell (p := ⟨wr.heap.size, 1, none⟩) (by rw [World.size_alloc]; exact Nat.lt_succ_self _)]; exact cell_new wr (k := 1) rfl
            clear hb2
            go_wp2_with fail
            all_goals
              go_ret2
              exact ⟨by rw [HR.out.1, HR.out.2]; rfl, HB2.out⟩
          · rw [if_neg hl] at hcode
            have HR : Hid (Lz.expE [] ts = Lz.expE (Lz.addT out ⟨D, N, B⟩) (ts.drop (k + 1)) ∧ Lz.expS [] ts = Lz.expS (Lz.addT out ⟨D, N, B⟩) (ts.drop (k + 1))) := Lib.hid (by rw [HE.out.1, HE.out.2, Lz.expE_good hcode, Lz.expS_good hcode]; exact ⟨rfl, rfl⟩)
            rcases hparts with ⟨rfl, rfl, hB0, hB1⟩ | ⟨hN0, hN1, hD0, hD1, rfl⟩
            · have HA : Hid (Lz.addT out ⟨0, 0, B⟩ = out ++ [UInt8.ofNat B.toNat]) := Lib.hid rfl
              have hm1 : m + 1 ≤ 600 := by unfold Lz.lenT at hl; simp at hl; omega
              have hbv : ((UInt8.ofNat B.toNat).toNat : Int) = B := by rw [UInt8.toNat_ofNat']; omega
              have HBV := Lib.hid hbv
              clear hcode hl hbv
              go_wp2_with fail
              with_reducible refine (O1 _).mono ?_
              rintro e w2 ⟨rfl, hb2⟩
              have hb02 := (hB.out.alloc hB.out.size (.cells #[.int .i64 0, .int .i64 0, .int .i64 B] 33)).size
              have HB2 : Hid (Below w.heap.size w w2) := Lib.hid ((hB.out.alloc hB.out.size _).trans (hb2.mono hb02))
              have hK2 := (kbox_new wr 33 0 0 B).on hb2
              obtain ⟨b0, b1, b2, b3⟩ := id hK2
              have hbase := row_base hown.out
              have hown2 : (w2.alloc (.cells #[.int .u8 B] 5)).ownsRow w.heap.size 5 1 (.slice g m cp) m (bv out) := (own_keep (hown.out.alloc _) hb2).alloc _
              have hcell2 : ∀ j x, [Value.int .u8 B][j]? = some x → (w2.alloc (.cells #[.int .u8 B] 5)).cell? ((⟨w2.heap.size, 0, none⟩ : Addr).add j) = some x := fun j x h => cell_one_new w2 (.int .u8 B) 5 j x h
              have hone : ∀ x ∈ [Value.int .u8 B], x.oneCell' = true := by intro x hx; simp at hx; subst hx; rfl
              have hbsz := HB2.out.size
              have hm9 : m + 1 ≤ maxLen := by unfold maxLen; omega
              have hm2 : (m + 1) * 1 ≤ 140737488355328 := by omega
              have hm3 : w.heap.size ≤ (w2.alloc (.cells #[.int .u8 B] 5)).heap.size := by rw [World.size_alloc]; omega
              have H2 := Lib.hid hown2; have H3 := Lib.hid hcell2; have H4 := Lib.hid hone
              clear hown2 hcell2 hone hb2 hb02 O1 c1 c2 c3
              go_wp2_with (at_builtin; refine wpList_append_lies _ rfl _ _ _ rfl w.heap.size 5 i0 (.int .u8 0) 1 1 Try.underlying43 hi hz0 hz1 hz2 rfl (by decide) (.slice g m cp) m _ rfl H2.out ⟨w2.heap.size, 0, none⟩ 1 1 [.int .u8 B] rfl rfl H3.out H4.out (by decide) hm9 hm2 hm3 _ rfl ?_)
              intro g' cap' wq q1 q2 q3 q4
              have hsq : w2.heap.size + 1 ≤ wq.heap.size := by have := q2.size; rw [World.size_alloc] at this; exact this
              have HB' : Hid (Below w.heap.size w wq) := Lib.hid ((HB2.out.alloc hbsz _).grown q2 hm3 hbase)
              have HR2 : Hid (wq.ownsRow w.heap.size 5 1 (.slice (some ⟨g', 0, none⟩) (m + 1) cap') (m + 1) (bv (out ++ [UInt8.ofNat B.toNat]))) := Lib.hid (by rw [bv_snoc, HBV.out]; exact q1)
              have hK3 : KBox wq wr.heap.size 0 0 B := (hK2.on ((Below.refl _ _).alloc (Nat.le_refl _) _)).grew q2 q2.size (fun k hk => Nat.ne_of_lt (own_lt hown.out k hk))
              obtain ⟨b0, b1, b2, b3⟩ := id hK3
              clear q1 q2 q3 q4 H2 H3 H4 hm3 hbase hown hB hsq hK2 hbsz
              go_wp2_with fail
              go_loopw [4, 39] (fun v i wx => v = .slice (some ⟨g', 0, none⟩) (m + 1) cap' ∧ i = .int .i64 0 ∧ wx = wq) (fun _ _ _ => 0)
              case atStart => exact ⟨rfl, rfl, rfl⟩
              case round =>
                obtain ⟨rfl, rfl, rfl⟩ := hrel
                go_wp2_with fail
                go_roundw
                case rel => exact ⟨k + 1, some ⟨g', 0, none⟩, cap', m + 1, out ++ [UInt8.ofNat B.toNat], hlt, hm1, by go_num, rfl, HR2, Lib.hid (by rw [List.length_append, hlen.out]; rfl), Lib.hid (by rw [HR.out.1, HR.out.2, HA.out]; exact ⟨rfl, rfl⟩), HB'⟩
                case measure => simp [intOf]; omega
            · obtain ⟨W0, rfl⟩ : ∃ W0 : World, W0 = wr := ⟨_, rfl⟩
              obtain ⟨N', rfl⟩ : ∃ N' : Nat, N = (N' : Int) := ⟨N.toNat, by omega⟩
              obtain ⟨D', rfl⟩ : ∃ D' : Nat, D = (D' : Int) := ⟨D.toNat, by omega⟩
              have hNe : ¬ ((N' : Int) = 0) := by omega
              have HA : Hid (Lz.addT out ⟨D', N', 0⟩ = Lz.copyB D' N' out) := Lib.hid (by unfold Lz.addT; rw [if_neg hNe]; rfl)
              have hlm : m + N' ≤ 600 := by unfold Lz.lenT at hl; dsimp only at hl; rw [if_neg hNe] at hl; omega
              have hn0 : 0 < N' := by omega
              have hn64 : N' ≤ 64 := by omega
              have hd1 : 1 ≤ D' := by omega
              have hdm : D' ≤ m := by omega
              have g1 : decide (600 < (m : Int) + (if 1 < (N' : Int) then (N' : Int) else 1)) = false := by
                rw [decide_eq_false_iff_not]; split <;> omega
              clear hcode hl hd hN0 hN1 hD0 hD1
              go_wp2_with fail
              with_reducible refine (O1 _).mono ?_
              rintro e w2 ⟨rfl, hb2⟩
              have hb02 := (hB.out.alloc hB.out.size (.cells #[.int .i64 D', .int .i64 N', .int .i64 0] 33)).size
              have HB2 : Hid (Below w.heap.size w w2) := Lib.hid ((hB.out.alloc hB.out.size _).trans (hb2.mono hb02))
              have hK2 := (kbox_new W0 33 D' N' 0).on hb2
              obtain ⟨b0, b1, b2, b3⟩ := id hK2
              have HK2 := Lib.hid hK2
              have HO2 : Hid (w2.ownsRow w.heap.size 5 1 (.slice g m cp) m (bv out)) := Lib.hid (own_keep (hown.out.alloc _) hb2)
              clear hb2 hb02 O1 c1 c2 c3 hK2 hown hB
              go_wp2_with fail
              all_goals
                clear b0 b1 b2
                go_loopw [4, 39] (fun v i wx => ∃ (j : Nat) (g1 : Option Addr) (cp1 q : Nat), j ≤ N' ∧ q ≤ 600 ∧ m + j = q ∧ i = .int .i64 j ∧ v = .slice g1 q cp1 ∧ Hid (wx.ownsRow w.heap.size 5 1 (.slice g1 q cp1) q (bv (Lz.copyB D' j out))) ∧ Hid (Below w.heap.size w wx) ∧ Hid (KBox wx W0.heap.size D' N' 0)) (fun _ i _ => N' - (intOf i).toNat)
                case atStart => exact ⟨0, g, cp, m, Nat.zero_le _, hm, rfl, rfl, rfl, HO2, HB2, HK2⟩
                case round =>
                  obtain ⟨j, gx, cp1, q, hj, hq6, hq, rfl, rfl, hO, hBx, hKx⟩ := hrel
                  by_cases hjl : j < N'
                  · have hlx : (Lz.copyB D' j out).length = q := by rw [Lz.copyB_length, hlen.out]; exact hq
                    have hsx := Lz.copyB_succ D' j out
                    generalize Lz.copyB D' j out = X at *
                    rcases hO.out.2 with ⟨hnil, hz⟩ | ⟨g1, cap, cur, hv, _⟩
                    · exfalso; omega
                    · cases hv
                      obtain ⟨t, ht⟩ : ∃ t, t = q - D' := ⟨_, rfl⟩
                      have hti : (q : Int) - (D' : Int) = (t : Int) := by omega
                      have htq : t < q := by omega
                      have hw1 : IntKind.i64.wrap ((q : Int) - (D' : Int)) = (t : Int) := by rw [hti]; exact IntWalk.i64_in _ (by omega)
                      have hld : wr.cell? ⟨g1, t, none⟩ = some (.int .u8 ((X.getD t 0).toNat : Int)) := by
                        have := hO.out.cells (g := g1) rfl t (.int .u8 (X[t]'(by omega)).toNat) (by simp [bv, show t < X.length by omega])
                        rw [addr_lit0] at this
                        rw [this, List.getD_eq_getElem?_getD, List.getElem?_eq_getElem (by omega)]
                        rfl
                      obtain ⟨b0, b1, b2, b3⟩ := id hKx.out
                      have hxs : Hid (Lz.copyB D' (j + 1) out = X ++ [X.getD t 0]) := Lib.hid (by rw [hsx, hlx, ht])
                      have hxl := (X.getD t 0).toNat_lt
                      have HLX := Lib.hid hlx
                      clear hsx ht hlx
                      generalize X.getD t 0 = y at *
                      have hne := own_nobox hO.out (by rw [HLX.out]; omega) hKx.out
                      have hbase := row_base hO.out
                      have hown2 : (wr.alloc (.cells #[.int .u8 (y.toNat : Int)] 5)).ownsRow w.heap.size 5 1 (.slice (some ⟨g1, 0, none⟩) q cp1) q (bv X) := hO.out.alloc _
                      have hcell2 : ∀ j x, [Value.int .u8 (y.toNat : Int)][j]? = some x → (wr.alloc (.cells #[.int .u8 (y.toNat : Int)] 5)).cell? ((⟨wr.heap.size, 0, none⟩ : Addr).add j) = some x := fun j x h => cell_one_new wr (.int .u8 (y.toNat : Int)) 5 j x h
                      have hone : ∀ x ∈ [Value.int .u8 (y.toNat : Int)], x.oneCell' = true := by intro x hx; simp at hx; subst hx; rfl
                      have hbsz := hBx.out.size
                      have hm9 : q + 1 ≤ maxLen := by unfold maxLen; omega
                      have hm2 : (q + 1) * 1 ≤ 140737488355328 := by omega
                      have hm3 : w.heap.size ≤ (wr.alloc (.cells #[.int .u8 (y.toNat : Int)] 5)).heap.size := by rw [World.size_alloc]; omega
                      have H2 := Lib.hid hown2; have H3 := Lib.hid hcell2; have H4 := Lib.hid hone
                      clear hown2 hcell2 hone
                      have hyn := y.toNat_lt
                      have HBY : Hid (bv (X ++ [y]) = bv X ++ [.int .u8 (y.toNat : Int)]) := Lib.hid (bv_snoc X y)
                      go_wp2_with (at_builtin; refine wpList_append_lies _ rfl _ _ _ rfl w.heap.size 5 i0 (.int .u8 0) 1 1 Try.underlying43 hi hz0 hz1 hz2 rfl (by decide) (.slice (some ⟨g1, 0, none⟩) q cp1) q _ rfl H2.out ⟨wr.heap.size, 0, none⟩ 1 1 [.int .u8 (y.toNat : Int)] rfl rfl H3.out H4.out (by decide) hm9 hm2 hm3 _ rfl ?_)
                      intro g' cap' wq q1 q2 q3 q4
                      have HB' : Hid (Below w.heap.size w wq) := Lib.hid ((hBx.out.alloc hbsz _).grown q2 hm3 hbase)
                      have HR2 : Hid (wq.ownsRow w.heap.size 5 1 (.slice (some ⟨g', 0, none⟩) (q + 1) cap') (q + 1) (bv (Lz.copyB D' (j + 1) out))) := Lib.hid (by rw [hxs.out, HBY.out]; exact q1)
                      have hK3 : Hid (KBox wq W0.heap.size D' N' 0) := Lib.hid ((hKx.out.on ((Below.refl _ _).alloc (Nat.le_refl _) _)).grew q2 q2.size (fun k hk => by cases hk; exact hne))
                      clear q1 q2 q3 q4 H2 H3 H4 hm3 hbase hbsz
                      go_wp2_with fail
                      go_roundw
                      case rel => exact ⟨j + 1, some ⟨g', 0, none⟩, cap', q + 1, hjl, by omega, by omega, by go_num, rfl, HR2, HB', hK3⟩
                      case measure => simp [intOf]; omega
                  · obtain rfl : j = N' := by omega
                    go_wp2_with fail
                    go_roundw
                    case rel => exact ⟨k + 1, gx, cp1, q, Lz.copyB D' j out, hlt, hq6, by go_num, rfl, hO, Lib.hid (by rw [Lz.copyB_length, hlen.out]; exact hq), Lib.hid (by rw [HR.out.1, HR.out.2, HA.out]; exact ⟨rfl, rfl⟩), hBx⟩
                    case measure => simp [intOf]; omega
    · obtain rfl : k = n := by omega
      have HR : Hid (Lz.expE [] ts = 0 ∧ Lz.expS [] ts = out) := Lib.hid (by
        have := hE.out
        rw [List.drop_of_length_le (by rw [HT.out.len]; exact Nat.le_refl _)] at this
        exact this)
      rcases hown.out.2 with ⟨hnil, hz⟩ | ⟨g1, cap, cur, hv, _⟩
      · cases hnil
        have hcv := Lib.run_convert_nil_bytes (P := Try.prog) wr 43 9 5 0 Try.underlying43 Try.underlying5 Try.underlying9
        have HO : Hid (out = []) := Lib.hid (List.length_eq_zero_iff.1 hlen.out)
        clear hz
        go_wp2_with fail
        go_ret2
        exact ⟨by rw [HR.out.1, HR.out.2, HO.out]; rfl, hB.out⟩
      · cases hv
        have hcells : ∀ (j : Nat) (hj : j < out.length), wr.cell? ((⟨g1, 0, none⟩ : Addr).add j) = some (.int .u8 (out[j].toNat : Int)) := fun j hj => hown.out.cells (g := g1) rfl j _ (by simp [bv, hj])
        have hcv := run_convert_bytes_back (P := Try.prog) wr 43 9 5 ⟨g1, 0, none⟩ cp out Try.underlying43 Try.underlying5 Try.underlying9 hcells
        rw [hlen.out] at hcv
        clear hcells
        go_wp2_with fail
        go_ret2
        exact ⟨by rw [HR.out.1, HR.out.2]; rfl, hB.out⟩

end Go.Proofs.Ytdmfgdhfkceihaa
