import Derived.Test.YtenkdpogdfcbgaaSkS
import Derived.Test.YtenkdpogdfcbgaaArgsR
import Derived.Test.YtenkdpogdfcbgaaShelf
/- SegKeeps: what is cleaned keeps all that is live, for every input. -/
namespace Go.Proofs.Ytenkdpogdfcbgaa.Sg
open Go.Proofs.Ytenkdpogdfcbgaa

def rA : R := ⟨⟨true, 353, 0⟩, Bg.tA⟩
theorem fits_two : fits [rA, rA] = [[rA, rA]] := by kernel_rfl
theorem used_two : usedL Bg.twoL [[rA, rA]] = [9] := by kernel_rfl
theorem full_le {l : List (List R)} (h : Good l) (k : Nat) : full (l.take k).flatten ≤ 3200 := by
  have h1 : ∀ m : List (List R), (∀ s ∈ m, SOk s) → full m.flatten ≤ m.length * 200 := fun m hm => by
    induction m with
    | nil => simp [full]
    | cons s m ih =>
      rw [List.flatten_cons, full_app, List.length_cons]
      have h2 := (hm s List.mem_cons_self).room
      have h3 := ih fun t ht => hm t (List.mem_cons_of_mem _ ht)
      omega
  have h2 := h1 (l.take k) fun s hs => h.seg s (List.mem_of_mem_take hs)
  have h3 := h.len
  rw [List.length_take] at h2
  omega
theorem full_step {l : List (List R)} {k : Nat} {s : List R} (h : l[k]? = some s) : full (l.take (k + 1)).flatten = full (l.take k).flatten + full s := by
  obtain ⟨h1, h2⟩ := List.getElem?_eq_some_iff.1 h
  rw [List.take_succ_eq_append_getElem h1, List.flatten_append, h2, full_app]
  simp

end Go.Proofs.Ytenkdpogdfcbgaa.Sg

namespace Go.Proofs.Ytenkdpogdfcbgaa
open Go.RowKit

theorem eg_sum : ∀ args w, (callFunc 96 args).run Try.prog w = .ok (.enter 96 args) w := enters_of Try.func96 (by kernel_rfl) rfl

set_option maxRecDepth 100000 in
set_option maxHeartbeats 16000000 in
theorem segKeeps_walk (a0 : Option Addr) (len0 cap0 : Nat) (t0 : List Sg.R) (a1 : Option Addr) (len1 cap1 : Nat) (t1 : List Bg.It) (w : World) (w0 : RArg w a0 len0 cap0 t0) (w1 : IArg w a1 len1 cap1 t1) :
    Calls Try.prog 13 #[.slice a0 len0 cap0, .slice a1 len1 cap1] w fun e w' => e = .returned (.bool true) ∧ Below w.heap.size w w' := by
  have HA := Lib.hid w0
  have HI := Lib.hid w1.1
  have HT := Lib.hid w1.2.1
  have K0 := two_I w
  clear w0 w1
  go_enter Try.func13, Try.ntmps13
  go_wp2_with fail
  with_reducible refine K0.mono ?_
  rintro e v1 ⟨xa, xc, rfl, ho, hb⟩
  have hx := own_isl ho rfl
  have HX1 := Lib.hid hx
  have HB1 := Lib.hid hb
  obtain ⟨A, ab, ao, as_, rfl, hA, c0, c1, c2, c3⟩ := hx.get (k := 0) (by decide)
  have hxc := hx.cap
  clear K0 ho hb hx
  rw [show Bg.twoL[0].sum = 353 from rfl] at c0
  rw [show Bg.twoL[0].text = Bg.tA from rfl] at c2
  rw [show A.add (0 * 4) = A.add 0 from rfl] at hA
  have hbz : Below v1.heap.size v1 (v1.alloc (.cells #[.bool false, .int .i64 0, .int .i64 0, .string ⟨#[]⟩] 36)).drew := ((Below.refl v1.heap.size v1).alloc (Nat.le_refl _) _).drew
  have d0 := (hbz.cell (World.block_lt_of_cell? v1 _ c0)).trans c0
  have d2 := (hbz.cell (World.block_lt_of_cell? v1 _ c2)).trans c2
  clear hbz
  go_wp2_with fail
  go_region
  go_wp2_with fail
  clear c0 c1 c2 c3 d0 d2 hA
  have hrow : ((v1.alloc (.cells #[.bool true, .int .i64 353, .int .i64 0, .string Bg.tA] 36)).alloc (.cells #[.bool true, .int .i64 353, .int .i64 0, .string Bg.tA, .bool true, .int .i64 353, .int .i64 0, .string Bg.tA] 36)).ownsRow (v1.alloc (.cells #[.bool true, .int .i64 353, .int .i64 0, .string Bg.tA] 36)).heap.size 36 4 (.slice (some ⟨(v1.alloc (.cells #[.bool true, .int .i64 353, .int .i64 0, .string Bg.tA] 36)).heap.size, 0, none⟩) 2 2) 2 (ev [Sg.rA, Sg.rA]) := World.ownsRow_lit _ #[.bool true, .int .i64 353, .int .i64 0, .string Bg.tA, .bool true, .int .i64 353, .int .i64 0, .string Bg.tA] 2 (Nat.le_refl _) (by unfold maxLen; decide) rfl
  rw [World.size_alloc] at hrow
  obtain ⟨W5, hW5⟩ : ∃ W5, ((v1.alloc (.cells #[.bool true, .int .i64 353, .int .i64 0, .string Bg.tA] 36)).alloc (.cells #[.bool true, .int .i64 353, .int .i64 0, .string Bg.tA, .bool true, .int .i64 353, .int .i64 0, .string Bg.tA] 36)).drew = W5 := ⟨_, rfl⟩
  have hb5 : Below v1.heap.size v1 W5 := by rw [← hW5]; exact (((Below.refl v1.heap.size v1).alloc (Nat.le_refl _) _).alloc (by rw [World.size_alloc]; omega) _).drew
  have K1 := fits_E (some ⟨v1.heap.size + 1, 0, none⟩) 2 2 [Sg.rA, Sg.rA] W5 (by rw [← hW5]; exact (rsl_own hrow).keep (Below.drew (Below.refl _ _))) (by omega)
  rw [Sg.fits_two] at K1
  have HB5 := Lib.hid (HB1.out.trans (hb5.mono HB1.out.size))
  have HX5 := Lib.hid (HX1.out.keep hb5)
  rw [hW5]
  clear hrow hb5 hW5 HX1 HB1
  with_reducible refine K1.mono ?_
  rintro e v2 ⟨b1, m1, d1, z1, rfl, hs, hb⟩
  obtain rfl : m1 = 1 := hs.len.symm
  have HB2 := Lib.hid (HB5.out.trans (hb.mono HB5.out.size))
  have K2 := Live_E b1 1 d1 _ z1 [[Sg.rA, Sg.rA]] (some A) 2 xc Bg.twoL v2 hs (by rw [← Sg.fits_two]; exact Sg.fits_good _) (HX5.out.keep hb) (fun t ht => by have := (Bg.one_fit (two_good.one t ht)).2.1; unfold maxLen; omega)
  rw [two_check, if_pos rfl, Sg.used_two] at K2
  clear K1 hs hb HX5 HB5
  go_wp2_with fail
  with_reducible refine K2.mono ?_
  rintro e v3 ⟨b2, m2, d2, rfl, ho, hb⟩
  obtain rfl : m2 = 1 := by
    have h1 : (iv [9]).length = m2 * 1 := ho.1
    have h2 : (iv [9]).length = 1 := rfl
    omega
  have HB3 := Lib.hid (HB2.out.trans (hb.mono HB2.out.size))
  obtain ⟨g2, cap2, hv, -, -⟩ := ho.form (by omega)
  cases hv
  have hbz : Below v3.heap.size v3 (v3.alloc (.cells #[.int .i64 9] 3)) := (Below.refl v3.heap.size v3).alloc (Nat.le_refl _) _
  have K3 := Try.slices_Equal_int g2 0 1 d2 v3.heap.size 0 1 1 [9] [9] (v3.alloc (.cells #[.int .i64 9] 3)) (by decide) (by decide) (by decide) (by decide) (fun j hj => by
    obtain rfl : j = 0 := by simp at hj; exact hj
    have h1 := (own_keep ho hbz).cells (g := g2) rfl 0 (.int .i64 9) rfl
    rw [addr_lit] at h1
    exact h1) (fun j hj => by
    obtain rfl : j = 0 := by simp at hj; exact hj
    exact cell_new v3 rfl)
  have HBZ := Lib.hid (HB3.out.trans (hbz.mono HB3.out.size))
  clear K2 ho hb hbz HB2
  go_wp2_with fail
  with_reducible refine K3.mono ?_
  rintro e w3 ⟨rfl, q3, rfl⟩
  rw [show (([9] : List Int).take 1 == [9].take 1) = true from rfl]
  have HB4 := Lib.hid (below_drewN HBZ.out q3)
  clear K3 HBZ HB3
  generalize (v3.alloc (.cells #[.int .i64 9] 3)).drewN q3 = v4 at *
  have K4 := fits_E a0 len0 cap0 t0 v4 (HA.out.1.keep HB4.out) (by have := HA.out.2.1; unfold maxLen at this; exact this)
  go_wp2_with fail
  with_reducible refine K4.mono ?_
  rintro e v5 ⟨b5, n, d5, zs, rfl, hs, hb⟩
  have HG := Lib.hid (Sg.fits_good t0)
  generalize Sg.fits t0 = l at *
  have HB5 := Lib.hid (HB4.out.trans (hb.mono HB4.out.size))
  have HS5 := Lib.hid hs
  have HI5 := Lib.hid (HI.out.keep HB5.out)
  clear K4 hs hb HB4 HA
  obtain ⟨E, hE⟩ : ∃ E, Bg.checkE Bg.Pr t1 = E := ⟨_, rfl⟩
  have K5 := Live_E b5 n d5 _ zs l a1 len1 cap1 t1 v5 HS5.out HG.out HI5.out HT.out
  rw [hE] at K5
  by_cases hE0 : E = 0
  · subst hE0
    rw [if_pos rfl] at K5
    have HBG := Lib.hid (Bg.check_good hE)
    have hcl := Sg.clean_is (l := l) HBG.out
    by_cases hn : n = 0
    · subst hn
      rw [if_pos HS5.out.len] at hcl
      clear hE
      go_wp2_with fail
      with_reducible refine K5.mono ?_
      rintro e v6 ⟨ub, um, ud, rfl, -, hb⟩
      have HB6 := Lib.hid (HB5.out.trans (hb.mono HB5.out.size))
      have K6 := Clean_E b5 0 d5 _ zs l a1 len1 cap1 t1 v6 (HS5.out.keep hb) HG.out (HI5.out.keep hb) HT.out
      rw [hcl] at K6
      clear K5 hb
      go_wp2_with fail
      with_reducible refine K6.mono ?_
      rintro e v7 ⟨cb, cm, cd, cz, rfl, hs, hb⟩
      obtain rfl : cm = 0 := hs.len.symm
      have HB7 := Lib.hid (HB6.out.trans (hb.mono HB6.out.size))
      clear K6 hs hb
      go_wp2_with fail
      go_ret
      exact ⟨rfl, HB7.out⟩
    · rw [if_neg (by rw [HS5.out.len]; exact hn)] at hcl
      have hlt := Sg.best_lt (b := t1) (l := l) (by rw [HS5.out.len]; exact hn)
      have hgd : Sg.Good (Sg.cleanR t1 l).l := Sg.clean_good HG.out
      rw [hcl] at hgd
      have HCF : Hid (Sg.full (Sg.cleanL t1 l (Sg.best (Sg.usedL t1 l))).flatten ≤ Sg.full l.flatten) := Lib.hid (Sg.clean_full HG.out hlt)
      have HCN : Hid ((Sg.cleanL t1 l (Sg.best (Sg.usedL t1 l))).length ≤ l.length) := Lib.hid (Sg.clean_flat HG.out hlt).2
      have HCP : Hid ((Sg.alive t1 l.flatten).Perm (Sg.alive t1 (Sg.cleanL t1 l (Sg.best (Sg.usedL t1 l))).flatten)) := Lib.hid (Sg.alive_perm fun r hr => Sg.clean_mem HG.out hlt hr)
      have HG2 : Hid (Sg.Good (Sg.cleanL t1 l (Sg.best (Sg.usedL t1 l)))) := Lib.hid hgd
      clear hgd hlt
      generalize Sg.cleanL t1 l (Sg.best (Sg.usedL t1 l)) = l2 at *
      have HCS : Hid ((Sg.usedL t1 l2).sum = (Sg.usedL t1 l).sum) := Lib.hid (by rw [Sg.used_sum, Sg.used_sum, Sg.full_perm HCP.out])
      have HSB : Hid ((Sg.usedL t1 l).sum ≤ 1000000) := Lib.hid (by
        rw [Sg.used_sum]
        have h1 := Sg.live_le t1 l.flatten []
        have h2 := Sg.full_le HG.out l.length
        rw [List.take_of_length_le (Nat.le_refl _)] at h2
        unfold Sg.alive
        omega)
      clear hE
      go_wp2_with fail
      with_reducible refine K5.mono ?_
      rintro e v6 ⟨ub, um, ud, rfl, ho, hb⟩
      have HB6 := Lib.hid (HB5.out.trans (hb.mono HB5.out.size))
      have HS6 := Lib.hid (HS5.out.keep hb)
      have HI6 := Lib.hid (HI5.out.keep hb)
      have HU6 := Lib.hid ho
      have K6 := Clean_E b5 n d5 _ zs l a1 len1 cap1 t1 v6 HS6.out HG.out HI6.out HT.out
      rw [hcl] at K6
      clear K5 hb ho hcl HS5 HI5
      go_wp2_with fail
      with_reducible refine K6.mono ?_
      rintro e v7 ⟨cb, cm, cd, cz, rfl, hs, hb⟩
      dsimp only at hs
      dsimp only
      have HB7 := Lib.hid (HB6.out.trans (hb.mono HB6.out.size))
      have HS7 := Lib.hid (HS6.out.keep hb)
      have HI7 := Lib.hid (HI6.out.keep hb)
      have HU7 := Lib.hid (own_keep HU6.out hb)
      have HC7 := Lib.hid hs
      have K7 := Live_E cb cm cd _ cz l2 a1 len1 cap1 t1 v7 HC7.out HG2.out HI7.out HT.out
      rw [Bg.good_check HBG.out, if_pos rfl] at K7
      clear K6 hb hs HS6 HI6 HU6
      go_wp2_with fail
      with_reducible refine K7.mono ?_
      rintro e v8 ⟨nb, nm, nd, rfl, ho, hb⟩
      have HB8 := Lib.hid (HB7.out.trans (hb.mono HB7.out.size))
      have HS8 := Lib.hid (HS7.out.keep hb)
      have HI8 := Lib.hid (HI7.out.keep hb)
      have HU8 := Lib.hid (own_keep HU7.out hb)
      have HC8 := Lib.hid (HC7.out.keep hb)
      have HN8 := Lib.hid ho
      have hcm : cm ≤ n := by rw [← HS8.out.len, ← HC8.out.len]; exact HCN.out
      have hn16 : n ≤ 16 := by rw [← HS8.out.len]; exact HG.out.len
      have hc16 : cm ≤ 16 := by rw [← HC8.out.len]; exact HG2.out.len
      have K8 := Check_E cb cm cd _ cz l2 v8 HC8.out (by omega) (fun s hs => Nat.le_trans (Sg.sok_short (HG2.out.seg s hs)) (by omega))
      rw [Sg.chk_zero.2 HG2.out] at K8
      clear K7 hb ho HS7 HI7 HU7 HC7
      have hcm1 : decide (n < cm) = false := decide_eq_false (by omega)
      clear hcm
      go_wp2_with fail
      with_reducible refine K8.mono ?_
      rintro e v9 ⟨rfl, hb⟩
      have HB9 := Lib.hid (HB8.out.trans (hb.mono HB8.out.size))
      have HS9 := Lib.hid (HS8.out.keep hb)
      have HI9 := Lib.hid (HI8.out.keep hb)
      have HU9 := Lib.hid (own_keep HU8.out hb)
      have HC9 := Lib.hid (HC8.out.keep hb)
      have HN9 := Lib.hid (own_keep HN8.out hb)
      clear K8 hb HS8 HI8 HU8 HC8 HN8
      go_wp2_with fail
      go_loopw [15, 99] (fun v x wr => ∃ k : Nat, x = .int .i64 k ∧ k ≤ n ∧ v = .int .i64 (Sg.full (l.take k).flatten : Nat) ∧ Hid (Below v9.heap.size v9 wr)) (fun _ x _ => n - (intOf x).toNat)
      case atStart => exact ⟨0, rfl, Nat.zero_le _, rfl, Lib.hid (Below.refl _ _)⟩
      case round =>
        obtain ⟨k, rfl, hk, rfl, HB⟩ := hrel
        by_cases hkn : k < n
        · obtain ⟨g7, r7, s7, rfl, hg7, -, c7, hr7, hls7, ho7⟩ := (HS9.out.keep HB.out).at hkn
          have hok := HG.out.seg s7 (List.mem_of_getElem? hls7)
          have hs25 := Sg.sok_short hok
          have K1 := Takes_E r7.a r7.n r7.c _ s7 wr ho7 (fun r hr => (hok.one r hr).2) (by rw [← own_len4 ho7]; omega)
          have h1 := Sg.full_le HG.out k
          have h2 := Sg.full_step hls7
          have h3 := Sg.full_le HG.out (k + 1)
          have hw : wrap64 (((Sg.full (l.take k).flatten : Nat) : Int) + ((Sg.full s7 : Nat) : Int)) = ((Sg.full (l.take (k + 1)).flatten : Nat) : Int) := by
            rw [IntWalk.wrap64_in _ ⟨by omega, by omega⟩]
            omega
          have HW := Lib.hid hw
          generalize Sg.full (l.take k).flatten = F1 at *
          generalize Sg.full s7 = F2 at *
          obtain ⟨ra7, rn7, rc7⟩ := r7
          dsimp only at c7 K1
          clear hok hs25 h1 h2 h3 hw hr7 hls7 ho7 hg7
          go_wp2_with fail
          with_reducible refine K1.mono ?_
          rintro e w2 ⟨rfl, hb⟩
          have HB2 := Lib.hid (HB.out.trans (hb.mono HB.out.size))
          clear K1 hb c7
          go_wp2_with fail
          go_roundw
          case rel => exact ⟨k + 1, by go_num, hkn, by first | rfl | (rw [← HW.out]; rfl) | (rw [← HW.out]), HB2⟩
          case measure => simp [intOf]; omega
        · obtain rfl : k = n := by omega
          rw [show l.take k = l from List.take_of_length_le (by rw [HS9.out.len]; exact Nat.le_refl _)]
          obtain ⟨F1, hF1⟩ : ∃ F1, Sg.full l.flatten = F1 := ⟨_, rfl⟩
          rw [hF1] at HCF ⊢
          have HB10 := Lib.hid (HB9.out.trans (HB.out.mono HB9.out.size))
          have HS10 := Lib.hid (HS9.out.keep HB.out)
          have HI10 := Lib.hid (HI9.out.keep HB.out)
          have HU10 := Lib.hid (own_keep HU9.out HB.out)
          have HC10 := Lib.hid (HC9.out.keep HB.out)
          have HN10 := Lib.hid (own_keep HN9.out HB.out)
          clear HB HB9 HS9 HI9 HU9 HC9 HN9 hF1 hk hkn
          generalize wr = v10 at *
          go_wp2_with fail
          go_loopw [16, 110] (fun v x wr => ∃ k : Nat, x = .int .i64 k ∧ k ≤ cm ∧ v = .int .i64 (Sg.full (l2.take k).flatten : Nat) ∧ Hid (Below v10.heap.size v10 wr)) (fun _ x _ => cm - (intOf x).toNat)
          case atStart => exact ⟨0, rfl, Nat.zero_le _, rfl, Lib.hid (Below.refl _ _)⟩
          case round =>
            obtain ⟨k, rfl, hk, rfl, HB⟩ := hrel
            by_cases hkn : k < cm
            · obtain ⟨g7, r7, s7, rfl, hg7, -, c7, hr7, hls7, ho7⟩ := (HC10.out.keep HB.out).at hkn
              have hok := HG2.out.seg s7 (List.mem_of_getElem? hls7)
              have hs25 := Sg.sok_short hok
              have K1 := Takes_E r7.a r7.n r7.c _ s7 wr ho7 (fun r hr => (hok.one r hr).2) (by rw [← own_len4 ho7]; omega)
              have h1 := Sg.full_le HG2.out k
              have h2 := Sg.full_step hls7
              have h3 := Sg.full_le HG2.out (k + 1)
              have hw : wrap64 (((Sg.full (l2.take k).flatten : Nat) : Int) + ((Sg.full s7 : Nat) : Int)) = ((Sg.full (l2.take (k + 1)).flatten : Nat) : Int) := by
                rw [IntWalk.wrap64_in _ ⟨by omega, by omega⟩]
                omega
              have HW := Lib.hid hw
              generalize Sg.full (l2.take k).flatten = F1 at *
              generalize Sg.full s7 = F2 at *
              obtain ⟨ra7, rn7, rc7⟩ := r7
              dsimp only at c7 K1
              clear hok hs25 h1 h2 h3 hw hr7 hls7 ho7 hg7
              go_wp2_with fail
              with_reducible refine K1.mono ?_
              rintro e w2 ⟨rfl, hb⟩
              have HB2 := Lib.hid (HB.out.trans (hb.mono HB.out.size))
              clear K1 hb c7
              go_wp2_with fail
              go_roundw
              case rel => exact ⟨k + 1, by go_num, hkn, by first | rfl | (rw [← HW.out]; rfl) | (rw [← HW.out]), HB2⟩
              case measure => simp [intOf]; omega
            · obtain rfl : k = cm := by omega
              rw [show l2.take k = l2 from List.take_of_length_le (by rw [HC10.out.len]; exact Nat.le_refl _)]
              obtain ⟨F2, hF2⟩ : ∃ F2, Sg.full l2.flatten = F2 := ⟨_, rfl⟩
              rw [hF2] at HCF ⊢
              have HB11 := Lib.hid (HB10.out.trans (HB.out.mono HB10.out.size))
              have HS11 := Lib.hid (HS10.out.keep HB.out)
              have HI11 := Lib.hid (HI10.out.keep HB.out)
              have HU11 := Lib.hid (own_keep HU10.out HB.out)
              have HC11 := Lib.hid (HC10.out.keep HB.out)
              have HN11 := Lib.hid (own_keep HN10.out HB.out)
              clear HB HB10 HS10 HI10 HU10 HC10 HN10 hF2 hk hkn
              generalize wr = v11 at *
              have hF12 : (F2 : Int) ≤ (F1 : Int) := by have := HCF.out; omega
              have eg := eg_sum
              have hul : (iv (Sg.usedL t1 l)).length = um * 1 := HU11.out.1
              have hnl : (iv (Sg.usedL t1 l2)).length = nm * 1 := HN11.out.1
              have K9 := Sum_E ub um ud _ (Sg.usedL t1 l) v11 HU11.out (by have := HSB.out; omega) (by have := HS11.out.len; have := Sg.used_length t1 l; unfold iv at hul; rw [List.length_map] at hul; omega)
              have K10 := Sum_E nb nm nd _ (Sg.usedL t1 l2) v11 HN11.out (by have := HSB.out; have := HCS.out; omega) (by have := HC11.out.len; have := Sg.used_length t1 l2; unfold iv at hnl; rw [List.length_map] at hnl; omega)
              rw [HCS.out] at K10
              generalize (Sg.usedL t1 l).sum = SS at *
              clear hul hnl
              go_wp2_with fail
              with_reducible refine K9.mono ?_
              rintro e w9 ⟨rfl, rfl⟩
              clear K9
              go_wp2_with fail
              with_reducible refine K10.mono ?_
              rintro e w10 ⟨rfl, rfl⟩
              clear K10
              have K11 := alive_E b5 _ d5 _ zs l a1 len1 cap1 t1 v11 HS11.out HG.out HI11.out HBG.out
              go_wp2_with fail
              with_reducible refine K11.mono ?_
              rintro e w12 ⟨o1, pb, pm, pd, rfl, ho, hp, hq, hb⟩
              have HB12 := Lib.hid (HB11.out.trans (hb.mono HB11.out.size))
              have hpm : pm ≤ 400 := by
                have h1 := own_len4 ho
                have h2 := hp.length_eq
                have h3 := Sg.live_len t1 l.flatten []
                have h4 := Sg.flat_len (l := l) fun s hs => Sg.sok_short (HG.out.seg s hs)
                have h5 := HG.out.len
                unfold Sg.alive at h2
                omega
              have HO1 := Lib.hid ho; have HP1 := Lib.hid hp; have HQ1 := Lib.hid hq
              have K12 := alive_E cb _ cd _ cz l2 a1 len1 cap1 t1 w12 (HC11.out.keep hb) HG2.out (HI11.out.keep hb) HBG.out
              clear K11 ho hp hq hb
              go_wp2_with fail
              with_reducible refine K12.mono ?_
              rintro e w13 ⟨o2, rb, rm, rd, rfl, ho, hp, hq, hb⟩
              have HB13 := Lib.hid (HB12.out.trans (hb.mono HB12.out.size))
              have heq : o1 = o2 := Sg.srt_eq ((HP1.out.trans HCP.out).trans hp.symm) HQ1.out hq fun r hr => (Sg.alive_mem.1 (HP1.out.mem_iff.1 hr)).2
              subst heq
              obtain rfl : pm = rm := (own_len4 HO1.out).symm.trans (own_len4 ho)
              have K13 := Equal_E pb rb pm pd rd _ _ o1 w13 (own_keep HO1.out hb) ho (by omega)
              clear K12 ho hp hq hb
              go_wp2_with fail
              with_reducible refine K13.mono ?_
              rintro e w14 ⟨rfl, q, rfl⟩
              clear K13
              go_wp2_with fail
              go_ret
              exact ⟨rfl, below_drewN HB13.out q⟩
  · have hb : ((E : Int) != 0) = true := bne_iff_ne.2 (by omega)
    have hcl : Sg.cleanR t1 l = ⟨[], E⟩ := by
      unfold Sg.cleanR
      rw [hE, if_pos hE0]
    clear hE
    rw [if_neg hE0] at K5
    go_wp2_with fail
    with_reducible refine K5.mono ?_
    rintro e v6 ⟨ub, um, ud, rfl, -, hb⟩
    have HB6 := Lib.hid (HB5.out.trans (hb.mono HB5.out.size))
    have K6 := Clean_E b5 n d5 _ zs l a1 len1 cap1 t1 v6 (HS5.out.keep hb) HG.out (HI5.out.keep hb) HT.out
    rw [hcl] at K6
    clear K5 hb
    go_wp2_with fail
    with_reducible refine K6.mono ?_
    rintro e v7 ⟨cb, cm, cd, cz, rfl, hs, hb⟩
    obtain rfl : cm = 0 := hs.len.symm
    have HB7 := Lib.hid (HB6.out.trans (hb.mono HB6.out.size))
    clear K6 hs hb
    go_wp2_with fail
    go_ret
    exact ⟨rfl, HB7.out⟩

end Go.Proofs.Ytenkdpogdfcbgaa
