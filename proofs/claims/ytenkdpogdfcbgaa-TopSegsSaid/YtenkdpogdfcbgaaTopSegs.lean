/- TopSegs: of blocks that lie in segments, cleaned again and again, each that is used can be had; for every input. -/
import Derived.Test.YtenkdpogdfcbgaaTsW
import Derived.Test.YtenkdpogdfcbgaaSgN2
import Derived.Test.YtenkdpogdfcbgaaArgs
import Derived.Test.YtenkdpogdfcbgaaBgW6
import Derived.Test.YtenkdpogdfcbgaaPolyW2
namespace Go.Proofs.Ytenkdpogdfcbgaa
open Go.RowKit

set_option maxHeartbeats 1000000 in
theorem segs_begun : Ans1 14 #[] (.bool true) := fun w => by
  have M : ∀ w, Calls Try.prog 97 #[.int .i64 3, .int .i64 3] w fun e w' => e = .returned (.tuple #[.int .i64 5, .int .i64 0]) ∧ w = w' := fun w => Mul_ok 3 3 w (by decide) (by decide) (by decide)
  go_enter Try.func14, Try.ntmps14
  go_wp2_with fail
  with_reducible refine (M _).mono ?_
  rintro e w' ⟨rfl, rfl⟩
  go_wp2_with fail
  go_ret
  exact ⟨rfl, rfl⟩

/-- Segments stand while a row of ids turns. -/
theorem SgW.ids {w w' : World} {base n c b n2 size : Nat} {a : Option Addr} {rs : List Rl} {l : List (List Sg.R)} {v : Value} {xs : List Value} (h : SgW w base a n c rs l) (ho : w.ownsRow b 29 size v n2 xs) (hg : w.grownBy w' v.ownBlock) : SgW w' base a n c rs l :=
  ⟨own_kept2 h.row hg fun k hk e => own_unlike h.row ho (by decide) k hk e, h.len, fun i r s h1 h2 => own_kept2 (h.seg i r s h1 h2) hg fun k hk e => own_unlike (h.seg i r s h1 h2) ho (by decide) k hk e, h.apart⟩
theorem bag_ids {w w' : World} {base n b n2 size s4 : Nat} {u v : Value} {ys xs : List Value} (h : w.ownsRow base 43 s4 u n ys) (ho : w.ownsRow b 29 size v n2 xs) (hg : w.grownBy w' v.ownBlock) : w'.ownsRow base 43 s4 u n ys :=
  own_kept2 h hg fun k hk e => own_unlike h ho (by decide) k hk e

theorem id_oneV (b : Bool) (x y : Int) : ∀ u ∈ [Value.bool b, .int .i64 x, .int .i64 y], u.oneCell' = true := id_ones b x y
theorem dv_snoc (l : List Bg.Id) (t : Bg.Id) : dv (l ++ [t]) = dv l ++ [.bool t.is, .int .i64 t.sum, .int .i64 t.n] := by rw [dv_app]; rfl
theorem good_texts {l : List Bg.It} (h : Bg.Good l) : ∀ t ∈ l, t.text.size ≤ maxLen := fun t ht => by
  have := (Bg.one_fit (h.one t ht)).2.1
  unfold maxLen
  omega

set_option maxRecDepth 100000 in
set_option maxHeartbeats 16000000 in
theorem topSegs_walk (a0 : Option Addr) (len0 cap0 : Nat) (s0 : List ByteArray) (a1 : Option Addr) (len1 cap1 : Nat) (z1 : List Int) (a2 : Int) (w : World) (w0 : IsRowS w a0 len0 cap0 s0) (w1 : IsRowI w a1 len1 cap1 z1) (_ : (Lit.int .i64 a2).wf = true) :
    Calls Try.prog 3 #[.slice a0 len0 cap0, .slice a1 len1 cap1, .int .i64 a2] w fun e w' => e = .returned (.bool true) ∧ Below w.heap.size w w' := by
  obtain ⟨N, hN⟩ : ∃ N, min len0 40 = N := ⟨_, rfl⟩
  have hN40 : N ≤ 40 := by omega
  have hNl : N ≤ len0 := by omega
  have hNi : min (len0 : Int) 40 = (N : Int) := by omega
  have hcap : len0 ≤ cap0 := by
    rcases w0 with ⟨_, rfl, rfl, _⟩ | ⟨x, _, h1, _⟩
    · exact Nat.le_refl _
    · exact h1
  have hcm : cap0 ≤ 9223372036854775807 := by
    rcases w0 with ⟨_, _, rfl, _⟩ | ⟨x, _, _, h2, _⟩
    · exact Nat.zero_le _
    · unfold maxLen at h2; exact h2
  have hl1 : len1 ≤ 9223372036854775807 := by
    rcases w1 with ⟨_, rfl, rfl, _⟩ | ⟨x, _, h1, h2, _⟩
    · exact Nat.zero_le _
    · unfold maxLen at h2; omega
  have HTX : Hid (∀ W i, Below w.heap.size w W → i < N → ∃ (A : Addr) (b o : Nat) (q : Option Nat) (t : ByteArray), a0 = some A ∧ A.add i = ⟨b, o, q⟩ ∧ W.cell? ⟨b, o, q⟩ = some (.string t) ∧ t.size ≤ maxLen) := Lib.hid fun W i hb hi => by
    rcases w0 with ⟨_, rfl, _, _⟩ | ⟨x, rfl, h1, h2, h3, h4, h5⟩
    · omega
    · have hc := h4 i (by omega)
      have hc' := (hb.cell (World.block_lt_of_cell? w _ hc)).trans hc
      obtain ⟨b, o, q, hy⟩ : ∃ b o q, x.add i = ⟨b, o, q⟩ := ⟨_, _, _, rfl⟩
      rw [hy] at hc'
      refine ⟨x, b, o, q, s0.getD i ByteArray.empty, rfl, hy, hc', ?_⟩
      rw [List.getD_eq_getElem?_getD, List.getElem?_eq_getElem (by omega)]
      exact h5 _ (List.getElem_mem _)
  have HZX : Hid (∀ W i, Below w.heap.size w W → i < len1 → ∃ (A : Addr) (b o : Nat) (q : Option Nat) (z : Int), a1 = some A ∧ A.add i = ⟨b, o, q⟩ ∧ W.cell? ⟨b, o, q⟩ = some (.int .i64 z)) := Lib.hid fun W i hb hi => by
    rcases w1 with ⟨_, rfl, _, _⟩ | ⟨x, rfl, h1, h2, h3, h4, h5⟩
    · omega
    · have hc := h4 i (by omega)
      have hc' := (hb.cell (World.block_lt_of_cell? w _ hc)).trans hc
      obtain ⟨b, o, q, hy⟩ : ∃ b o q, x.add i = ⟨b, o, q⟩ := ⟨_, _, _, rfl⟩
      rw [hy] at hc'
      exact ⟨x, b, o, q, z1.getD i 0, rfl, hy, hc'⟩
  obtain ⟨i0, hi0, hz0, hz1, hz2⟩ := info_parts Try.infoId
  have HNM := Lib.hid hN
  clear w0 w1 hN
  go_enter Try.func3, Try.ntmps3
  go_wp2_with fail
  with_reducible refine segs_begun.use ?_
  rintro e v1 ⟨rfl, rfl⟩
  go_wp2_with fail
  go_loopw [7, 8, 9, 33] (fun vb vl vi x wr => ∃ k : Nat, ∃ (ab : Option Addr) (nb cb : Nat) (bl : List Bg.It) (al : Option Addr) (nl cl : Nat) (zs : List Rl) (ls : List (List Sg.R)) (ai : Option Addr) (ni ci : Nat) (ids : List Bg.Id), k ≤ N ∧ x = .int .i64 k ∧ vb = .slice ab nb cb ∧ vl = .slice al nl cl ∧ vi = .slice ai ni ci ∧ ids.length ≤ k ∧ Hid (Below w.heap.size w wr) ∧ Hid (wr.ownsRow w.heap.size 43 4 (.slice ab nb cb) nb (tv bl) ∧ bl.length = nb) ∧ Hid (SgW wr w.heap.size al nl cl zs ls) ∧ Hid (wr.ownsRow w.heap.size 29 3 (.slice ai ni ci) ni (dv ids)) ∧ Hid (Sg.Ts bl ls ids)) (fun _ _ _ x _ => N - (intOf x).toNat)
  case atStart => exact ⟨0, none, 0, 0, [], none, 0, 0, [], [], none, 0, 0, [], Nat.zero_le _, rfl, rfl, rfl, rfl, Nat.le_refl _, Lib.hid (Below.refl _ _), Lib.hid ⟨World.ownsRow_nil _ _ _ _, rfl⟩, Lib.hid (sgW0 _ _), Lib.hid (World.ownsRow_nil _ _ _ _), Lib.hid Sg.ts_new⟩
  case round =>
    obtain ⟨k, ab, nb, cb, bl, al, nl, cl, zs, ls, ai, ni, ci, ids, hk, rfl, rfl, rfl, rfl, hid, HB, HO, HS, HI, HT⟩ := hrel
    by_cases hlt : k < N
    · obtain ⟨A, tb, to_, tq, t, rfl, hA, c0, hts⟩ := HTX.out wr k HB.out hlt
      have K1 := Put_I ab nb cb bl t wr (own_isl0 HO.out.1 HO.out.2) (good_texts HT.out.ex.good) hts
      have HPE : Hid (∀ (R : Bg.PutA), Bg.putR Bg.Pr bl t = R → R.e = 0 → ∀ (P : Sg.PutA), Sg.putR ls ⟨R.id, t⟩ = P → P.e = 0 → Sg.Ts R.l P.l (ids ++ [R.id])) := Lib.hid (by
        rintro R rfl hE P rfl hE2
        exact Sg.ts_put HT.out hE hE2 (by omega))
      have hRR : ∃ R, Bg.putR Bg.Pr bl t = R := ⟨_, rfl⟩
      obtain ⟨R, hRR⟩ := hRR
      rw [hRR] at K1
      have HR := Lib.hid hRR
      obtain ⟨rl, ⟨p1, p2, p3⟩, re⟩ := R
      clear hRR hts
      go_wp2_with fail
      with_reducible refine K1.mono ?_
      rintro e v2 ⟨a2', n2, c2, rfl, ho, hl, hb⟩
      dsimp only at ho hl
      dsimp only
      have hal := hb.alloc hb.size (.cells #[.bool p1, .int .i64 p2, .int .i64 p3] 29)
      have HB2 := Lib.hid (HB.out.trans (hal.mono HB.out.size))
      have HO2 : Hid ((v2.alloc (.cells #[.bool p1, .int .i64 p2, .int .i64 p3] 29)).ownsRow w.heap.size 43 4 (.slice ab nb cb) nb (tv bl) ∧ bl.length = nb) := Lib.hid ⟨own_keep HO.out.1 hal, HO.out.2⟩
      have HS2 := Lib.hid (HS.out.keep hal)
      have HI2 := Lib.hid (own_keep HI.out hal)
      have HX2 := Lib.hid (bxs_new v2 29 #[.bool p1, .int .i64 p2, .int .i64 p3] [.bool p1, .int .i64 p2, .int .i64 p3] rfl)
      have HN2 : Hid ((v2.alloc (.cells #[.bool p1, .int .i64 p2, .int .i64 p3] 29)).ownsRow w.heap.size 43 4 (.slice a2' n2 c2) n2 (tv rl) ∧ rl.length = n2) := Lib.hid ⟨own_low (ho.alloc _) HB.out.size, hl⟩
      clear K1 ho hl hb hal hA c0
      obtain ⟨V2, hV2⟩ : ∃ V2, v2.alloc (.cells #[.bool p1, .int .i64 p2, .int .i64 p3] 29) = V2 := ⟨_, rfl⟩
      rw [hV2] at HB2 HO2 HS2 HI2 HX2 HN2
      by_cases hre : re = 0
      · subst hre
        have K2 := Put_E al nl cl _ zs ls ⟨⟨p1, p2, p3⟩, t⟩ V2 HS2.out HT.out.good
        have hPP : ∃ P, Sg.putR ls ⟨⟨p1, p2, p3⟩, t⟩ = P := ⟨_, rfl⟩
        obtain ⟨P, hPP⟩ := hPP
        rw [hPP] at K2
        have HP := Lib.hid hPP
        obtain ⟨pl, pe⟩ := P
        have x0 := HX2.out.c 0 _ rfl; have x1 := HX2.out.c 1 _ rfl; have x2 := HX2.out.c 2 _ rfl
        clear hPP
        go_wp2_with fail
        clear hV2
        with_reducible refine K2.mono ?_
        rintro e v3 ⟨a3, n3, c3, z3, rfl, hs, hb⟩
        dsimp only at hs
        dsimp only
        have HB3 := Lib.hid (HB2.out.trans (hb.mono HB2.out.size))
        have HO3 : Hid (v3.ownsRow w.heap.size 43 4 (.slice ab nb cb) nb (tv bl) ∧ bl.length = nb) := Lib.hid ⟨own_keep HO2.out.1 hb, HO2.out.2⟩
        have HN3 : Hid (v3.ownsRow w.heap.size 43 4 (.slice a2' n2 c2) n2 (tv rl) ∧ rl.length = n2) := Lib.hid ⟨own_keep HN2.out.1 hb, HN2.out.2⟩
        have HS3 := Lib.hid (HS2.out.keep hb)
        have HI3 := Lib.hid (own_keep HI2.out hb)
        have HX3 := Lib.hid (HX2.out.on hb)
        have HM3 := Lib.hid (hs.low HB2.out.size)
        clear K2 hs hb x0 x1 x2 HB2 HO2 HS2 HI2 HX2 HN2
        by_cases hpe : pe = 0
        · subst hpe
          have HTE := Lib.hid (HPE.out _ HR.out rfl _ HP.out rfl)
          dsimp only at HTE
          have x0 := HX3.out.c 0 _ rfl; have x1 := HX3.out.c 1 _ rfl; have x2 := HX3.out.c 2 _ rfl
          have hniN : ni ≤ k := by have h := own_len3 HI3.out; omega
          have HRA := Lib.hid (HI3.out.alloc (.cells #[.bool p1, .int .i64 p2, .int .i64 p3] 29))
          have H3 : Hid (∀ j x, [Value.bool p1, .int .i64 p2, .int .i64 p3][j]? = some x → (v3.alloc (.cells #[.bool p1, .int .i64 p2, .int .i64 p3] 29)).cell? ((⟨v3.heap.size, 0, none⟩ : Addr).add j) = some x) := Lib.hid fun j u hu => by
            rw [addr_lit, Nat.zero_add]
            exact cell_new v3 (k := j) (by simpa using hu)
          have H4 := Lib.hid (id_oneV p1 p2 p3)
          have H5 : Hid (ni + 1 ≤ maxLen ∧ (ni + 1) * 24 ≤ 140737488355328) := Lib.hid ⟨by unfold maxLen; omega, by omega⟩
          have H6 : Hid (w.heap.size ≤ (v3.alloc (.cells #[.bool p1, .int .i64 p2, .int .i64 p3] 29)).heap.size) := Lib.hid (by rw [World.size_alloc]; have := HB3.out.size; omega)
          go_wp2_with (at_builtin; refine wpList_append_lies _ rfl _ _ _ rfl w.heap.size 29 i0 (.agg #[.bool false, .int .i64 0, .int .i64 0]) 3 24 Try.underlying27 hi0 hz0 hz1 hz2 rfl (by decide) (.slice ai ni ci) ni (dv ids) rfl HRA.out ⟨v3.heap.size, 0, none⟩ 1 1 [.bool p1, .int .i64 p2, .int .i64 p3] rfl rfl H3.out H4.out (by decide) H5.out.1 H5.out.2 H6.out _ rfl ?_)
          intro g6 cap6 w6 q1 q2 q3 q4
          have HBE : Hid (Below w.heap.size w w6) := Lib.hid ((HB3.out.alloc HB3.out.size _).grown q2 H6.out (fun k e => row_base HRA.out k e))
          have HIE : Hid (w6.ownsRow w.heap.size 29 3 (.slice (some ⟨g6, 0, none⟩) (ni + 1) cap6) (ni + 1) (dv (ids ++ [⟨p1, p2, p3⟩]))) := Lib.hid (by rw [dv_snoc]; exact q1)
          have HOE : Hid (w6.ownsRow w.heap.size 43 4 (.slice a2' n2 c2) n2 (tv rl) ∧ rl.length = n2) := Lib.hid ⟨bag_ids (HN3.out.1.alloc _) HRA.out q2, HN3.out.2⟩
          have HSE : Hid (SgW w6 w.heap.size a3 n3 c3 z3 pl) := Lib.hid ((HM3.out.keep ((Below.refl v3.heap.size v3).alloc (Nat.le_refl _) _)).ids HRA.out q2)
          clear q1 q2 q3 q4 HRA H3 H4 H5 H6 x0 x1 x2
          go_wp2_with fail
          go_roundw
          case rel => exact ⟨k + 1, _, _, _, _, _, _, _, _, _, _, _, _, _, hlt, by go_num, rfl, rfl, rfl, by rw [List.length_append]; simp; omega, HBE, HOE, HSE, HIE, HTE⟩
          case measure => simp [intOf]; omega
        · have hb' : ((pe : Int) != 0) = true := bne_iff_ne.2 (by omega)
          go_wp2_with fail
          go_roundw
          case rel => exact ⟨k + 1, _, _, _, _, _, _, _, _, _, _, _, _, _, hlt, by go_num, rfl, rfl, rfl, by omega, HB3, HO3, HS3, HI3, HT⟩
          case measure => simp [intOf]; omega
      · have hb' : ((re : Int) != 0) = true := bne_iff_ne.2 (by omega)
        go_wp2_with fail
        go_roundw
        case rel => exact ⟨k + 1, _, _, _, _, _, _, _, _, _, _, _, _, _, hlt, by go_num, rfl, rfl, rfl, by omega, HB2, HO2, HS2, HI2, HT⟩
        case measure => simp [intOf]; omega
    · obtain rfl : N = k := by omega
      clear hlt hk
      generalize wr = W1 at *
      have hi40 : ids.length ≤ 40 := by omega
      clear hid
      go_wp2_with fail
      go_loopw [7, 9, 65] (fun vb vi x wr => ∃ k : Nat, ∃ (ab : Option Addr) (nb cb : Nat) (bl : List Bg.It) (ai : Option Addr) (ni ci : Nat) (ids : List Bg.Id), k ≤ len1 ∧ x = .int .i64 k ∧ vb = .slice ab nb cb ∧ vi = .slice ai ni ci ∧ ids.length ≤ 40 ∧ Hid (Below w.heap.size w wr) ∧ Hid (wr.ownsRow w.heap.size 43 4 (.slice ab nb cb) nb (tv bl) ∧ bl.length = nb) ∧ Hid (SgW wr w.heap.size al nl cl zs ls) ∧ Hid (wr.ownsRow w.heap.size 29 3 (.slice ai ni ci) ni (dv ids)) ∧ Hid (Sg.Ts bl ls ids)) (fun _ _ x _ => len1 - (intOf x).toNat)
      case atStart => exact ⟨0, _, _, _, _, _, _, _, _, Nat.zero_le _, rfl, rfl, rfl, hi40, HB, HO, HS, HI, HT⟩
      case round =>
        clear HB HO HI HT HS hi40
        obtain ⟨k, ab, nb, cb, bl, ai, ni, ci, ids, hk, rfl, rfl, rfl, hid, HB, HO, HS, HI, HT⟩ := hrel
        have hni : ids.length = ni := own_len3 HI.out
        by_cases hlt : k < len1
        · obtain ⟨A, zb, zo, zq, z, rfl, hA, c0⟩ := HZX.out wr k HB.out hlt
          by_cases h0 : ni = 0
          · subst h0
            go_wp2_with fail
            have K5 := within_any a2 20 20 wr rfl (by omega) (by omega)
            have hw20 : wi a2 20 ≤ 20 := Nat.le_of_lt (wi_lt a2 20 (by omega))
            generalize wi a2 20 = q20 at *
            with_reducible refine K5.mono ?_
            rintro e w5 ⟨rfl, rfl⟩
            clear K5
            generalize wr = W5 at *
            go_wp2_with fail
            have HEX := Lib.hid HT.out.ex
            have HST := Lib.hid HT.out
            go_loopw [8, 96] (fun vl x wr => ∃ k : Nat, ∃ (al : Option Addr) (nl cl : Nat) (zs : List Rl) (ls : List (List Sg.R)), k ≤ q20 ∧ x = .int .i64 k ∧ vl = .slice al nl cl ∧ Hid (Below w.heap.size w wr) ∧ Hid (wr.ownsRow w.heap.size 43 4 (.slice ab nb cb) nb (tv bl) ∧ bl.length = nb) ∧ Hid (SgW wr w.heap.size al nl cl zs ls) ∧ Hid (Sg.Ts bl ls ids)) (fun _ x _ => q20 - (intOf x).toNat)
            case atStart => exact ⟨0, _, _, _, _, _, Nat.zero_le _, rfl, rfl, HB, HO, HS, HT⟩
            case round =>
              clear HB HO HS HT HST
              obtain ⟨k3, al, nl, cl, zs, ls, hk3, rfl, rfl, HB, HO, HS, HT⟩ := hrel
              by_cases hlt3 : k3 < q20
              · have K6 := Clean_E al nl cl _ zs ls ab nb cb bl wr HS.out HT.out.good (own_isl0 HO.out.1 HO.out.2) (good_texts HEX.out.good)
                rw [Sg.clean_is HEX.out.good] at K6
                by_cases hl0 : nl = 0
                · subst hl0
                  rw [if_pos HS.out.len] at K6
                  go_wp2_with fail
                  with_reducible refine K6.mono ?_
                  rintro e w6 ⟨b6, m6, d6, z6, rfl, hs, hb⟩
                  have HB6 := Lib.hid (HB.out.trans (hb.mono HB.out.size))
                  have HO6 : Hid (w6.ownsRow w.heap.size 43 4 (.slice ab nb cb) nb (tv bl) ∧ bl.length = nb) := Lib.hid ⟨own_keep HO.out.1 hb, HO.out.2⟩
                  have HS6 := Lib.hid (HS.out.keep hb)
                  clear K6 hs hb HB HO HS
                  have HB := HB6; have HO := HO6; have HS := HS6
                  clear HB6 HO6 HS6
                  go_wp2_with fail
                  generalize w6 = W6 at *
                  go_loopw [112] (fun x wr => ∃ k : Nat, k ≤ nb ∧ x = .int .i64 k ∧ Hid (Below W6.heap.size W6 wr)) (fun x _ => nb - (intOf x).toNat)
                  case atStart => exact ⟨0, Nat.zero_le _, rfl, Lib.hid (Below.refl _ _)⟩
                  case round =>
                    obtain ⟨k4, hk4, rfl, HP⟩ := hrel
                    have hnb64 : nb ≤ 64 := by rw [← HO.out.2]; exact HEX.out.good.len
                    have hnl16 := HT.out.good.len
                    rw [HS.out.len] at hnl16
                    by_cases hlt4 : k4 < nb
                    · have hkb : k4 < bl.length := by rw [HO.out.2]; exact hlt4
                      obtain ⟨A4, b4, o4, s4, rfl, hA4, t1, t2, t3, t4⟩ := ((own_isl0 HO.out.1 HO.out.2).keep HP.out).get hkb
                      have hxm := List.getElem_mem hkb
                      have hmem := HT.out.st ⟨true, bl[k4].sum, bl[k4].n⟩ bl[k4].text ⟨bl[k4], hxm, Vo.hit_idOf.2 rfl, rfl⟩
                      have HANY : Hid ((ls.any fun s => s.any fun x => decide (x = (⟨⟨true, bl[k4].sum, bl[k4].n⟩, bl[k4].text⟩ : Sg.R))) = true) := Lib.hid (by
                        obtain ⟨s, hs, hr⟩ := List.mem_flatten.1 hmem
                        exact List.any_eq_true.2 ⟨s, hs, List.any_eq_true.2 ⟨_, hr, decide_eq_true rfl⟩⟩)
                      clear hmem hxm
                      generalize bl[k4].sum = g1 at *
                      generalize bl[k4].n = g2 at *
                      generalize bl[k4].text = g3 at *
                      generalize bl[k4].refs = g4 at *
                      obtain ⟨V4, hV4⟩ : ∃ V4, (wr.alloc (.cells #[.int .i64 g1, .int .i64 g2, .string g3, .int .i64 g4] 43)).alloc (.cells #[.bool true, .int .i64 g1, .int .i64 g2, .string g3] 36) = V4 := ⟨_, rfl⟩
                      have hal : Below wr.heap.size wr V4 := by rw [← hV4]; exact ((Below.refl wr.heap.size wr).alloc (Nat.le_refl _) _).alloc (by rw [World.size_alloc]; omega) _
                      have hX4 : Bxs V4 (wr.heap.size + 1) [.bool true, .int .i64 g1, .int .i64 g2, .string g3] := by
                        rw [← hV4]
                        have := bxs_new (wr.alloc (.cells #[.int .i64 g1, .int .i64 g2, .string g3, .int .i64 g4] 43)) 36 #[.bool true, .int .i64 g1, .int .i64 g2, .string g3] [.bool true, .int .i64 g1, .int .i64 g2, .string g3] rfl
                        rwa [World.size_alloc] at this
                      have K7 := ContainsFunc_E al _ cl _ zs ls _ #[.pointer (some ⟨wr.heap.size + 1, 0, none⟩)] (fun s => s.any fun x => decide (x = (⟨⟨true, g1, g2⟩, g3⟩ : Sg.R))) V4 ((HS.out.keep HP.out).keep hal) (by omega) (fun s hs => by have := Sg.sok_short (HT.out.good.seg s hs); omega) eg_top (pred_top V4 (wr.heap.size + 1) ⟨⟨true, g1, g2⟩, g3⟩ hX4)
                      rw [HANY.out] at K7
                      have HPA := Lib.hid (HP.out.trans (hal.mono HP.out.size))
                      clear hal hX4 HANY
                      go_wp2_with fail
                      with_reducible refine K7.mono ?_
                      rintro e w7 ⟨rfl, hb⟩
                      have HP7 := Lib.hid (HPA.out.trans (hb.mono HPA.out.size))
                      clear K7 hb t1 t2 t3 t4 hA4 hV4
                      go_wp2_with fail
                      go_roundw
                      case rel => exact ⟨k4 + 1, hlt4, by go_num, HP7⟩
                      case measure => simp [intOf]; omega
                    · obtain rfl : nb = k4 := by omega
                      have K8 := Check_E al _ cl _ zs ls wr (HS.out.keep HP.out) (by omega) (fun s hs => by have := Sg.sok_short (HT.out.good.seg s hs); omega)
                      rw [Sg.chk_zero.2 HT.out.good] at K8
                      go_wp2_with fail
                      with_reducible refine K8.mono ?_
                      rintro e w8 ⟨rfl, hb⟩
                      have HBF := Lib.hid ((HB.out.trans (HP.out.mono HB.out.size)).trans (hb.mono (HB.out.trans (HP.out.mono HB.out.size)).size))
                      clear K8 hb
                      go_wp2_with fail
                      go_ret
                      exact ⟨rfl, HBF.out⟩
                · rw [if_neg (by rw [HS.out.len]; exact hl0)] at K6
                  have hbl := Sg.best_lt (b := bl) (l := ls) (by rw [HS.out.len]; exact hl0)
                  have hcg := Sg.clean_good (b := bl) HT.out.good
                  rw [Sg.clean_is HEX.out.good, if_neg (by rw [HS.out.len]; exact hl0)] at hcg
                  have HTC := Lib.hid (Sg.ts_clean HT.out hbl hcg)
                  generalize Sg.cleanL bl ls (Sg.best (Sg.usedL bl ls)) = l6 at *
                  clear hbl hcg
                  go_wp2_with fail
                  with_reducible refine K6.mono ?_
                  rintro e w6 ⟨b6, m6, d6, z6, rfl, hs, hb⟩
                  dsimp only at hs
                  have HB6 := Lib.hid (HB.out.trans (hb.mono HB.out.size))
                  have HO6 : Hid (w6.ownsRow w.heap.size 43 4 (.slice ab nb cb) nb (tv bl) ∧ bl.length = nb) := Lib.hid ⟨own_keep HO.out.1 hb, HO.out.2⟩
                  have HS6 := Lib.hid (hs.low HB.out.size)
                  clear K6 hs hb
                  go_wp2_with fail
                  go_roundw
                  case rel => exact ⟨k3 + 1, _, _, _, _, _, hlt3, by go_num, rfl, HB6, HO6, HS6, HTC⟩
                  case measure => simp [intOf]; omega
              · obtain rfl : q20 = k3 := by omega
                go_wp2_with fail
                generalize wr = W6 at *
                go_loopw [112] (fun x wr => ∃ k : Nat, k ≤ nb ∧ x = .int .i64 k ∧ Hid (Below W6.heap.size W6 wr)) (fun x _ => nb - (intOf x).toNat)
                case atStart => exact ⟨0, Nat.zero_le _, rfl, Lib.hid (Below.refl _ _)⟩
                case round =>
                  obtain ⟨k4, hk4, rfl, HP⟩ := hrel
                  have hnb64 : nb ≤ 64 := by rw [← HO.out.2]; exact HEX.out.good.len
                  have hnl16 := HT.out.good.len
                  rw [HS.out.len] at hnl16
                  by_cases hlt4 : k4 < nb
                  · have hkb : k4 < bl.length := by rw [HO.out.2]; exact hlt4
                    obtain ⟨A4, b4, o4, s4, rfl, hA4, t1, t2, t3, t4⟩ := ((own_isl0 HO.out.1 HO.out.2).keep HP.out).get hkb
                    have hxm := List.getElem_mem hkb
                    have hmem := HT.out.st ⟨true, bl[k4].sum, bl[k4].n⟩ bl[k4].text ⟨bl[k4], hxm, Vo.hit_idOf.2 rfl, rfl⟩
                    have HANY : Hid ((ls.any fun s => s.any fun x => decide (x = (⟨⟨true, bl[k4].sum, bl[k4].n⟩, bl[k4].text⟩ : Sg.R))) = true) := Lib.hid (by
                      obtain ⟨s, hs, hr⟩ := List.mem_flatten.1 hmem
                      exact List.any_eq_true.2 ⟨s, hs, List.any_eq_true.2 ⟨_, hr, decide_eq_true rfl⟩⟩)
                    clear hmem hxm
                    generalize bl[k4].sum = g1 at *
                    generalize bl[k4].n = g2 at *
                    generalize bl[k4].text = g3 at *
                    generalize bl[k4].refs = g4 at *
                    obtain ⟨V4, hV4⟩ : ∃ V4, (wr.alloc (.cells #[.int .i64 g1, .int .i64 g2, .string g3, .int .i64 g4] 43)).alloc (.cells #[.bool true, .int .i64 g1, .int .i64 g2, .string g3] 36) = V4 := ⟨_, rfl⟩
                    have hal : Below wr.heap.size wr V4 := by rw [← hV4]; exact ((Below.refl wr.heap.size wr).alloc (Nat.le_refl _) _).alloc (by rw [World.size_alloc]; omega) _
                    have hX4 : Bxs V4 (wr.heap.size + 1) [.bool true, .int .i64 g1, .int .i64 g2, .string g3] := by
                      rw [← hV4]
                      have := bxs_new (wr.alloc (.cells #[.int .i64 g1, .int .i64 g2, .string g3, .int .i64 g4] 43)) 36 #[.bool true, .int .i64 g1, .int .i64 g2, .string g3] [.bool true, .int .i64 g1, .int .i64 g2, .string g3] rfl
                      rwa [World.size_alloc] at this
                    have K7 := ContainsFunc_E al _ cl _ zs ls _ #[.pointer (some ⟨wr.heap.size + 1, 0, none⟩)] (fun s => s.any fun x => decide (x = (⟨⟨true, g1, g2⟩, g3⟩ : Sg.R))) V4 ((HS.out.keep HP.out).keep hal) (by omega) (fun s hs => by have := Sg.sok_short (HT.out.good.seg s hs); omega) eg_top (pred_top V4 (wr.heap.size + 1) ⟨⟨true, g1, g2⟩, g3⟩ hX4)
                    rw [HANY.out] at K7
                    have HPA := Lib.hid (HP.out.trans (hal.mono HP.out.size))
                    clear hal hX4 HANY
                    go_wp2_with fail
                    with_reducible refine K7.mono ?_
                    rintro e w7 ⟨rfl, hb⟩
                    have HP7 := Lib.hid (HPA.out.trans (hb.mono HPA.out.size))
                    clear K7 hb t1 t2 t3 t4 hA4 hV4
                    go_wp2_with fail
                    go_roundw
                    case rel => exact ⟨k4 + 1, hlt4, by go_num, HP7⟩
                    case measure => simp [intOf]; omega
                  · obtain rfl : nb = k4 := by omega
                    have K8 := Check_E al _ cl _ zs ls wr (HS.out.keep HP.out) (by omega) (fun s hs => by have := Sg.sok_short (HT.out.good.seg s hs); omega)
                    rw [Sg.chk_zero.2 HT.out.good] at K8
                    go_wp2_with fail
                    with_reducible refine K8.mono ?_
                    rintro e w8 ⟨rfl, hb⟩
                    have HBF := Lib.hid ((HB.out.trans (HP.out.mono HB.out.size)).trans (hb.mono (HB.out.trans (HP.out.mono HB.out.size)).size))
                    clear K8 hb
                    go_wp2_with fail
                    go_ret
                    exact ⟨rfl, HBF.out⟩
          · have h0' : ((ni : Int) == 0) = false := beq_eq_false_iff_ne.2 (by omega)
            have K1 := within_any z (ni : Int) ni wr rfl (by omega) (by omega)
            have hwl : wi z ni < ids.length := by rw [hni]; exact wi_lt z ni (by omega)
            have hwn : wi z ni < ni := by omega
            generalize wi z ni = q at *
            have HLD : Hid ((ids.take q ++ ids.drop (q + 1)).length ≤ 40) := Lib.hid (by rw [List.length_append, List.length_take, List.length_drop]; omega)
            go_wp2_with fail
            with_reducible refine K1.mono ?_
            rintro e w2 ⟨rfl, rfl⟩
            obtain ⟨gi, rfl, hgi, -, d0, d1, d2⟩ := dv_at HI.out hwl
            obtain ⟨hd1, hd2⟩ := Sg.ts_drop HT.out (List.getElem?_eq_getElem hwl)
            have K2 := Drop_I ab nb cb bl ids[q].is ids[q].sum ids[q].n wr (own_isl0 HO.out.1 HO.out.2) (good_texts HT.out.ex.good)
            have hide : (⟨ids[q].is, ids[q].sum, ids[q].n⟩ : Bg.Id) = ids[q] := rfl
            rw [hide, hd1] at K2
            have HTD := Lib.hid hd2
            generalize (Bg.dropR Bg.Pr bl ids[q]).1 = b2 at *
            have hqn : (q : Int) < (ni : Int) := by omega
            clear hd1 hd2 K1 hide c0 hA
            generalize ids[q].is = p1 at *
            generalize ids[q].sum = p2 at *
            generalize ids[q].n = p3 at *
            go_wp2_with fail
            with_reducible refine K2.mono ?_
            rintro e w3 ⟨a4, n4, c4, rfl, ho, hl, hb⟩
            have HB3 := Lib.hid (HB.out.trans (hb.mono HB.out.size))
            have HS3 := Lib.hid (HS.out.keep hb)
            have HI3 := Lib.hid (own_keep HI.out hb)
            have HO3 : Hid (w3.ownsRow w.heap.size 43 4 (.slice a4 n4 c4) n4 (tv b2) ∧ b2.length = n4) := Lib.hid ⟨own_low ho HB.out.size, hl⟩
            obtain ⟨m, hm⟩ : ∃ m, ni = q + 1 + m := ⟨ni - (q + 1), by omega⟩
            have K3 := Delete_D gi ci ni q m w.heap.size ids w3 HI3.out hm (by omega) w HB3.out HB3.out.size
            have hq1 : IntKind.i64.wrap ((q : Int) + 1) = (q : Int) + 1 := IntWalk.i64_in _ ⟨by omega, by omega⟩
            have hq2 : wrap64 ((q : Int) + 1) = (q : Int) + 1 := IntWalk.wrap64_in _ ⟨by omega, by omega⟩
            have HM := Lib.hid hm
            clear K2 ho hl hb d0 d1 d2 hm
            go_wp2_with fail
            with_reducible refine K3.mono ?_
            rintro e w4 ⟨rfl, hi4, hb4, hg4⟩
            have HB4 := Lib.hid hb4
            have HI4 := Lib.hid hi4
            have HS4 := Lib.hid (HS3.out.ids HI3.out hg4)
            have HO4 : Hid (w4.ownsRow w.heap.size 43 4 (.slice a4 n4 c4) n4 (tv b2) ∧ b2.length = n4) := Lib.hid ⟨bag_ids HO3.out.1 HI3.out hg4, HO3.out.2⟩
            clear K3 hi4 hb4 hg4 HB3 HS3 HI3 HO3
            go_wp2_with fail
            go_roundw
            case rel => exact ⟨k + 1, _, _, _, _, _, _, _, _, hlt, by go_num, rfl, rfl, HLD.out, HB4, HO4, HS4, HI4, HTD⟩
            case measure => simp [intOf]; omega
        · obtain rfl : len1 = k := by omega
          go_wp2_with fail
          have K5 := within_any a2 20 20 wr rfl (by omega) (by omega)
          have hw20 : wi a2 20 ≤ 20 := Nat.le_of_lt (wi_lt a2 20 (by omega))
          generalize wi a2 20 = q20 at *
          with_reducible refine K5.mono ?_
          rintro e w5 ⟨rfl, rfl⟩
          clear K5
          generalize wr = W5 at *
          go_wp2_with fail
          have HEX := Lib.hid HT.out.ex
          have HST := Lib.hid HT.out
          go_loopw [8, 96] (fun vl x wr => ∃ k : Nat, ∃ (al : Option Addr) (nl cl : Nat) (zs : List Rl) (ls : List (List Sg.R)), k ≤ q20 ∧ x = .int .i64 k ∧ vl = .slice al nl cl ∧ Hid (Below w.heap.size w wr) ∧ Hid (wr.ownsRow w.heap.size 43 4 (.slice ab nb cb) nb (tv bl) ∧ bl.length = nb) ∧ Hid (SgW wr w.heap.size al nl cl zs ls) ∧ Hid (Sg.Ts bl ls ids)) (fun _ x _ => q20 - (intOf x).toNat)
          case atStart => exact ⟨0, _, _, _, _, _, Nat.zero_le _, rfl, rfl, HB, HO, HS, HT⟩
          case round =>
            clear HB HO HS HT HST
            obtain ⟨k3, al, nl, cl, zs, ls, hk3, rfl, rfl, HB, HO, HS, HT⟩ := hrel
            by_cases hlt3 : k3 < q20
            · have K6 := Clean_E al nl cl _ zs ls ab nb cb bl wr HS.out HT.out.good (own_isl0 HO.out.1 HO.out.2) (good_texts HEX.out.good)
              rw [Sg.clean_is HEX.out.good] at K6
              by_cases hl0 : nl = 0
              · subst hl0
                rw [if_pos HS.out.len] at K6
                go_wp2_with fail
                with_reducible refine K6.mono ?_
                rintro e w6 ⟨b6, m6, d6, z6, rfl, hs, hb⟩
                have HB6 := Lib.hid (HB.out.trans (hb.mono HB.out.size))
                have HO6 : Hid (w6.ownsRow w.heap.size 43 4 (.slice ab nb cb) nb (tv bl) ∧ bl.length = nb) := Lib.hid ⟨own_keep HO.out.1 hb, HO.out.2⟩
                have HS6 := Lib.hid (HS.out.keep hb)
                clear K6 hs hb HB HO HS
                have HB := HB6; have HO := HO6; have HS := HS6
                clear HB6 HO6 HS6
                go_wp2_with fail
                generalize w6 = W6 at *
                go_loopw [112] (fun x wr => ∃ k : Nat, k ≤ nb ∧ x = .int .i64 k ∧ Hid (Below W6.heap.size W6 wr)) (fun x _ => nb - (intOf x).toNat)
                case atStart => exact ⟨0, Nat.zero_le _, rfl, Lib.hid (Below.refl _ _)⟩
                case round =>
                  obtain ⟨k4, hk4, rfl, HP⟩ := hrel
                  have hnb64 : nb ≤ 64 := by rw [← HO.out.2]; exact HEX.out.good.len
                  have hnl16 := HT.out.good.len
                  rw [HS.out.len] at hnl16
                  by_cases hlt4 : k4 < nb
                  · have hkb : k4 < bl.length := by rw [HO.out.2]; exact hlt4
                    obtain ⟨A4, b4, o4, s4, rfl, hA4, t1, t2, t3, t4⟩ := ((own_isl0 HO.out.1 HO.out.2).keep HP.out).get hkb
                    have hxm := List.getElem_mem hkb
                    have hmem := HT.out.st ⟨true, bl[k4].sum, bl[k4].n⟩ bl[k4].text ⟨bl[k4], hxm, Vo.hit_idOf.2 rfl, rfl⟩
                    have HANY : Hid ((ls.any fun s => s.any fun x => decide (x = (⟨⟨true, bl[k4].sum, bl[k4].n⟩, bl[k4].text⟩ : Sg.R))) = true) := Lib.hid (by
                      obtain ⟨s, hs, hr⟩ := List.mem_flatten.1 hmem
                      exact List.any_eq_true.2 ⟨s, hs, List.any_eq_true.2 ⟨_, hr, decide_eq_true rfl⟩⟩)
                    clear hmem hxm
                    generalize bl[k4].sum = g1 at *
                    generalize bl[k4].n = g2 at *
                    generalize bl[k4].text = g3 at *
                    generalize bl[k4].refs = g4 at *
                    obtain ⟨V4, hV4⟩ : ∃ V4, (wr.alloc (.cells #[.int .i64 g1, .int .i64 g2, .string g3, .int .i64 g4] 43)).alloc (.cells #[.bool true, .int .i64 g1, .int .i64 g2, .string g3] 36) = V4 := ⟨_, rfl⟩
                    have hal : Below wr.heap.size wr V4 := by rw [← hV4]; exact ((Below.refl wr.heap.size wr).alloc (Nat.le_refl _) _).alloc (by rw [World.size_alloc]; omega) _
                    have hX4 : Bxs V4 (wr.heap.size + 1) [.bool true, .int .i64 g1, .int .i64 g2, .string g3] := by
                      rw [← hV4]
                      have := bxs_new (wr.alloc (.cells #[.int .i64 g1, .int .i64 g2, .string g3, .int .i64 g4] 43)) 36 #[.bool true, .int .i64 g1, .int .i64 g2, .string g3] [.bool true, .int .i64 g1, .int .i64 g2, .string g3] rfl
                      rwa [World.size_alloc] at this
                    have K7 := ContainsFunc_E al _ cl _ zs ls _ #[.pointer (some ⟨wr.heap.size + 1, 0, none⟩)] (fun s => s.any fun x => decide (x = (⟨⟨true, g1, g2⟩, g3⟩ : Sg.R))) V4 ((HS.out.keep HP.out).keep hal) (by omega) (fun s hs => by have := Sg.sok_short (HT.out.good.seg s hs); omega) eg_top (pred_top V4 (wr.heap.size + 1) ⟨⟨true, g1, g2⟩, g3⟩ hX4)
                    rw [HANY.out] at K7
                    have HPA := Lib.hid (HP.out.trans (hal.mono HP.out.size))
                    clear hal hX4 HANY
                    go_wp2_with fail
                    with_reducible refine K7.mono ?_
                    rintro e w7 ⟨rfl, hb⟩
                    have HP7 := Lib.hid (HPA.out.trans (hb.mono HPA.out.size))
                    clear K7 hb t1 t2 t3 t4 hA4 hV4
                    go_wp2_with fail
                    go_roundw
                    case rel => exact ⟨k4 + 1, hlt4, by go_num, HP7⟩
                    case measure => simp [intOf]; omega
                  · obtain rfl : nb = k4 := by omega
                    have K8 := Check_E al _ cl _ zs ls wr (HS.out.keep HP.out) (by omega) (fun s hs => by have := Sg.sok_short (HT.out.good.seg s hs); omega)
                    rw [Sg.chk_zero.2 HT.out.good] at K8
                    go_wp2_with fail
                    with_reducible refine K8.mono ?_
                    rintro e w8 ⟨rfl, hb⟩
                    have HBF := Lib.hid ((HB.out.trans (HP.out.mono HB.out.size)).trans (hb.mono (HB.out.trans (HP.out.mono HB.out.size)).size))
                    clear K8 hb
                    go_wp2_with fail
                    go_ret
                    exact ⟨rfl, HBF.out⟩
              · rw [if_neg (by rw [HS.out.len]; exact hl0)] at K6
                have hbl := Sg.best_lt (b := bl) (l := ls) (by rw [HS.out.len]; exact hl0)
                have hcg := Sg.clean_good (b := bl) HT.out.good
                rw [Sg.clean_is HEX.out.good, if_neg (by rw [HS.out.len]; exact hl0)] at hcg
                have HTC := Lib.hid (Sg.ts_clean HT.out hbl hcg)
                generalize Sg.cleanL bl ls (Sg.best (Sg.usedL bl ls)) = l6 at *
                clear hbl hcg
                go_wp2_with fail
                with_reducible refine K6.mono ?_
                rintro e w6 ⟨b6, m6, d6, z6, rfl, hs, hb⟩
                dsimp only at hs
                have HB6 := Lib.hid (HB.out.trans (hb.mono HB.out.size))
                have HO6 : Hid (w6.ownsRow w.heap.size 43 4 (.slice ab nb cb) nb (tv bl) ∧ bl.length = nb) := Lib.hid ⟨own_keep HO.out.1 hb, HO.out.2⟩
                have HS6 := Lib.hid (hs.low HB.out.size)
                clear K6 hs hb
                go_wp2_with fail
                go_roundw
                case rel => exact ⟨k3 + 1, _, _, _, _, _, hlt3, by go_num, rfl, HB6, HO6, HS6, HTC⟩
                case measure => simp [intOf]; omega
            · obtain rfl : q20 = k3 := by omega
              go_wp2_with fail
              generalize wr = W6 at *
              go_loopw [112] (fun x wr => ∃ k : Nat, k ≤ nb ∧ x = .int .i64 k ∧ Hid (Below W6.heap.size W6 wr)) (fun x _ => nb - (intOf x).toNat)
              case atStart => exact ⟨0, Nat.zero_le _, rfl, Lib.hid (Below.refl _ _)⟩
              case round =>
                obtain ⟨k4, hk4, rfl, HP⟩ := hrel
                have hnb64 : nb ≤ 64 := by rw [← HO.out.2]; exact HEX.out.good.len
                have hnl16 := HT.out.good.len
                rw [HS.out.len] at hnl16
                by_cases hlt4 : k4 < nb
                · have hkb : k4 < bl.length := by rw [HO.out.2]; exact hlt4
                  obtain ⟨A4, b4, o4, s4, rfl, hA4, t1, t2, t3, t4⟩ := ((own_isl0 HO.out.1 HO.out.2).keep HP.out).get hkb
                  have hxm := List.getElem_mem hkb
                  have hmem := HT.out.st ⟨true, bl[k4].sum, bl[k4].n⟩ bl[k4].text ⟨bl[k4], hxm, Vo.hit_idOf.2 rfl, rfl⟩
                  have HANY : Hid ((ls.any fun s => s.any fun x => decide (x = (⟨⟨true, bl[k4].sum, bl[k4].n⟩, bl[k4].text⟩ : Sg.R))) = true) := Lib.hid (by
                    obtain ⟨s, hs, hr⟩ := List.mem_flatten.1 hmem
                    exact List.any_eq_true.2 ⟨s, hs, List.any_eq_true.2 ⟨_, hr, decide_eq_true rfl⟩⟩)
                  clear hmem hxm
                  generalize bl[k4].sum = g1 at *
                  generalize bl[k4].n = g2 at *
                  generalize bl[k4].text = g3 at *
                  generalize bl[k4].refs = g4 at *
                  obtain ⟨V4, hV4⟩ : ∃ V4, (wr.alloc (.cells #[.int .i64 g1, .int .i64 g2, .string g3, .int .i64 g4] 43)).alloc (.cells #[.bool true, .int .i64 g1, .int .i64 g2, .string g3] 36) = V4 := ⟨_, rfl⟩
                  have hal : Below wr.heap.size wr V4 := by rw [← hV4]; exact ((Below.refl wr.heap.size wr).alloc (Nat.le_refl _) _).alloc (by rw [World.size_alloc]; omega) _
                  have hX4 : Bxs V4 (wr.heap.size + 1) [.bool true, .int .i64 g1, .int .i64 g2, .string g3] := by
                    rw [← hV4]
                    have := bxs_new (wr.alloc (.cells #[.int .i64 g1, .int .i64 g2, .string g3, .int .i64 g4] 43)) 36 #[.bool true, .int .i64 g1, .int .i64 g2, .string g3] [.bool true, .int .i64 g1, .int .i64 g2, .string g3] rfl
                    rwa [World.size_alloc] at this
                  have K7 := ContainsFunc_E al _ cl _ zs ls _ #[.pointer (some ⟨wr.heap.size + 1, 0, none⟩)] (fun s => s.any fun x => decide (x = (⟨⟨true, g1, g2⟩, g3⟩ : Sg.R))) V4 ((HS.out.keep HP.out).keep hal) (by omega) (fun s hs => by have := Sg.sok_short (HT.out.good.seg s hs); omega) eg_top (pred_top V4 (wr.heap.size + 1) ⟨⟨true, g1, g2⟩, g3⟩ hX4)
                  rw [HANY.out] at K7
                  have HPA := Lib.hid (HP.out.trans (hal.mono HP.out.size))
                  clear hal hX4 HANY
                  go_wp2_with fail
                  with_reducible refine K7.mono ?_
                  rintro e w7 ⟨rfl, hb⟩
                  have HP7 := Lib.hid (HPA.out.trans (hb.mono HPA.out.size))
                  clear K7 hb t1 t2 t3 t4 hA4 hV4
                  go_wp2_with fail
                  go_roundw
                  case rel => exact ⟨k4 + 1, hlt4, by go_num, HP7⟩
                  case measure => simp [intOf]; omega
                · obtain rfl : nb = k4 := by omega
                  have K8 := Check_E al _ cl _ zs ls wr (HS.out.keep HP.out) (by omega) (fun s hs => by have := Sg.sok_short (HT.out.good.seg s hs); omega)
                  rw [Sg.chk_zero.2 HT.out.good] at K8
                  go_wp2_with fail
                  with_reducible refine K8.mono ?_
                  rintro e w8 ⟨rfl, hb⟩
                  have HBF := Lib.hid ((HB.out.trans (HP.out.mono HB.out.size)).trans (hb.mono (HB.out.trans (HP.out.mono HB.out.size)).size))
                  clear K8 hb
                  go_wp2_with fail
                  go_ret
                  exact ⟨rfl, HBF.out⟩

end Go.Proofs.Ytenkdpogdfcbgaa
