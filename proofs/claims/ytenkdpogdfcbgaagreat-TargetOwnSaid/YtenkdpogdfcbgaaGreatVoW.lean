import Derived.Test.YtenkdpogdfcbgaaGreatVlD
import Derived.Test.YtenkdpogdfcbgaaGreatLogW2
import Derived.WideKeyArgs
import Derived.DeepKeys4
import Derived.MapViews
import Derived.WideKeyEntry
import Derived.Maps.OwnSet
import Derived.Maps.Views
import Derived.Lib.SmallJoins
import Derived.Carry
/- The walks of slices.Clone at ids and of vol.fresh. -/
namespace Go.Proofs.YtenkdpogdfcbgaaGreat
open Go.RowKit

/-- The id at a place. -/
theorem dv_at {w : World} {base n m c k : Nat} {e : TypeId} {a : Option Addr} {l : List Bg.Id} (h : w.ownsRow base e 3 (.slice a n c) m (dv l)) (hk : k < l.length) :
    ∃ g, a = some ⟨g, 0, none⟩ ∧ g < w.heap.size ∧ base ≤ g ∧ w.cell? ⟨g, k * 3, none⟩ = some (.bool l[k].is) ∧ w.cell? ⟨g, k * 3 + 1, none⟩ = some (.int .i64 l[k].sum) ∧ w.cell? ⟨g, k * 3 + 2, none⟩ = some (.int .i64 l[k].n) := by
  have hl := h.1
  rw [dv_length] at hl
  obtain ⟨g, cap, hv, h1, h2⟩ := h.form (by omega)
  cases hv
  have hg := dv_get (List.getElem?_eq_getElem hk)
  exact ⟨g, rfl, h2, h1, by rw [h.cellAt _ (by omega), hg.1], by rw [h.cellAt _ (by omega), hg.2.1], by rw [h.cellAt _ (by omega), hg.2.2]⟩

theorem own_len3 {w : World} {base m : Nat} {e : TypeId} {v : Value} {l : List Bg.Id} (h : w.ownsRow base e 3 v m (dv l)) : l.length = m := by
  have hl := h.1
  rw [dv_length] at hl
  omega

set_option maxRecDepth 100000 in
set_option maxHeartbeats 4000000 in
theorem Clone_D (a : Option Addr) (n c base : Nat) (l : List Bg.Id) (w : World) (hT : w.ownsRow base 81 3 (.slice a n c) n (dv l)) (hn : n ≤ 1099511627776) :
    Calls Tryz.prog 62 #[.slice a n c] w fun e w' => ∃ v, e = .returned v ∧ w'.ownsRow w.heap.size 81 3 v n (dv l) ∧ Below w.heap.size w w' := by
  obtain ⟨i0, hi, hz0, hz1, hz2⟩ := info_parts Tryz.infoId
  have hll := own_len3 hT
  rcases hT.2 with ⟨he, h0⟩ | ⟨g, cap, cur, he, hg, hh, hnc, hcm, hcur⟩
  · cases he
    obtain rfl : l = [] := List.length_eq_zero_iff.1 hll
    clear hT hll
    have en : ∀ w, (binOp .eql 76 (.slice none 0 0) (.slice none 0 0)).run Tryz.prog w = .ok (.bool true) w := fun w => Lib.run_eql_slice_nil w 76 81 none 0 0 0 0 Tryz.underlying76
    go_enter Tryz.func62, Tryz.ntmps62
    go_wp2_with fail
    go_ret
    exact ⟨_, rfl, World.ownsRow_nil _ _ _ _, Below.refl _ _⟩
  · cases he
    have HB1 : ∀ T, Below w.heap.size w (w.alloc (.cells #[] T)) := fun T => (Below.refl _ w).alloc (Nat.le_refl _) _
    have hcells : ∀ (T : TypeId) j u, (dv l)[j]? = some u → (w.alloc (.cells #[] T)).cell? ((⟨g, 0, none⟩ : Addr).add j) = some u := fun T => (own_keep hT (HB1 T)).cells rfl
    have H3 := Lib.hid (hcells 81)
    have HL : Hid ((dv l).length = n * 3) := Lib.hid (by rw [dv_length, hll])
    have H5 : Hid (0 + n ≤ maxLen ∧ (0 + n) * 24 ≤ 140737488355328) := Lib.hid ⟨by unfold maxLen; omega, by omega⟩
    have HO : Hid ((w.alloc (.cells #[] 81)).ownsRow w.heap.size 81 3 (.slice (some ⟨w.heap.size, 0, none⟩) 0 0) 0 []) := Lib.hid (World.ownsRow_made w #[] 0 (Nat.le_refl _) (Nat.zero_le _) rfl)
    have HS : Hid (w.heap.size ≤ (w.alloc (.cells #[] 81)).heap.size) := Lib.hid (by rw [World.size_alloc]; omega)
    have HB := Lib.hid (HB1 81)
    clear hcells hT HB1 hh hcur hll
    have en : ∀ w, (binOp .eql 76 (.slice (some ⟨g, 0, none⟩) n c) (.slice none 0 0)).run Tryz.prog w = .ok (.bool false) w := fun w => Lib.run_eql_slice_nil w 76 81 (some ⟨g, 0, none⟩) n c 0 0 Tryz.underlying76
    go_enter Tryz.func62, Tryz.ntmps62
    go_wp2_with (at_builtin; refine wpList_append_own _ rfl _ _ _ rfl w.heap.size 81 i0 (.agg #[.bool false, .int .i64 0, .int .i64 0]) 3 24 Tryz.underlying76 hi hz0 hz1 hz2 rfl (by decide) (.slice (some ⟨w.heap.size, 0, none⟩) 0 0) 0 [] rfl HO.out ⟨g, 0, none⟩ n c (dv l) rfl HL.out H3.out (dv_one l) H5.out.1 H5.out.2 HS.out ?_)
    intro v' w' q1 q2 _
    have HF : Hid (w'.ownsRow w.heap.size 81 3 v' n (dv l) ∧ Below w.heap.size w w') := Lib.hid ⟨by simpa using q1, own_grown HO.out HB.out (Nat.le_refl _) HS.out q2⟩
    clear q1 q2 H3 HL H5
    go_wp2_with fail
    go_ret
    exact ⟨_, rfl, HF.out⟩

theorem findI_some {vs : List Vo.Vl} {name : ByteArray} {i : Nat} (h : Vo.find vs name = some i) : Vo.findI vs name = (i : Int) ∧ i < vs.length := by
  refine ⟨by unfold Vo.findI; rw [h], ?_⟩
  exact (List.findIdx?_eq_some_iff_getElem.1 h).1
theorem findI_none {vs : List Vo.Vl} {name : ByteArray} (h : Vo.find vs name = none) : Vo.findI vs name = -1 := by unfold Vo.findI; rw [h]
theorem findI_ge (vs : List Vo.Vl) (name : ByteArray) : decide (0 ≤ Vo.findI vs name) = (Vo.find vs name).isSome := by
  cases h : Vo.find vs name with
  | none => rw [findI_none h]; rfl
  | some i => rw [(findI_some h).1]; exact decide_eq_true (by omega)

set_option maxHeartbeats 2000000 in
theorem fresh_V (a b : Option Addr) (n c m d base : Nat) (rs : List Rw) (s : Vo.St) (name : ByteArray) (w : World) (hS : StW w base a n c b m d rs s) (hm : m ≤ 64) (hn : name.size ≤ maxLen) :
    Calls Tryz.prog 82 #[.agg #[.slice a n c, .slice b m d], .string name] w fun e w' => e = .returned (.int .i64 (Vo.freshE s.vols name)) ∧ Below w.heap.size w w' := by
  have hB : Below w.heap.size w (w.alloc (.cells #[.slice a n c, .slice b m d] 33)) := (Below.refl _ w).alloc (Nat.le_refl _) _
  have N1 := fun w => Name_any name w hn
  have F1 := find_V a b n c m d base rs s name _ (hS.keep hB) hm
  obtain ⟨R, hR⟩ : ∃ R, Vo.freshE s.vols name = R := ⟨_, rfl⟩
  rw [hR]
  unfold Vo.freshE at hR
  have h0 := findI_ge s.vols name
  have HV := Lib.hid hS.vlen
  have HB := Lib.hid hB
  have hc0 := cell_new w (T := 33) (xs := #[.slice a n c, .slice b m d]) (k := 1) rfl
  have HC : Hid (∀ V, Below (w.alloc (.cells #[.slice a n c, .slice b m d] 33)).heap.size (w.alloc (.cells #[.slice a n c, .slice b m d] 33)) V → V.cell? ⟨w.heap.size, 1, none⟩ = some (.slice b m d)) := Lib.hid fun V hb => by rw [hb.cell (World.block_lt_of_cell? _ _ hc0)]; exact hc0
  clear hS hB hn hc0
  cases hb : Vo.nameB name with
  | false =>
    rw [hb, if_pos rfl] at hR
    subst hR
    rw [show Lg.nmB name.data.toList = false from hb] at N1
    clear hb h0
    go_enter Tryz.func82, Tryz.ntmps82
    go_wp2_with fail
    with_reducible refine (N1 _).mono ?_
    rintro e w' ⟨rfl, rfl⟩
    go_wp2_with fail
    go_ret
    exact ⟨rfl, HB.out⟩
  | true =>
    rw [hb, if_neg (by decide)] at hR
    rw [show Lg.nmB name.data.toList = true from hb] at N1
    cases hf : (Vo.find s.vols name).isSome with
    | true =>
      rw [hf, if_pos rfl] at hR
      subst hR
      rw [hf] at h0
      clear hb hf
      generalize Vo.findI s.vols name = r at *
      go_enter Tryz.func82, Tryz.ntmps82
      go_wp2_with fail
      with_reducible refine (N1 _).mono ?_
      rintro e w' ⟨rfl, rfl⟩
      go_wp2_with fail
      with_reducible refine F1.mono ?_
      rintro e w1 ⟨rfl, hb1⟩
      have HB1 := Lib.hid (HB.out.trans (hb1.mono HB.out.size))
      clear hb1
      go_wp2_with fail
      go_ret
      exact ⟨rfl, HB1.out⟩
    | false =>
      rw [hf, if_neg (by decide)] at hR
      rw [hf] at h0
      have h6 : ((m : Int) == 6) = decide (m = 6) := by
        by_cases h : m = 6
        · subst h; rfl
        · rw [decide_eq_false h, beq_eq_false_iff_ne]; omega
      clear hb hf
      generalize Vo.findI s.vols name = r at *
      by_cases hm6 : m = 6
      · rw [HV.out, if_pos hm6] at hR
        subst hR
        rw [decide_eq_true hm6] at h6
        have HM := Lib.hid hm6
        clear hm6
        go_enter Tryz.func82, Tryz.ntmps82
        go_wp2_with fail
        with_reducible refine (N1 _).mono ?_
        rintro e w' ⟨rfl, rfl⟩
        go_wp2_with fail
        with_reducible refine F1.mono ?_
        rintro e w1 ⟨rfl, hb1⟩
        have HB1 := Lib.hid (HB.out.trans (hb1.mono HB.out.size))
        have hc := HC.out w1 hb1
        clear hb1
        go_wp2_with fail
        go_ret
        exact ⟨rfl, HB1.out⟩
      · rw [HV.out, if_neg hm6] at hR
        subst hR
        rw [decide_eq_false hm6] at h6
        clear hm6
        go_enter Tryz.func82, Tryz.ntmps82
        go_wp2_with fail
        with_reducible refine (N1 _).mono ?_
        rintro e w' ⟨rfl, rfl⟩
        go_wp2_with fail
        with_reducible refine F1.mono ?_
        rintro e w1 ⟨rfl, hb1⟩
        have HB1 := Lib.hid (HB.out.trans (hb1.mono HB.out.size))
        have hc := HC.out w1 hb1
        clear hb1
        go_wp2_with fail
        go_ret
        exact ⟨rfl, HB1.out⟩

end Go.Proofs.YtenkdpogdfcbgaaGreat

/- The walk of vol.volumes on a right state. -/
namespace Go.Proofs.YtenkdpogdfcbgaaGreat
open Go.RowKit

theorem own_isl0 {w : World} {base n c : Nat} {a : Option Addr} {ts : List Bg.It} (h : w.ownsRow base 75 4 (.slice a n c) n (tv ts)) (hn : ts.length = n) : ISl w a n c ts := own_isl h hn

theorem right_names {s : Vo.St} (h : Vo.Right s) {k : Nat} (hk : k + 1 < s.vols.length) : Op.bytesLess (s.vols[k]'(by omega)).name.toList s.vols[k + 1].name.toList = true := by
  rw [Vo.cmp_less]
  exact decide_eq_true ((List.pairwise_iff_getElem.1 h.srt) k (k + 1) (by omega) hk (by omega))

theorem hit_find {bag : List Bg.It} {id : Bg.Id} (h : ∃ x ∈ bag, id = Vo.idOf x) : 0 ≤ idx (Bg.hit id) bag := by
  obtain ⟨x, hx, rfl⟩ := h
  have : bag.any (Bg.hit (Vo.idOf x)) = true := List.any_eq_true.2 ⟨x, hx, Vo.hit_idOf.2 rfl⟩
  exact of_decide_eq_true ((idx_any _ _).trans this)

set_option maxRecDepth 100000 in
set_option maxHeartbeats 8000000 in
theorem volumes_V (a b : Option Addr) (n c m d base : Nat) (rs : List Rw) (s : Vo.St) (w : World) (hS : StW w base a n c b m d rs s) (hR : Vo.Right s) :
    Calls Tryz.prog 50 #[.agg #[.slice a n c, .slice b m d]] w fun e w' => e = .returned (.int .i64 0) ∧ Below w.heap.size w w' := by
  have hm : m ≤ 6 := by rw [← hS.vlen]; exact hR.len
  have hn : n ≤ 64 := by rw [← hS.len]; exact hR.bag.len
  have hB : Below w.heap.size w (w.alloc (.cells #[.slice a n c, .slice b m d] 33)) := (Below.refl _ w).alloc (Nat.le_refl _) _
  have hX := bxs_new w 33 #[.slice a n c, .slice b m d] [.slice a n c, .slice b m d] rfl
  have c0 := hX.c 0 _ rfl; have c1 := hX.c 1 _ rfl
  have HS := Lib.hid hS; have HR := Lib.hid hR; have HB := Lib.hid hB; have HX := Lib.hid hX
  clear hS hR hB hX
  go_enter Tryz.func50, Tryz.ntmps50
  go_wp2_with fail
  clear c0 c1
  go_loopw [14] (fun x wr => ∃ k : Nat, k ≤ m ∧ x = .int .i64 k ∧ Hid (Below w.heap.size w wr) ∧ Hid (Bxs wr w.heap.size [.slice a n c, .slice b m d]))
    (fun x _ => m - (intOf x).toNat)
  case atStart => exact ⟨0, Nat.zero_le _, rfl, HB, HX⟩
  case round =>
    obtain ⟨k, hk, rfl, BW, XW⟩ := hrel
    have hsz := BW.out.size
    have hsz2 := XW.out.lt
    by_cases hlt : k < m
    · have SW := HS.out.keep BW.out
      have hkv : k < s.vols.length := by rw [HS.out.vlen]; exact hlt
      have hkr : k < rs.length := by rw [HS.out.rlen]; exact hlt
      obtain ⟨g, rfl, hg, d0, d1⟩ := rv_at SW.row hkr
      have hvo := HR.out.vol s.vols[k] (List.getElem_mem hkv)
      obtain ⟨e1, e2, e3⟩ := HS.out.vol k rs[k] s.vols[k] (List.getElem?_eq_getElem hkr) (List.getElem?_eq_getElem hkv)
      have hn1 : rs[k].n ≤ 32 := by rw [← e3]; exact hvo.len
      have NM : ∀ w, Calls Tryz.prog 79 #[.string rs[k].name] w fun e w' => e = .returned (.bool true) ∧ w = w' := fun w => by
        have hnm : Lg.nmB s.vols[k].name.data.toList = true := hvo.name
        have hle : s.vols[k].name.size ≤ maxLen := by
          unfold Lg.nmB at hnm
          simp at hnm
          have : s.vols[k].name.data.toList.length = s.vols[k].name.size := Array.length_toList ..
          unfold maxLen
          have := hnm.2.1
          omega
        have := Name_any s.vols[k].name w hle
        rw [hnm] at this
        rw [e1]
        exact this
      have HL2 : Hid (∀ V, Below w.heap.size w V → V.ownsRow base 81 3 (.slice rs[k].a rs[k].n rs[k].c) rs[k].n (dv s.vols[k].ids)) := Lib.hid fun V hb => own_keep e2 hb
      have HIDS := Lib.hid hvo.ids
      have HE3 := Lib.hid e3
      have BA := Lib.hid fun o => BW.out.alloc hsz o
      have XA := Lib.hid fun o => XW.out.alloc o
      have x1 := XW.out.c 1 _ rfl
      have hsl : 0 < k → ∃ (f5 : ByteArray), wr.cell? ⟨g, (k - 1) * 2, none⟩ = some (.string f5) ∧ Op.bytesLess f5.toList rs[k].name.toList = true := fun h0 => by
        obtain ⟨j, rfl⟩ : ∃ j, k = j + 1 := ⟨k - 1, by omega⟩
        have hj : j < rs.length := by omega
        obtain ⟨g', hg', -, d2, -⟩ := rv_at SW.row hj
        cases hg'
        obtain ⟨e4, -⟩ := HS.out.vol j rs[j] (s.vols[j]'(by omega)) (List.getElem?_eq_getElem hj) (List.getElem?_eq_getElem (by omega))
        exact ⟨rs[j].name, d2, by rw [e4, e1]; exact right_names HR.out hkv⟩
      clear hvo e1 e2 e3 SW
      generalize rs[k].name = f1 at *
      generalize rs[k].a = f2 at *
      generalize rs[k].n = f3 at *
      generalize rs[k].c = f4 at *
      generalize s.vols[k].ids = ids at *
      have hq : 0 < k → ∃ (f5 : ByteArray), wr.cell? ⟨g, (k - 1) * 2, none⟩ = some (.string f5) ∧ Op.bytesLess f5.toList f1.toList = true := hsl
      clear hsl
      have w1 : 0 < k → IntKind.i64.wrap ((k : Int) - 1) = (k : Int) - 1 := fun h => IntWalk.i64_in _ ⟨by omega, by omega⟩
      have w2 : 0 < k → ((k : Int) - 1).toNat = k - 1 := fun h => by omega
      have HID : Hid (∀ id ∈ ids, id = Bg.noId ∨ 0 ≤ idx (Bg.hit id) s.bag) := Lib.hid fun q h => (HIDS.out q h).imp (fun h => h) hit_find
      have FD : ∀ (i : Bool) (x y : Int) V, Below w.heap.size w V → Calls Tryz.prog 80 #[.slice a n c, .agg #[.bool i, .int .i64 x, .int .i64 y]] V fun e w' => e = .returned (.int .i64 (idx (Bg.hit ⟨i, x, y⟩) s.bag)) ∧ Below V.heap.size V w' := fun i x y V hb =>
        Find_I a n c s.bag i x y V (own_isl0 (own_keep HS.out.bag hb) HS.out.len) (by omega)
      rcases Nat.eq_zero_or_pos k with hk0 | hk0
      · have hgd : decide (0 < k) = false := decide_eq_false (by omega)
        clear hq hk0 w1 w2
        go_wp2_with fail
        go_quiet ((go_at_call 79; exact Calls.quiet_of_same ((NM _).mono fun e w' h => ⟨h.1, h.2.symm⟩)))
        go_wp2_with fail
        clear d0 d1 x1
        obtain ⟨wo, rfl⟩ : ∃ wo : World, wo = wr := ⟨_, rfl⟩
        go_loopw [46] (fun x wv => ∃ i : Nat, i ≤ f3 ∧ x = .int .i64 i ∧ Hid (Below w.heap.size w wv) ∧ Hid (Bxs wv w.heap.size [.slice a n c, .slice (some ⟨g, 0, none⟩) m d])) (fun x _ => f3 - (intOf x).toNat)
        case atStart => exact ⟨0, Nat.zero_le _, rfl, Lib.hid (below_drewN (BA.out _) _), Lib.hid ((XA.out _).drewN _)⟩
        case round =>
          obtain ⟨i, hi, rfl, BI, XI⟩ := hrel
          have hszi := BI.out.size
          have hszj := XI.out.lt
          by_cases hlt2 : i < f3
          · have hil : i < ids.length := by rw [HE3.out]; exact hlt2
            obtain ⟨g2, rfl, hg2, -, q0, q1, q2⟩ := dv_at (HL2.out wr BI.out) hil
            have hid := HID.out ids[i] (List.getElem_mem hil)
            have y0 := XI.out.c 0 _ rfl
            have BJ := Lib.hid fun o => BI.out.alloc hszi o
            have XJ := Lib.hid fun o => XI.out.alloc o
            have hid2 : (ids[i].is = false ∧ ids[i].sum = 0 ∧ ids[i].n = 0) ∨ (ids[i].is = true ∧ 0 ≤ idx (Bg.hit ⟨ids[i].is, ids[i].sum, ids[i].n⟩) s.bag) := by
              rcases hid with h | h
              · rw [h]; exact Or.inl ⟨rfl, rfl, rfl⟩
              · refine Or.inr ⟨?_, h⟩
                cases hb : ids[i].is with
                | true => rfl
                | false =>
                  exfalso
                  have hn : idx (Bg.hit ids[i]) s.bag = -1 := idx_miss fun j hj => by unfold Bg.hit; rw [hb]; rfl
                  rw [hn] at h
                  omega
            clear hid
            generalize ids[i].is = i1 at *
            generalize ids[i].sum = i2 at *
            generalize ids[i].n = i3 at *
            rcases hid2 with ⟨rfl, rfl, rfl⟩ | ⟨rfl, hge⟩
            · go_wp2_with fail
              go_roundw
              case rel => exact ⟨i + 1, hlt2, by go_num, Lib.hid (BJ.out _), Lib.hid (XJ.out _)⟩
              case measure => simp [intOf]; omega
            · have F1 := fun V hb => FD true i2 i3 V hb
              generalize idx (Bg.hit ⟨true, i2, i3⟩) s.bag = r at *
              go_wp2_with (go_at_call 80; with_reducible refine (F1 _ (BJ.out _)).mono ?_; rintro e w5 ⟨rfl, hb5⟩)
              have B5 := Lib.hid ((BJ.out _).trans (hb5.mono (BJ.out _).size))
              have X5 := Lib.hid ((XJ.out _).on hb5)
              clear hb5
              go_roundw
              case rel => exact ⟨i + 1, hlt2, by go_num, B5, X5⟩
              case measure => simp [intOf]; omega
          · obtain rfl : i = f3 := by omega
            go_wp2_with fail
            go_roundw
            case rel => exact ⟨k + 1, hlt, by go_num, BI, XI⟩
            case measure => simp [intOf]; omega
      · obtain ⟨f5, d2, hbl⟩ := hq hk0
        have hgd : decide (0 < k) = true := decide_eq_true (by omega)
        have w1' := w1 hk0
        have w2' := w2 hk0
        have e1 : (0 : Int) ≤ (k : Int) - 1 := by omega
        have e2 : (k : Int) - 1 < (m : Int) := by omega
        have e3 : (1 : Int) ≤ (k : Int) := by omega
        have e5 : 1 ≤ k := by omega
        have e6 : (k : Int) ≤ (m : Int) := by omega
        clear hq hk0 w1 w2
        go_wp2_with fail
        go_quiet ((go_at_call 79; exact Calls.quiet_of_same ((NM _).mono fun e w' h => ⟨h.1, h.2.symm⟩)))
        clear w1' w2' e1 e2 e3 e6
        go_wp2_with fail
        clear d0 d1 x1
        obtain ⟨wo, rfl⟩ : ∃ wo : World, wo = wr := ⟨_, rfl⟩
        go_loopw [46] (fun x wv => ∃ i : Nat, i ≤ f3 ∧ x = .int .i64 i ∧ Hid (Below w.heap.size w wv) ∧ Hid (Bxs wv w.heap.size [.slice a n c, .slice (some ⟨g, 0, none⟩) m d])) (fun x _ => f3 - (intOf x).toNat)
        case atStart => exact ⟨0, Nat.zero_le _, rfl, Lib.hid (below_drewN (BA.out _) _), Lib.hid ((XA.out _).drewN _)⟩
        case round =>
          obtain ⟨i, hi, rfl, BI, XI⟩ := hrel
          have hszi := BI.out.size
          have hszj := XI.out.lt
          by_cases hlt2 : i < f3
          · have hil : i < ids.length := by rw [HE3.out]; exact hlt2
            obtain ⟨g2, rfl, hg2, -, q0, q1, q2⟩ := dv_at (HL2.out wr BI.out) hil
            have hid := HID.out ids[i] (List.getElem_mem hil)
            have y0 := XI.out.c 0 _ rfl
            have BJ := Lib.hid fun o => BI.out.alloc hszi o
            have XJ := Lib.hid fun o => XI.out.alloc o
            have hid2 : (ids[i].is = false ∧ ids[i].sum = 0 ∧ ids[i].n = 0) ∨ (ids[i].is = true ∧ 0 ≤ idx (Bg.hit ⟨ids[i].is, ids[i].sum, ids[i].n⟩) s.bag) := by
              rcases hid with h | h
              · rw [h]; exact Or.inl ⟨rfl, rfl, rfl⟩
              · refine Or.inr ⟨?_, h⟩
                cases hb : ids[i].is with
                | true => rfl
                | false =>
                  exfalso
                  have hn : idx (Bg.hit ids[i]) s.bag = -1 := idx_miss fun j hj => by unfold Bg.hit; rw [hb]; rfl
                  rw [hn] at h
                  omega
            clear hid
            generalize ids[i].is = i1 at *
            generalize ids[i].sum = i2 at *
            generalize ids[i].n = i3 at *
            rcases hid2 with ⟨rfl, rfl, rfl⟩ | ⟨rfl, hge⟩
            · go_wp2_with fail
              go_roundw
              case rel => exact ⟨i + 1, hlt2, by go_num, Lib.hid (BJ.out _), Lib.hid (XJ.out _)⟩
              case measure => simp [intOf]; omega
            · have F1 := fun V hb => FD true i2 i3 V hb
              generalize idx (Bg.hit ⟨true, i2, i3⟩) s.bag = r at *
              go_wp2_with (go_at_call 80; with_reducible refine (F1 _ (BJ.out _)).mono ?_; rintro e w5 ⟨rfl, hb5⟩)
              have B5 := Lib.hid ((BJ.out _).trans (hb5.mono (BJ.out _).size))
              have X5 := Lib.hid ((XJ.out _).on hb5)
              clear hb5
              go_roundw
              case rel => exact ⟨i + 1, hlt2, by go_num, B5, X5⟩
              case measure => simp [intOf]; omega
          · obtain rfl : i = f3 := by omega
            go_wp2_with fail
            go_roundw
            case rel => exact ⟨k + 1, hlt, by go_num, BI, XI⟩
            case measure => simp [intOf]; omega
    · obtain rfl : k = m := by omega
      go_wp2_with fail
      go_ret
      exact ⟨rfl, BW.out⟩

end Go.Proofs.YtenkdpogdfcbgaaGreat

/- A map from ids to how often they stand in a list. -/
namespace Go.Proofs.YtenkdpogdfcbgaaGreat
open Go.RowKit Go.Maps Go.ChangeShapes Go.WideShapes
open Go.ChangeMaps (setBlock heap_setBlock_same heap_setBlock_other)

theorem Tryz.laidOut0 : laidOutB Tryz.prog = true := by kernel_rfl
theorem Tryz.deepId : Tryz.prog.keyTypeAt (Tryz.prog.types.size + 1) 81 = true := by kernel_rfl
theorem Tryz.wideId : (match Tryz.prog.underlying 81 with | some (.array _ _) | some (.struct _) => true | _ => false) = true := by rw [Tryz.underlying81]
theorem Tryz.rowId : (81 : TypeId) < Tryz.prog.types.size := of_decide_eq_true (by kernel_rfl)
theorem Tryz.key3Id : Tryz.prog.keyTypeAt 3 81 = true := by kernel_rfl
theorem le4 : 3 + 1 ≤ 10000 := by omega
set_option maxRecDepth 100000 in
theorem Tryz.lawId : WideMaps.KeyLaw Tryz.prog 81 := deep_law_laid Tryz.laidOut0 (m := 3) le4 Tryz.rowId Tryz.key3Id Tryz.wideId
theorem Tryz.keyedId : Keyed Tryz.prog 81 := Keyed.of_law Tryz.lawId
theorem Tryz.cellsId : Tryz.prog.cellsOf 81 = 3 := by kernel_rfl
theorem Tryz.formedId {c0 c1 c2 : Value} : (Value.agg #[c0, c1, c2]).formed Tryz.prog 81 = true := by simp [Value.formed, Tryz.underlying81, Tryz.cellsId]
theorem Tryz.zeroInt (w : World) : (zeroValue 3).run Tryz.prog w = .ok (.int .i64 0) w := by kernel_rfl

def idV (id : Bg.Id) : Value := .agg #[.bool id.is, .int .i64 id.sum, .int .i64 id.n]
/-- Its numbers are numbers. -/
def IdOk (id : Bg.Id) : Prop := (Lit.int .i64 id.sum).wf = true ∧ (Lit.int .i64 id.n).wf = true

set_option maxRecDepth 100000 in
theorem key_ex {id : Bg.Id} (h : IdOk id) (w : World) : ∃ kl, keyOf Tryz.prog 81 (idV id) = some kl := by
  obtain ⟨h1, h2⟩ := h
  have := Go.Joins.shut_agg3 (H := Unit) (enc := fun _ => ()) (P := Tryz.prog) (w := w) (base := 0) (spare := fun _ => true) (held := true) (t := 81) (v0 := .bool id.is) (v1 := .int .i64 id.sum) (v2 := .int .i64 id.n)
    Tryz.underlying81 (by kernel_rfl) Tryz.cellsId (shut_bool Tryz.underlying4 _) (shut_int Tryz.underlying3 h1) (shut_int Tryz.underlying3 h2)
  exact ⟨_, (keyOf_asKey Tryz.deepId Tryz.wideId Tryz.formedId this).1⟩

section
variable {P : Program} {w : World} {t k e : TypeId} {R : Value → Option (DataW Unit × List MemPlace)} {b : Nat} {es : Array MapEntry} {clock : Nat}

/-- What a look for a place to store leaves: the block as it was, or with a nought at the key. -/
theorem entry_ways (K : WideMaps.KeyLaw P k) (ht : P.underlying t = some (.map k e)) {z : Value} (hz : ∀ u : World, (zeroValue e).run P u = .ok z u) (hb : w.heap[b]? = some (.map es clock)) (F : WideElems.Fit P k R es clock)
    {key : Value} {kl : Lit} (hkey : keyOf P k key = some kl) :
    (∃ v st cl', (Instr.mapEntry t (.map (some b)) key).run P w = .ok (.tuple #[v, goInt st]) (setBlock w b (.map es cl')) ∧ cl' = clock) ∨
    ((∀ x ∈ es.toList, x.key ≠ key) ∧ ∃ v st es1 cl1, (Instr.mapEntry t (.map (some b)) key).run P w = .ok (.tuple #[v, goInt st]) (setBlock w b (.map es1 cl1)) ∧ (Instr.mapUpdate t (.map (some b)) key z).run P w = .ok () (setBlock w b (.map es1 cl1))) := by
  rcases K.find w hkey es.toList F.keys with ⟨h1, h2⟩ | ⟨j, e0, h1, h2, h3⟩
  · refine Or.inr ⟨h2, z, clock, es.push ⟨key, z, clock⟩, clock + 1, ?_, ?_⟩
    · simp [Instr.mapEntry, run_underlying ht, MapKept.run_getObj_map hb, K.check w false hkey, h1, hz, MapKept.run_setObj_map _ hb, Result.andThen, setBlock]
    · simp [Instr.mapUpdate, run_underlying ht, MapKept.run_getObj_map hb, K.check w false hkey, h1, MapKept.run_setObj_map _ hb, Result.andThen, setBlock]
  · have hj : es[j]? = some e0 := by simpa using h2
    have hsame : es.modify j (fun e => { e with key := key }) = es := by
      apply Array.ext'
      rw [Array.toList_modify]
      apply List.ext_getElem?
      intro i
      rw [List.getElem?_modify]
      by_cases hi : j = i
      · subst hi
        rw [h2]
        simp [← h3]
      · simp [hi]
    refine Or.inl ⟨e0.val, e0.born, clock, ?_, rfl⟩
    simp [Instr.mapEntry, run_underlying ht, MapKept.run_getObj_map hb, K.check w false hkey, h1, hj, h3, K.stays w hkey, hsame, MapKept.run_setObj_map _ hb, Result.andThen, setBlock]
end

/-- A map whose entries say how often an id stands in a list. -/
def Cm (W : World) (b : Nat) (l : List Bg.Id) : Prop :=
  ∃ n D, n ≤ l.length ∧ W.ownsMap (H := Unit) Tryz.prog 81 (plainElem Tryz.prog 3) b n D ∧ ∀ id kl, keyOf Tryz.prog 81 (idV id) = some kl → D.atKey kl (.lit (.int .i64 0)) = .lit (.int .i64 (Vo.cnt l id : Int))

theorem Cm.new (w : World) : Cm (w.alloc (.map #[] 0)) w.heap.size [] := ⟨0, .map [], Nat.le_refl _, World.ownsMap_made _ _ _ _, fun _ _ _ => rfl⟩

theorem Cm.keep {W W' : World} {b : Nat} {l : List Bg.Id} (h : Cm W b l) (hb : W'.heap[b]? = W.heap[b]?) : Cm W' b l := by
  obtain ⟨n, D, h1, ⟨es, clock, h2, h3⟩, h4⟩ := h
  exact ⟨n, D, h1, ⟨es, clock, hb.trans h2, h3⟩, h4⟩

theorem Cm.lt {W : World} {b : Nat} {l : List Bg.Id} (h : Cm W b l) : b < W.heap.size := by
  obtain ⟨n, D, h1, h2, h4⟩ := h
  exact h2.lt

theorem Cm.on {W W' : World} {b : Nat} {l : List Bg.Id} (h : Cm W b l) (hb : Below W.heap.size W W') : Cm W' b l := h.keep (hb.block b h.lt)

theorem Cm.look {W : World} {b : Nat} {l : List Bg.Id} (h : Cm W b l) {id : Bg.Id} (hid : IdOk id) : (Instr.lookup 99 (.map (some b)) (idV id) false).run Tryz.prog W = .ok (.int .i64 (Vo.cnt l id : Int)) W := by
  obtain ⟨n, D, h1, h2, h4⟩ := h
  obtain ⟨kl, hkl⟩ := key_ex hid W
  obtain ⟨c, hr, hat, -⟩ := h2.lookup_int Tryz.keyedId Tryz.underlying99 Tryz.underlying3 (Tryz.zeroInt W) hkl
  rw [h4 id kl hkl] at hat
  cases hat
  exact hr

theorem setBlock_heap {w : World} {b : Nat} {es : Array MapEntry} {cl : Nat} {o' : Obj} (h : w.heap[b]? = some (.map es cl)) : (setBlock w b o').heap[b]? = some o' := heap_setBlock_same h _

theorem plain_int (a : Int) (h : (Lit.int .i64 a).wf = true) : plainElem (H := Unit) Tryz.prog 3 (.int .i64 a) = some (.lit (.int .i64 a), []) := plainElem_int Tryz.underlying3 h

/-- One more. -/
theorem Cm.step {W : World} {b : Nat} {l : List Bg.Id} (h : Cm W b l) {id : Bg.Id} (hid : IdOk id) (hl : l.length ≤ 1000000) :
    ∃ v st W1 W3, (Instr.mapEntry 99 (.map (some b)) (idV id)).run Tryz.prog W = .ok (.tuple #[v, .int .i64 st]) W1 ∧
      (Instr.lookup 99 (.map (some b)) (idV id) false).run Tryz.prog W1 = .ok (.int .i64 (Vo.cnt l id : Int)) W1 ∧
      (Instr.entryStore 99 (.map (some b)) (.int .i64 st) (.int .i64 ((Vo.cnt l id : Int) + 1))).run Tryz.prog W1 = .ok () W3 ∧
      Cm W3 b (l ++ [id]) ∧ W.grownBy W3 (some b) := by
  obtain ⟨n, D, h1, h2, h4⟩ := h
  obtain ⟨kl, hkl⟩ := key_ex hid W
  have h2c := h2
  obtain ⟨es, clock, hb, F, hs, hD⟩ := h2c
  have hc := Vo.cnt_le l id
  obtain ⟨v0, st, es1, clock1, e1, e2, e3⟩ := WideElems.entry_then_store Tryz.lawId Tryz.underlying99 Tryz.zeroInt hb F hkl
  obtain ⟨es', clock', e4, e5⟩ := e3 (setBlock W b (.map es1 clock1)) (.int .i64 ((Vo.cnt l id : Int) + 1)) (setBlock_heap hb)
  have hwf : (Lit.int .i64 ((Vo.cnt l id : Int) + 1)).wf = true := WalkArith.wf_i64 (by omega)
  obtain ⟨w', e6, e7, e8⟩ := h2.update Tryz.keyedId Tryz.underlying99 (by unfold maxLen; omega) hkl (plain_int _ hwf)
  have e9 : w' = setBlock W b (.map es' clock') := by
    have := e6.symm.trans e5
    exact (Result.ok.inj this).2
  have hlook : ∀ D1 n1, (setBlock W b (.map es1 clock1)).ownsMap (H := Unit) Tryz.prog 81 (plainElem Tryz.prog 3) b n1 D1 → D1.atKey kl (.lit (.int .i64 0)) = .lit (.int .i64 (Vo.cnt l id : Int)) → (Instr.lookup 99 (.map (some b)) (idV id) false).run Tryz.prog (setBlock W b (.map es1 clock1)) = .ok (.int .i64 (Vo.cnt l id : Int)) (setBlock W b (.map es1 clock1)) := fun D1 n1 o1 ha => by
    obtain ⟨c, hr, hat, -⟩ := o1.lookup_int Tryz.keyedId Tryz.underlying99 Tryz.underlying3 (Tryz.zeroInt _) hkl
    rw [ha] at hat
    cases hat
    exact hr
  refine ⟨v0, (st : Int), setBlock W b (.map es1 clock1), setBlock (setBlock W b (.map es1 clock1)) b (.map es' clock'), e1, ?_, e4, ?_, ?_⟩
  · rcases entry_ways Tryz.lawId Tryz.underlying99 Tryz.zeroInt hb F hkl with ⟨v, st', cl', f1, rfl⟩ | ⟨hno, v, st', es2, cl2, f1, f2⟩
    · have f3 := (Result.ok.inj (e1.symm.trans f1)).2
      have f4 : some (Obj.map es1 clock1) = some (Obj.map es cl') := by
        have := congrArg (fun w : World => w.heap[b]?) f3
        rwa [setBlock_heap hb, setBlock_heap hb] at this
      refine hlook D n ⟨es, cl', ?_, F, hs, hD⟩ (h4 id kl hkl)
      rw [setBlock_heap hb, f4]
    · have f3 := (Result.ok.inj (e1.symm.trans f1)).2
      obtain ⟨w2, g1, g2, g3⟩ := h2.update Tryz.keyedId Tryz.underlying99 (by unfold maxLen; omega) hkl (plain_int 0 (by decide))
      have g4 : w2 = setBlock W b (.map es1 clock1) := by
        rw [f3]
        exact (Result.ok.inj (g1.symm.trans f2)).2
      rw [g4] at g2
      have hz := WideElems.atKey_none Tryz.lawId F hkl hno (.lit (.int .i64 0))
      rw [← hD, h4 id kl hkl] at hz
      refine hlook _ _ g2 ?_
      rw [atKey_put_same h2.isMap (Tryz.keyedId.key hkl), hz]
  · refine ⟨n + 1, D.put kl (.lit (.int .i64 ((Vo.cnt l id : Int) + 1))), by rw [List.length_append]; simp; omega, ?_, fun id' kl' hk' => ?_⟩
    · obtain ⟨es3, cl3, i1, i2, i3⟩ := e7
      rw [e9, setBlock_heap hb] at i1
      exact ⟨es3, cl3, by rw [setBlock_heap (setBlock_heap hb)]; exact i1, i2, i3⟩
    · rw [Vo.cnt_app]
      by_cases hkk : kl' = kl
      · subst hkk
        have hv := Tryz.keyedId.inj hk' hkl
        have hid' : id' = id := by
          obtain ⟨a1, a2, a3⟩ := id'
          obtain ⟨b1, b2, b3⟩ := id
          unfold idV at hv
          simpa using hv
        subst hid'
        rw [atKey_put_same h2.isMap (Tryz.keyedId.key hkl), Vo.cnt_cons, if_pos rfl]
        simp [Vo.cnt]
      · have hne : id ≠ id' := fun e => hkk (by rw [e] at hkl; exact Option.some.inj (hk'.symm.trans hkl))
        rw [atKey_put_other hkk, h4 id' kl' hk', Vo.cnt_cons, if_neg hne]
        simp [Vo.cnt]
  · exact ⟨rfl, rfl, rfl, by simp [setBlock], fun i _ hi => by
      rw [heap_setBlock_other (setBlock_heap hb) _ (fun e => hi (by rw [e])), heap_setBlock_other hb _ (fun e => hi (by rw [e]))]⟩

end Go.Proofs.YtenkdpogdfcbgaaGreat

/- The walk of vol.Check on a right state. -/
namespace Go.Proofs.YtenkdpogdfcbgaaGreat
open Go.RowKit

theorem idOk_of {s : Vo.St} (h : Vo.Right s) {v : Vo.Vl} (hv : v ∈ s.vols) {id : Bg.Id} (hi : id ∈ v.ids) : IdOk id := by
  rcases (h.vol v hv).ids id hi with rfl | ⟨x, hx, rfl⟩
  · exact ⟨by decide, by decide⟩
  · have := (Bg.one_fit (h.bag.one x hx)).1
    obtain ⟨a1, a2, a3, a4⟩ := this
    exact ⟨WalkArith.wf_i64 (by show -9223372036854775808 ≤ x.sum ∧ x.sum ≤ 9223372036854775807; omega), WalkArith.wf_i64 (by show -9223372036854775808 ≤ x.n ∧ x.n ≤ 9223372036854775807; omega)⟩

theorem idOk_item {s : Vo.St} (h : Vo.Right s) {x : Bg.It} (hx : x ∈ s.bag) : IdOk (Vo.idOf x) := by
  obtain ⟨a1, a2, a3, a4⟩ := (Bg.one_fit (h.bag.one x hx)).1
  exact ⟨WalkArith.wf_i64 (by show -9223372036854775808 ≤ x.sum ∧ x.sum ≤ 9223372036854775807; omega), WalkArith.wf_i64 (by show -9223372036854775808 ≤ x.n ∧ x.n ≤ 9223372036854775807; omega)⟩

theorem allIds_len {s : Vo.St} (h : Vo.Right s) (k : Nat) : (Vo.allIds (s.vols.take k)).length ≤ 192 := by
  have : ∀ l : List Vo.Vl, (∀ v ∈ l, v.ids.length ≤ 32) → (Vo.allIds l).length ≤ 32 * l.length := fun l => by
    induction l with
    | nil => intro _; exact Nat.le_refl _
    | cons v l ih =>
      intro hl
      have h1 := hl v List.mem_cons_self
      have h2 := ih fun u hu => hl u (List.mem_cons_of_mem _ hu)
      show (v.ids ++ Vo.allIds l).length ≤ _
      rw [List.length_append, List.length_cons]
      omega
  have h1 := this (s.vols.take k) fun v hv => (h.vol v (List.mem_of_mem_take hv)).len
  have h2 : (s.vols.take k).length ≤ 6 := by rw [List.length_take]; have := h.len; omega
  omega

theorem allIds_take (vs : List Vo.Vl) {k : Nat} (hk : k < vs.length) : Vo.allIds (vs.take (k + 1)) = Vo.allIds (vs.take k) ++ vs[k].ids := by
  unfold Vo.allIds
  rw [List.take_succ_eq_append_getElem hk, List.flatMap_append]
  simp

set_option maxRecDepth 100000 in
set_option maxHeartbeats 8000000 in
theorem Check_V (a b : Option Addr) (n c m d base : Nat) (rs : List Rw) (s : Vo.St) (w : World) (hS : StW w base a n c b m d rs s) (hR : Vo.Right s) :
    Calls Tryz.prog 23 #[.agg #[.slice a n c, .slice b m d]] w fun e w' => e = .returned (.int .i64 0) ∧ Below w.heap.size w w' := by
  have hm : m ≤ 6 := by rw [← hS.vlen]; exact hR.len
  have hn : n ≤ 64 := by rw [← hS.len]; exact hR.bag.len
  have hB : Below w.heap.size w (w.alloc (.cells #[.slice a n c, .slice b m d] 33)) := (Below.refl _ w).alloc (Nat.le_refl _) _
  have hX := bxs_new w 33 #[.slice a n c, .slice b m d] [.slice a n c, .slice b m d] rfl
  have C1 := Check_I a n c s.bag _ (own_isl0 (own_keep hS.bag hB) hS.len) (good_small hR.bag)
  rw [Bg.good_check hR.bag] at C1
  have V1 : ∀ W, Below w.heap.size w W → Calls Tryz.prog 50 #[.agg #[.slice a n c, .slice b m d]] W fun e w' => e = .returned (.int .i64 0) ∧ Below W.heap.size W w' := fun W hb => volumes_V a b n c m d base rs s W (hS.keep hb) hR
  have HS := Lib.hid hS; have HR := Lib.hid hR; have HB := Lib.hid hB; have HX := Lib.hid hX
  have c0 := hX.c 0 _ rfl
  have hmm := @run_makeMap Tryz.prog
  clear hS hR hB hX
  go_enter Tryz.func23, Tryz.ntmps23
  go_wp2_with fail
  with_reducible refine C1.mono ?_
  rintro e w1 ⟨rfl, hb1⟩
  have HB1 := Lib.hid (HB.out.trans (hb1.mono HB.out.size))
  have HX1 := Lib.hid (HX.out.on hb1)
  clear c0 hb1 C1
  have c0 := HX1.out.c 0 _ rfl
  have c1 := HX1.out.c 1 _ rfl
  go_wp2_with fail
  with_reducible refine (V1 _ HB1.out).mono ?_
  rintro e w2 ⟨rfl, hb2⟩
  have HB2 := Lib.hid (HB1.out.trans (hb2.mono HB1.out.size))
  have HX2 := Lib.hid (HX1.out.on hb2)
  clear c0 c1 hb2 V1
  have c0 := HX2.out.c 0 _ rfl
  have c1 := HX2.out.c 1 _ rfl
  have hlt2 := HX2.out.lt
  have HB3 := Lib.hid (HB2.out.alloc HB2.out.size (.map #[] 0))
  have HX3 := Lib.hid (HX2.out.alloc (.map #[] 0))
  have HC3 := Lib.hid (Cm.new w2)
  go_wp2_with fail
  clear c0 c1
  go_loopw [27] (fun x wr => ∃ k : Nat, k ≤ m ∧ x = .int .i64 k ∧ Hid (Below w.heap.size w wr) ∧ Hid (Bxs wr w.heap.size [.slice a n c, .slice b m d]) ∧ Hid (Cm wr w2.heap.size (Vo.allIds (s.vols.take k))))
    (fun x _ => m - (intOf x).toNat)
  case atStart => exact ⟨0, Nat.zero_le _, rfl, HB3, HX3, HC3⟩
  case round =>
    obtain ⟨k, hk, rfl, BW, XW, CW⟩ := hrel
    have hsz := BW.out.size
    have hsz2 := XW.out.lt
    by_cases hlt : k < m
    · have SW := HS.out.keep BW.out
      have hkv : k < s.vols.length := by rw [HS.out.vlen]; exact hlt
      have hkr : k < rs.length := by rw [HS.out.rlen]; exact hlt
      obtain ⟨g, rfl, hg, d0, d1⟩ := rv_at SW.row hkr
      obtain ⟨e1, e2, e3⟩ := HS.out.vol k rs[k] s.vols[k] (List.getElem?_eq_getElem hkr) (List.getElem?_eq_getElem hkv)
      have hn1 : rs[k].n ≤ 32 := by rw [← e3]; exact (HR.out.vol s.vols[k] (List.getElem_mem hkv)).len
      have HL2 : Hid (∀ V, Below w.heap.size w V → V.ownsRow base 81 3 (.slice rs[k].a rs[k].n rs[k].c) rs[k].n (dv s.vols[k].ids)) := Lib.hid fun V hb => own_keep e2 hb
      have HOK : Hid (∀ q ∈ s.vols[k].ids, IdOk q) := Lib.hid fun q hq => idOk_of HR.out (List.getElem_mem hkv) hq
      have HE3 := Lib.hid e3
      have HAT := Lib.hid (allIds_take s.vols hkv)
      have HLL := Lib.hid (allIds_len HR.out k)
      have BA := Lib.hid fun o => BW.out.alloc hsz o
      have XA := Lib.hid fun o => XW.out.alloc o
      have CA : Hid (∀ o, Cm (wr.alloc o) w2.heap.size (Vo.allIds (s.vols.take k) ++ s.vols[k].ids.take 0)) := Lib.hid fun o => by
        rw [List.take_zero, List.append_nil]
        exact CW.out.on ((Below.refl _ wr).alloc (Nat.le_refl _) o)
      clear e1 e2 e3 SW
      generalize rs[k].name = f1 at *
      generalize rs[k].a = f2 at *
      generalize rs[k].n = f3 at *
      generalize rs[k].c = f4 at *
      generalize s.vols[k].ids = ids at *
      generalize Vo.allIds (s.vols.take k) = L0 at *
      go_wp2_with fail
      clear d0 d1
      obtain ⟨wo, rfl⟩ : ∃ wo : World, wo = wr := ⟨_, rfl⟩
      go_loopw [34] (fun x wv => ∃ i : Nat, i ≤ f3 ∧ x = .int .i64 i ∧ Hid (Below w.heap.size w wv) ∧ Hid (Bxs wv w.heap.size [.slice a n c, .slice (some ⟨g, 0, none⟩) m d]) ∧ Hid (Cm wv w2.heap.size (L0 ++ ids.take i))) (fun x _ => f3 - (intOf x).toNat)
      case atStart => exact ⟨0, Nat.zero_le _, rfl, Lib.hid (BA.out _), Lib.hid (XA.out _), Lib.hid (CA.out _)⟩
      case round =>
        obtain ⟨i, hi, rfl, BI, XI, CI⟩ := hrel
        have hszi := BI.out.size
        have hszj := XI.out.lt
        by_cases hlt3 : i < f3
        · have hil : i < ids.length := by rw [HE3.out]; exact hlt3
          obtain ⟨g2, rfl, hg2, -, q0, q1, q2⟩ := dv_at (HL2.out wr BI.out) hil
          have hok := HOK.out ids[i] (List.getElem_mem hil)
          have HT : Hid (ids.take (i + 1) = ids.take i ++ [ids[i]]) := Lib.hid (List.take_succ_eq_append_getElem hil)
          have hll : (L0 ++ ids.take i).length ≤ 1000000 := by
            have := HLL.out
            rw [List.length_append, List.length_take]
            omega
          have CJ := fun o => (CI.out.on ((Below.refl _ wr).alloc (Nat.le_refl _) o)).keep (W' := (wr.alloc o).drew) rfl
          have LK := (CJ (.cells #[.bool ids[i].is, .int .i64 ids[i].sum, .int .i64 ids[i].n] 81)).look hok
          obtain ⟨v, st, W1, W3, h1, h2, h3, h4, h5⟩ := (CJ (.cells #[.bool ids[i].is, .int .i64 ids[i].sum, .int .i64 ids[i].n] 81)).step hok hll
          have HC4 := Lib.hid h4
          have hcc := Vo.cnt_le (L0 ++ ids.take i) ids[i]
          have BJ := Lib.hid (((BI.out.alloc hszi (.cells #[.bool ids[i].is, .int .i64 ids[i].sum, .int .i64 ids[i].n] 81)).drew).grown h5 (by show w.heap.size ≤ (wr.alloc _).heap.size; rw [World.size_alloc]; omega) (fun k hk => by cases hk; omega))
          have XJ := Lib.hid ((XI.out.alloc (.cells #[.bool ids[i].is, .int .i64 ids[i].sum, .int .i64 ids[i].n] 81)).drew.grown h5 (fun e => by have := Option.some.inj e; omega))
          have hc2 : Vo.cnt (L0 ++ ids.take i) ids[i] ≤ 1000000 := by omega
          clear CJ hok hcc h4 h5 hll
          unfold idV at LK h1 h2
          generalize Vo.cnt (L0 ++ ids.take i) ids[i] = cc at *
          generalize ids[i].is = i1 at *
          generalize ids[i].sum = i2 at *
          generalize ids[i].n = i3 at *
          go_wp2_with fail
          go_region
          all_goals
            go_wp2_with fail
            go_roundw
            case rel => exact ⟨i + 1, hlt3, by go_num, BJ, XJ, Lib.hid (by rw [HT.out, ← List.append_assoc]; exact HC4.out)⟩
            case measure => simp [intOf]; omega
        · obtain rfl : i = f3 := by omega
          have hte : ids.take i = ids := List.take_of_length_le (by rw [HE3.out]; exact Nat.le_refl _)
          have CI2 : Hid (Cm wr w2.heap.size (Vo.allIds (s.vols.take (k + 1)))) := Lib.hid (by rw [HAT.out, ← hte]; exact CI.out)
          clear hte
          go_wp2_with fail
          go_roundw
          case rel => exact ⟨k + 1, hlt, by go_num, BI, XI, CI2⟩
          case measure => simp [intOf]; omega
    · obtain rfl : k = m := by omega
      have hte : s.vols.take k = s.vols := List.take_of_length_le (by rw [HS.out.vlen]; exact Nat.le_refl _)
      have CF : Hid (Cm wr w2.heap.size (Vo.allIds s.vols)) := Lib.hid (by rw [← hte]; exact CW.out)
      have c0 := XW.out.c 0 _ rfl
      clear hte CW
      go_wp2_with fail
      clear c0
      obtain ⟨wo, rfl⟩ : ∃ wo : World, wo = wr := ⟨_, rfl⟩
      go_loopw [49] (fun x wv => ∃ i : Nat, i ≤ n ∧ x = .int .i64 i ∧ Hid (Below w.heap.size w wv) ∧ Hid (Cm wv w2.heap.size (Vo.allIds s.vols))) (fun x _ => n - (intOf x).toNat)
      case atStart => exact ⟨0, Nat.zero_le _, rfl, BW, CF⟩
      case round =>
        obtain ⟨i, hi, rfl, BI, CI⟩ := hrel
        have hszi := BI.out.size
        by_cases hlt3 : i < n
        · have hil : i < s.bag.length := by rw [HS.out.len]; exact hlt3
          obtain ⟨X, b', o', q', rfl, hX, k1, k2, k3, k4⟩ := (own_isl0 (own_keep HS.out.bag BI.out) HS.out.len).get hil
          have hok := idOk_item HR.out (List.getElem_mem hil)
          have hrf := HR.out.refs s.bag[i] (List.getElem_mem hil)
          have CJ := fun o => (CI.out.on ((Below.refl _ wr).alloc (Nat.le_refl _) o)).keep (W' := (wr.alloc o).drew) rfl
          have LK := (CJ (.cells #[.int .i64 s.bag[i].sum, .int .i64 s.bag[i].n, .string s.bag[i].text, .int .i64 s.bag[i].refs] 75)).look hok
          rw [← hrf] at LK
          have BJ := Lib.hid ((BI.out.alloc hszi (.cells #[.int .i64 s.bag[i].sum, .int .i64 s.bag[i].n, .string s.bag[i].text, .int .i64 s.bag[i].refs] 75)).drew)
          have CK := Lib.hid (CJ (.cells #[.int .i64 s.bag[i].sum, .int .i64 s.bag[i].n, .string s.bag[i].text, .int .i64 s.bag[i].refs] 75))
          clear CJ hok hrf
          unfold idV Vo.idOf at LK
          dsimp only at LK
          generalize s.bag[i].sum = f1 at *
          generalize s.bag[i].n = f2 at *
          generalize s.bag[i].text = f3 at *
          generalize s.bag[i].refs = f4 at *
          go_wp2_with fail
          go_region
          all_goals
            go_wp2_with fail
            go_roundw
            case rel => exact ⟨i + 1, hlt3, by go_num, BJ, CK⟩
            case measure => simp [intOf]; omega
        · obtain rfl : i = n := by omega
          go_wp2_with fail
          go_ret
          exact ⟨rfl, BI.out⟩

end Go.Proofs.YtenkdpogdfcbgaaGreat
