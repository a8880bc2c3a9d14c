import Derived.Test.YthccdoejnklidaaVlS
import Derived.Test.YthccdoejnklidaaLogW
/- The walks of slices.Clone at ids and of vol.fresh. -/
namespace Go.Proofs.Ythccdoejnklidaa
open Go.RowKit

/-- The id at a place. -/
theorem dv_at {w : World} {base n m c k : Nat} {e : TypeId} {a : Option Addr} {l : List Bg.Id} (h : w.ownsRow base e 3 (.slice a n c) m (dv l)) (hk : k < l.length) :
    ∃ g, a = some ⟨g, 0, none⟩ ∧ g < w.heap.size ∧ base ≤ g ∧ w.cell? ⟨g, k * 3, none⟩ = some (.bool l[k].is) ∧ w.cell? ⟨g, k * 3 + 1, none⟩ = some (.int .i64 l[k].sum) ∧ w.cell? ⟨g, k * 3 + 2, none⟩ = some (.int .i64 l[k].n) := by
  have hl := h.1
  rw [dv_length] at hl
  obtain ⟨g, cap, hv, h1, h2⟩ := h.form (by omega)
  cases hv
  have hg := dv_get (List.getElem?_eq_getElem hk)
  exact ⟨g, rfl, h2, h1, by rw [h.cellAt _ (by omega), hg.1], by rw [h.cellAt _ (by omega), hg.2.1], by rw [h.cellAt _ (by omega), hg.2.2]⟩

theorem own_len3 {w : World} {base m : Nat} {e : TypeId} {v : Value} {l : List Bg.Id} (h : w.ownsRow base e 3 v m (dv l)) : l.length = m := by
  have hl := h.1
  rw [dv_length] at hl
  omega

set_option maxRecDepth 100000 in
set_option maxHeartbeats 4000000 in
theorem Clone_D (a : Option Addr) (n c base : Nat) (l : List Bg.Id) (w : World) (hT : w.ownsRow base 68 3 (.slice a n c) n (dv l)) (hn : n ≤ 1099511627776) :
    Calls Try.prog 51 #[.slice a n c] w fun e w' => ∃ v, e = .returned v ∧ w'.ownsRow w.heap.size 68 3 v n (dv l) ∧ Below w.heap.size w w' := by
  obtain ⟨i0, hi, hz0, hz1, hz2⟩ := info_parts Try.infoId
  have hll := own_len3 hT
  rcases hT.2 with ⟨he, h0⟩ | ⟨g, cap, cur, he, hg, hh, hnc, hcm, hcur⟩
  · cases he
    obtain rfl : l = [] := List.length_eq_zero_iff.1 hll
    clear hT hll
    have en : ∀ w, (binOp .eql 63 (.slice none 0 0) (.slice none 0 0)).run Try.prog w = .ok (.bool true) w := fun w => Lib.run_eql_slice_nil w 63 68 none 0 0 0 0 Try.underlying63
    go_enter Try.func51, Try.ntmps51
    go_wp2_with fail
    go_ret
    exact ⟨_, rfl, World.ownsRow_nil _ _ _ _, Below.refl _ _⟩
  · cases he
    have HB1 : ∀ T, Below w.heap.size w (w.alloc (.cells #[] T)) := fun T => (Below.refl _ w).alloc (Nat.le_refl _) _
    have hcells : ∀ (T : TypeId) j u, (dv l)[j]? = some u → (w.alloc (.cells #[] T)).cell? ((⟨g, 0, none⟩ : Addr).add j) = some u := fun T => (own_keep hT (HB1 T)).cells rfl
    have H3 := Lib.hid (hcells 68)
    have HL : Hid ((dv l).length = n * 3) := Lib.hid (by rw [dv_length, hll])
    have H5 : Hid (0 + n ≤ maxLen ∧ (0 + n) * 24 ≤ 140737488355328) := Lib.hid ⟨by unfold maxLen; omega, by omega⟩
    have HO : Hid ((w.alloc (.cells #[] 68)).ownsRow w.heap.size 68 3 (.slice (some ⟨w.heap.size, 0, none⟩) 0 0) 0 []) := Lib.hid (World.ownsRow_made w #[] 0 (Nat.le_refl _) (Nat.zero_le _) rfl)
    have HS : Hid (w.heap.size ≤ (w.alloc (.cells #[] 68)).heap.size) := Lib.hid (by rw [World.size_alloc]; omega)
    have HB := Lib.hid (HB1 68)
    clear hcells hT HB1 hh hcur hll
    have en : ∀ w, (binOp .eql 63 (.slice (some ⟨g, 0, none⟩) n c) (.slice none 0 0)).run Try.prog w = .ok (.bool false) w := fun w => Lib.run_eql_slice_nil w 63 68 (some ⟨g, 0, none⟩) n c 0 0 Try.underlying63
    go_enter Try.func51, Try.ntmps51
    go_wp2_with (at_builtin; refine wpList_append_own _ rfl _ _ _ rfl w.heap.size 68 i0 (.agg #[.bool false, .int .i64 0, .int .i64 0]) 3 24 Try.underlying63 hi hz0 hz1 hz2 rfl (by decide) (.slice (some ⟨w.heap.size, 0, none⟩) 0 0) 0 [] rfl HO.out ⟨g, 0, none⟩ n c (dv l) rfl HL.out H3.out (dv_one l) H5.out.1 H5.out.2 HS.out ?_)
    intro v' w' q1 q2 _
    have HF : Hid (w'.ownsRow w.heap.size 68 3 v' n (dv l) ∧ Below w.heap.size w w') := Lib.hid ⟨by simpa using q1, own_grown HO.out HB.out (Nat.le_refl _) HS.out q2⟩
    clear q1 q2 H3 HL H5
    go_wp2_with fail
    go_ret
    exact ⟨_, rfl, HF.out⟩

theorem findI_some {vs : List Vo.Vl} {name : ByteArray} {i : Nat} (h : Vo.find vs name = some i) : Vo.findI vs name = (i : Int) ∧ i < vs.length := by
  refine ⟨by unfold Vo.findI; rw [h], ?_⟩
  exact (List.findIdx?_eq_some_iff_getElem.1 h).1
theorem findI_none {vs : List Vo.Vl} {name : ByteArray} (h : Vo.find vs name = none) : Vo.findI vs name = -1 := by unfold Vo.findI; rw [h]
theorem findI_ge (vs : List Vo.Vl) (name : ByteArray) : decide (0 ≤ Vo.findI vs name) = (Vo.find vs name).isSome := by
  cases h : Vo.find vs name with
  | none => rw [findI_none h]; rfl
  | some i => rw [(findI_some h).1]; exact decide_eq_true (by omega)

set_option maxHeartbeats 2000000 in
theorem fresh_V (a b : Option Addr) (n c m d base : Nat) (rs : List Rw) (s : Vo.St) (name : ByteArray) (w : World) (hS : StW w base a n c b m d rs s) (hm : m ≤ 64) (hn : name.size ≤ maxLen) :
    Calls Try.prog 43 #[.agg #[.slice a n c, .slice b m d], .string name] w fun e w' => e = .returned (.int .i64 (Vo.freshE s.vols name)) ∧ Below w.heap.size w w' := by
  have hB : Below w.heap.size w (w.alloc (.cells #[.slice a n c, .slice b m d] 32)) := (Below.refl _ w).alloc (Nat.le_refl _) _
  have N1 := fun w => Name_any name w hn
  have F1 := find_V a b n c m d base rs s name _ (hS.keep hB) hm
  obtain ⟨R, hR⟩ : ∃ R, Vo.freshE s.vols name = R := ⟨_, rfl⟩
  rw [hR]
  unfold Vo.freshE at hR
  have h0 := findI_ge s.vols name
  have HV := Lib.hid hS.vlen
  have HB := Lib.hid hB
  have hc0 := cell_new w (T := 32) (xs := #[.slice a n c, .slice b m d]) (k := 1) rfl
  have HC : Hid (∀ V, Below (w.alloc (.cells #[.slice a n c, .slice b m d] 32)).heap.size (w.alloc (.cells #[.slice a n c, .slice b m d] 32)) V → V.cell? ⟨w.heap.size, 1, none⟩ = some (.slice b m d)) := Lib.hid fun V hb => by rw [hb.cell (World.block_lt_of_cell? _ _ hc0)]; exact hc0
  clear hS hB hn hc0
  cases hb : Vo.nameB name with
  | false =>
    rw [hb, if_pos rfl] at hR
    subst hR
    rw [show Lg.nmB name.data.toList = false from hb] at N1
    clear hb h0
    go_enter Try.func43, Try.ntmps43
    go_wp2_with fail
    with_reducible refine (N1 _).mono ?_
    rintro e w' ⟨rfl, rfl⟩
    go_wp2_with fail
    go_ret
    exact ⟨rfl, HB.out⟩
  | true =>
    rw [hb, if_neg (by decide)] at hR
    rw [show Lg.nmB name.data.toList = true from hb] at N1
    cases hf : (Vo.find s.vols name).isSome with
    | true =>
      rw [hf, if_pos rfl] at hR
      subst hR
      rw [hf] at h0
      clear hb hf
      generalize Vo.findI s.vols name = r at *
      go_enter Try.func43, Try.ntmps43
      go_wp2_with fail
      with_reducible refine (N1 _).mono ?_
      rintro e w' ⟨rfl, rfl⟩
      go_wp2_with fail
      with_reducible refine F1.mono ?_
      rintro e w1 ⟨rfl, hb1⟩
      have HB1 := Lib.hid (HB.out.trans (hb1.mono HB.out.size))
      clear hb1
      go_wp2_with fail
      go_ret
      exact ⟨rfl, HB1.out⟩
    | false =>
      rw [hf, if_neg (by decide)] at hR
      rw [hf] at h0
      have h6 : ((m : Int) == 6) = decide (m = 6) := by
        by_cases h : m = 6
        · subst h; rfl
        · rw [decide_eq_false h, beq_eq_false_iff_ne]; omega
      clear hb hf
      generalize Vo.findI s.vols name = r at *
      by_cases hm6 : m = 6
      · rw [HV.out, if_pos hm6] at hR
        subst hR
        rw [decide_eq_true hm6] at h6
        have HM := Lib.hid hm6
        clear hm6
        go_enter Try.func43, Try.ntmps43
        go_wp2_with fail
        with_reducible refine (N1 _).mono ?_
        rintro e w' ⟨rfl, rfl⟩
        go_wp2_with fail
        with_reducible refine F1.mono ?_
        rintro e w1 ⟨rfl, hb1⟩
        have HB1 := Lib.hid (HB.out.trans (hb1.mono HB.out.size))
        have hc := HC.out w1 hb1
        clear hb1
        go_wp2_with fail
        go_ret
        exact ⟨rfl, HB1.out⟩
      · rw [HV.out, if_neg hm6] at hR
        subst hR
        rw [decide_eq_false hm6] at h6
        clear hm6
        go_enter Try.func43, Try.ntmps43
        go_wp2_with fail
        with_reducible refine (N1 _).mono ?_
        rintro e w' ⟨rfl, rfl⟩
        go_wp2_with fail
        with_reducible refine F1.mono ?_
        rintro e w1 ⟨rfl, hb1⟩
        have HB1 := Lib.hid (HB.out.trans (hb1.mono HB.out.size))
        have hc := HC.out w1 hb1
        clear hb1
        go_wp2_with fail
        go_ret
        exact ⟨rfl, HB1.out⟩

end Go.Proofs.Ythccdoejnklidaa

/- The walk of vol.volumes on a right state. -/
namespace Go.Proofs.Ythccdoejnklidaa
open Go.RowKit

theorem own_isl0 {w : World} {base n c : Nat} {a : Option Addr} {ts : List Bg.It} (h : w.ownsRow base 61 4 (.slice a n c) n (tv ts)) (hn : ts.length = n) : ISl w a n c ts := own_isl h hn

theorem right_names {s : Vo.St} (h : Vo.Right s) {k : Nat} (hk : k + 1 < s.vols.length) : Op.bytesLess (s.vols[k]'(by omega)).name.toList s.vols[k + 1].name.toList = true := by
  rw [Vo.cmp_less]
  exact decide_eq_true ((List.pairwise_iff_getElem.1 h.srt) k (k + 1) (by omega) hk (by omega))

theorem hit_find {bag : List Bg.It} {id : Bg.Id} (h : ∃ x ∈ bag, id = Vo.idOf x) : 0 ≤ idx (Bg.hit id) bag := by
  obtain ⟨x, hx, rfl⟩ := h
  have : bag.any (Bg.hit (Vo.idOf x)) = true := List.any_eq_true.2 ⟨x, hx, Vo.hit_idOf.2 rfl⟩
  exact of_decide_eq_true ((idx_any _ _).trans this)

set_option maxRecDepth 100000 in
set_option maxHeartbeats 8000000 in
theorem volumes_V (a b : Option Addr) (n c m d base : Nat) (rs : List Rw) (s : Vo.St) (w : World) (hS : StW w base a n c b m d rs s) (hR : Vo.Right s) :
    Calls Try.prog 26 #[.agg #[.slice a n c, .slice b m d]] w fun e w' => e = .returned (.int .i64 0) ∧ Below w.heap.size w w' := by
  have hm : m ≤ 6 := by rw [← hS.vlen]; exact hR.len
  have hn : n ≤ 64 := by rw [← hS.len]; exact hR.bag.len
  have hB : Below w.heap.size w (w.alloc (.cells #[.slice a n c, .slice b m d] 32)) := (Below.refl _ w).alloc (Nat.le_refl _) _
  have hX := bxs_new w 32 #[.slice a n c, .slice b m d] [.slice a n c, .slice b m d] rfl
  have c0 := hX.c 0 _ rfl; have c1 := hX.c 1 _ rfl
  have HS := Lib.hid hS; have HR := Lib.hid hR; have HB := Lib.hid hB; have HX := Lib.hid hX
  clear hS hR hB hX
  go_enter Try.func26, Try.ntmps26
  go_wp2_with fail
  clear c0 c1
  go_loopw [14] (fun x wr => ∃ k : Nat, k ≤ m ∧ x = .int .i64 k ∧ Hid (Below w.heap.size w wr) ∧ Hid (Bxs wr w.heap.size [.slice a n c, .slice b m d]))
    (fun x _ => m - (intOf x).toNat)
  case atStart => exact ⟨0, Nat.zero_le _, rfl, HB, HX⟩
  case round =>
    obtain ⟨k, hk, rfl, BW, XW⟩ := hrel
    have hsz := BW.out.size
    have hsz2 := XW.out.lt
    by_cases hlt : k < m
    · have SW := HS.out.keep BW.out
      have hkv : k < s.vols.length := by rw [HS.out.vlen]; exact hlt
      have hkr : k < rs.length := by rw [HS.out.rlen]; exact hlt
      obtain ⟨g, rfl, hg, d0, d1⟩ := rv_at SW.row hkr
      have hvo := HR.out.vol s.vols[k] (List.getElem_mem hkv)
      obtain ⟨e1, e2, e3⟩ := HS.out.vol k rs[k] s.vols[k] (List.getElem?_eq_getElem hkr) (List.getElem?_eq_getElem hkv)
      have hn1 : rs[k].n ≤ 32 := by rw [← e3]; exact hvo.len
      have NM : ∀ w, Calls Try.prog 41 #[.string rs[k].name] w fun e w' => e = .returned (.bool true) ∧ w = w' := fun w => by
        have hnm : Lg.nmB s.vols[k].name.data.toList = true := hvo.name
        have hle : s.vols[k].name.size ≤ maxLen := by
          unfold Lg.nmB at hnm
          simp at hnm
          have : s.vols[k].name.data.toList.length = s.vols[k].name.size := Array.length_toList ..
          unfold maxLen
          have := hnm.2.1
          omega
        have := Name_any s.vols[k].name w hle
        rw [hnm] at this
        rw [e1]
        exact this
      have HL2 : Hid (∀ V, Below w.heap.size w V → V.ownsRow base 68 3 (.slice rs[k].a rs[k].n rs[k].c) rs[k].n (dv s.vols[k].ids)) := Lib.hid fun V hb => own_keep e2 hb
      have HIDS := Lib.hid hvo.ids
      have HE3 := Lib.hid e3
      have BA := Lib.hid fun o => BW.out.alloc hsz o
      have XA := Lib.hid fun o => XW.out.alloc o
      have x1 := XW.out.c 1 _ rfl
      have hsl : 0 < k → ∃ (f5 : ByteArray), wr.cell? ⟨g, (k - 1) * 2, none⟩ = some (.string f5) ∧ Op.bytesLess f5.toList rs[k].name.toList = true := fun h0 => by
        obtain ⟨j, rfl⟩ : ∃ j, k = j + 1 := ⟨k - 1, by omega⟩
        have hj : j < rs.length := by omega
        obtain ⟨g', hg', -, d2, -⟩ := rv_at SW.row hj
        cases hg'
        obtain ⟨e4, -⟩ := HS.out.vol j rs[j] (s.vols[j]'(by omega)) (List.getElem?_eq_getElem hj) (List.getElem?_eq_getElem (by omega))
        exact ⟨rs[j].name, d2, by rw [e4, e1]; exact right_names HR.out hkv⟩
      clear hvo e1 e2 e3 SW
      generalize rs[k].name = f1 at *
      generalize rs[k].a = f2 at *
      generalize rs[k].n = f3 at *
      generalize rs[k].c = f4 at *
      generalize s.vols[k].ids = ids at *
      have hq : 0 < k → ∃ (f5 : ByteArray), wr.cell? ⟨g, (k - 1) * 2, none⟩ = some (.string f5) ∧ Op.bytesLess f5.toList f1.toList = true := hsl
      clear hsl
      have w1 : 0 < k → IntKind.i64.wrap ((k : Int) - 1) = (k : Int) - 1 := fun h => IntWalk.i64_in _ ⟨by omega, by omega⟩
      have w2 : 0 < k → ((k : Int) - 1).toNat = k - 1 := fun h => by omega
      have HID : Hid (∀ id ∈ ids, id = Bg.noId ∨ 0 ≤ idx (Bg.hit id) s.bag) := Lib.hid fun q h => (HIDS.out q h).imp (fun h => h) hit_find
      have FD : ∀ (i : Bool) (x y : Int) V, Below w.heap.size w V → Calls Try.prog 42 #[.slice a n c, .agg #[.bool i, .int .i64 x, .int .i64 y]] V fun e w' => e = .returned (.int .i64 (idx (Bg.hit ⟨i, x, y⟩) s.bag)) ∧ Below V.heap.size V w' := fun i x y V hb =>
        Find_I a n c s.bag i x y V (own_isl0 (own_keep HS.out.bag hb) HS.out.len) (by omega)
      rcases Nat.eq_zero_or_pos k with hk0 | hk0
      · have hgd : decide (0 < k) = false := decide_eq_false (by omega)
        clear hq hk0 w1 w2
        go_wp2_with fail
        go_quiet ((go_at_call 41; exact Calls.quiet_of_same ((NM _).mono fun e w' h => ⟨h.1, h.2.symm⟩)))
        go_wp2_with fail
        clear d0 d1 x1
        obtain ⟨wo, rfl⟩ : ∃ wo : World, wo = wr := ⟨_, rfl⟩
        go_loopw [46] (fun x wv => ∃ i : Nat, i ≤ f3 ∧ x = .int .i64 i ∧ Hid (Below w.heap.size w wv) ∧ Hid (Bxs wv w.heap.size [.slice a n c, .slice (some ⟨g, 0, none⟩) m d])) (fun x _ => f3 - (intOf x).toNat)
        case atStart => exact ⟨0, Nat.zero_le _, rfl, Lib.hid (below_drewN (BA.out _) _), Lib.hid ((XA.out _).drewN _)⟩
        case round =>
          obtain ⟨i, hi, rfl, BI, XI⟩ := hrel
          have hszi := BI.out.size
          have hszj := XI.out.lt
          by_cases hlt2 : i < f3
          · have hil : i < ids.length := by rw [HE3.out]; exact hlt2
            obtain ⟨g2, rfl, hg2, -, q0, q1, q2⟩ := dv_at (HL2.out wr BI.out) hil
            have hid := HID.out ids[i] (List.getElem_mem hil)
            have y0 := XI.out.c 0 _ rfl
            have BJ := Lib.hid fun o => BI.out.alloc hszi o
            have XJ := Lib.hid fun o => XI.out.alloc o
            have hid2 : (ids[i].is = false ∧ ids[i].sum = 0 ∧ ids[i].n = 0) ∨ (ids[i].is = true ∧ 0 ≤ idx (Bg.hit ⟨ids[i].is, ids[i].sum, ids[i].n⟩) s.bag) := by
              rcases hid with h | h
              · rw [h]; exact Or.inl ⟨rfl, rfl, rfl⟩
              · refine Or.inr ⟨?_, h⟩
                cases hb : ids[i].is with
                | true => rfl
                | false =>
                  exfalso
                  have hn : idx (Bg.hit ids[i]) s.bag = -1 := idx_miss fun j hj => by unfold Bg.hit; rw [hb]; rfl
                  rw [hn] at h
                  omega
            clear hid
            generalize ids[i].is = i1 at *
            generalize ids[i].sum = i2 at *
            generalize ids[i].n = i3 at *
            rcases hid2 with ⟨rfl, rfl, rfl⟩ | ⟨rfl, hge⟩
            · go_wp2_with fail
              go_roundw
              case rel => exact ⟨i + 1, hlt2, by go_num, Lib.hid (BJ.out _), Lib.hid (XJ.out _)⟩
              case measure => simp [intOf]; omega
            · have F1 := fun V hb => FD true i2 i3 V hb
              generalize idx (Bg.hit ⟨true, i2, i3⟩) s.bag = r at *
              go_wp2_with (go_at_call 42; with_reducible refine (F1 _ (BJ.out _)).mono ?_; rintro e w5 ⟨rfl, hb5⟩)
              have B5 := Lib.hid ((BJ.out _).trans (hb5.mono (BJ.out _).size))
              have X5 := Lib.hid ((XJ.out _).on hb5)
              clear hb5
              go_roundw
              case rel => exact ⟨i + 1, hlt2, by go_num, B5, X5⟩
              case measure => simp [intOf]; omega
          · obtain rfl : i = f3 := by omega
            go_wp2_with fail
            go_roundw
            case rel => exact ⟨k + 1, hlt, by go_num, BI, XI⟩
            case measure => simp [intOf]; omega
      · obtain ⟨f5, d2, hbl⟩ := hq hk0
        have hgd : decide (0 < k) = true := decide_eq_true (by omega)
        have w1' := w1 hk0
        have w2' := w2 hk0
        have e1 : (0 : Int) ≤ (k : Int) - 1 := by omega
        have e2 : (k : Int) - 1 < (m : Int) := by omega
        have e3 : (1 : Int) ≤ (k : Int) := by omega
        have e5 : 1 ≤ k := by omega
        have e6 : (k : Int) ≤ (m : Int) := by omega
        clear hq hk0 w1 w2
        go_wp2_with fail
        go_quiet ((go_at_call 41; exact Calls.quiet_of_same ((NM _).mono fun e w' h => ⟨h.1, h.2.symm⟩)))
        clear w1' w2' e1 e2 e3 e6
        go_wp2_with fail
        clear d0 d1 x1
        obtain ⟨wo, rfl⟩ : ∃ wo : World, wo = wr := ⟨_, rfl⟩
        go_loopw [46] (fun x wv => ∃ i : Nat, i ≤ f3 ∧ x = .int .i64 i ∧ Hid (Below w.heap.size w wv) ∧ Hid (Bxs wv w.heap.size [.slice a n c, .slice (some ⟨g, 0, none⟩) m d])) (fun x _ => f3 - (intOf x).toNat)
        case atStart => exact ⟨0, Nat.zero_le _, rfl, Lib.hid (below_drewN (BA.out _) _), Lib.hid ((XA.out _).drewN _)⟩
        case round =>
          obtain ⟨i, hi, rfl, BI, XI⟩ := hrel
          have hszi := BI.out.size
          have hszj := XI.out.lt
          by_cases hlt2 : i < f3
          · have hil : i < ids.length := by rw [HE3.out]; exact hlt2
            obtain ⟨g2, rfl, hg2, -, q0, q1, q2⟩ := dv_at (HL2.out wr BI.out) hil
            have hid := HID.out ids[i] (List.getElem_mem hil)
            have y0 := XI.out.c 0 _ rfl
            have BJ := Lib.hid fun o => BI.out.alloc hszi o
            have XJ := Lib.hid fun o => XI.out.alloc o
            have hid2 : (ids[i].is = false ∧ ids[i].sum = 0 ∧ ids[i].n = 0) ∨ (ids[i].is = true ∧ 0 ≤ idx (Bg.hit ⟨ids[i].is, ids[i].sum, ids[i].n⟩) s.bag) := by
              rcases hid with h | h
              · rw [h]; exact Or.inl ⟨rfl, rfl, rfl⟩
              · refine Or.inr ⟨?_, h⟩
                cases hb : ids[i].is with
                | true => rfl
                | false =>
                  exfalso
                  have hn : idx (Bg.hit ids[i]) s.bag = -1 := idx_miss fun j hj => by unfold Bg.hit; rw [hb]; rfl
                  rw [hn] at h
                  omega
            clear hid
            generalize ids[i].is = i1 at *
            generalize ids[i].sum = i2 at *
            generalize ids[i].n = i3 at *
            rcases hid2 with ⟨rfl, rfl, rfl⟩ | ⟨rfl, hge⟩
            · go_wp2_with fail
              go_roundw
              case rel => exact ⟨i + 1, hlt2, by go_num, Lib.hid (BJ.out _), Lib.hid (XJ.out _)⟩
              case measure => simp [intOf]; omega
            · have F1 := fun V hb => FD true i2 i3 V hb
              generalize idx (Bg.hit ⟨true, i2, i3⟩) s.bag = r at *
              go_wp2_with (go_at_call 42; with_reducible refine (F1 _ (BJ.out _)).mono ?_; rintro e w5 ⟨rfl, hb5⟩)
              have B5 := Lib.hid ((BJ.out _).trans (hb5.mono (BJ.out _).size))
              have X5 := Lib.hid ((XJ.out _).on hb5)
              clear hb5
              go_roundw
              case rel => exact ⟨i + 1, hlt2, by go_num, B5, X5⟩
              case measure => simp [intOf]; omega
          · obtain rfl : i = f3 := by omega
            go_wp2_with fail
            go_roundw
            case rel => exact ⟨k + 1, hlt, by go_num, BI, XI⟩
            case measure => simp [intOf]; omega
    · obtain rfl : k = m := by omega
      go_wp2_with fail
      go_ret
      exact ⟨rfl, BW.out⟩

end Go.Proofs.Ythccdoejnklidaa
