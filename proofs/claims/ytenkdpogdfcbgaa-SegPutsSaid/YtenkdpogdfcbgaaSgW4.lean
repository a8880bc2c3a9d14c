import Derived.Test.YtenkdpogdfcbgaaSgW3
/- The walks of seg.Put and woolkeep.fits. -/
namespace Go.Proofs.Ytenkdpogdfcbgaa
open Go.RowKit

theorem put_E2 (a : Option Addr) (n c base : Nat) (rs : List Rl) (l : List (List Sg.R)) (r : Sg.R) (w : World) (hS : SgW w base a n c rs l) (hbs : base ≤ w.heap.size) (hG : Sg.Good l) (hr : r.tx.size ≤ 64) :
    Calls Try.prog 106 #[.slice a n c, .agg #[.bool r.id.is, .int .i64 r.id.sum, .int .i64 r.id.n, .string r.tx]] w fun e w' => ∃ b q d zs, e = .returned (.tuple #[.slice b q d, .bool (Sg.putL l r).isSome]) ∧ SgW w' base b q d zs ((Sg.putL l r).getD []) ∧ Below base w w' := by
  refine (put_E a n c base rs l r w hS hbs hG hr).mono ?_
  rintro e w' ⟨hb, h⟩
  cases hp : Sg.putL l r with
  | none =>
    rw [hp] at h
    obtain rfl := h
    exact ⟨none, 0, 0, [], rfl, sgW0 _ _, hb⟩
  | some m =>
    rw [hp] at h
    obtain ⟨b, q, d, zs, rfl, hs⟩ := h
    exact ⟨b, q, d, zs, rfl, hs, hb⟩

/-- Segments and a code, of the call's own. -/
def SgTo (w : World) (R : Sg.PutA) (e : Ending) (w' : World) : Prop :=
  ∃ b m d zs, e = .returned (.tuple #[.slice b m d, .int .i64 R.e]) ∧ SgW w' w.heap.size b m d zs R.l ∧ Below w.heap.size w w'

set_option maxRecDepth 100000 in
set_option maxHeartbeats 8000000 in
theorem Put_E (a : Option Addr) (n c base : Nat) (rs : List Rl) (l : List (List Sg.R)) (r : Sg.R) (w : World) (hS : SgW w base a n c rs l) (hG : Sg.Good l) :
    Calls Try.prog 16 #[.slice a n c, .agg #[.bool r.id.is, .int .i64 r.id.sum, .int .i64 r.id.n, .string r.tx]] w (SgTo w (Sg.putR l r)) := by
  obtain ⟨⟨f1, f2, f3⟩, f4⟩ := r
  dsimp only
  obtain ⟨w0, hw0⟩ : ∃ w0, w0 = w.alloc (.cells #[.bool f1, .int .i64 f2, .int .i64 f3, .string f4] 36) := ⟨_, rfl⟩
  have hal : Below w.heap.size w w0 := by rw [hw0]; exact (Below.refl w.heap.size w).alloc (Nat.le_refl _) _
  have HX : Hid (Bxs w0 w.heap.size [.bool f1, .int .i64 f2, .int .i64 f3, .string f4]) := Lib.hid (by rw [hw0]; exact bxs_new w _ _ _ rfl)
  have HB := Lib.hid hal
  have HS := Lib.hid (hS.keep hal)
  have hn16 : n ≤ 16 := by rw [← hS.len]; exact hG.len
  have HG := Lib.hid hG
  have hsm : ∀ s ∈ l, s.length ≤ 25 := fun s hs => Sg.sok_short (hG.seg s hs)
  have HSM := Lib.hid hsm
  have K1 := Check_E a n c base rs l w0 HS.out (by omega) (fun s hs => by have := hsm s hs; omega)
  rw [Sg.chk_zero.2 hG] at K1
  have hR : Sg.putR l ⟨⟨f1, f2, f3⟩, f4⟩ = if Sg.oneE ⟨⟨f1, f2, f3⟩, f4⟩ ≠ 0 then ⟨[], Sg.oneE ⟨⟨f1, f2, f3⟩, f4⟩⟩ else ⟨(Sg.putL l ⟨⟨f1, f2, f3⟩, f4⟩).getD [], if (Sg.putL l ⟨⟨f1, f2, f3⟩, f4⟩).isSome = true then 0 else 8⟩ := by
    unfold Sg.putR
    rw [Sg.chk_zero.2 hG, if_neg (by simp), Sg.chk_one]
    split
    · rfl
    · cases Sg.putL l ⟨⟨f1, f2, f3⟩, f4⟩ <;> rfl
  rw [hR]
  have HE64 : Hid (Sg.oneE ⟨⟨f1, f2, f3⟩, f4⟩ = 0 → f4.size ≤ 64) := Lib.hid fun h => (Sg.oneE_zero.1 h).2
  have HK2 : Hid (∀ V : World, Calls Try.prog 24 #[.slice (some ⟨V.heap.size + 1, 0, none⟩) 1 1] ((V.alloc (.cells #[.bool f1, .int .i64 f2, .int .i64 f3, .string f4] 36)).alloc (.cells #[.slice (some ⟨V.heap.size, 0, none⟩) 1 1] 45)) fun e w' => e = .returned (.int .i64 (Sg.oneE ⟨⟨f1, f2, f3⟩, f4⟩ : Nat)) ∧ Below (V.heap.size) V w') := Lib.hid fun V => by
    have h1 : ((V.alloc (.cells #[.bool f1, .int .i64 f2, .int .i64 f3, .string f4] 36)).alloc (.cells #[.slice (some ⟨V.heap.size, 0, none⟩) 1 1] 45)).ownsRow V.heap.size 36 4 (.slice (some ⟨V.heap.size, 0, none⟩) 1 1) 1 (ev [⟨⟨f1, f2, f3⟩, f4⟩]) := (World.ownsRow_lit V #[.bool f1, .int .i64 f2, .int .i64 f3, .string f4] 1 (Nat.le_refl _) (by unfold maxLen; decide) rfl).alloc _
    have h2 := World.ownsRow_lit (base := V.heap.size) (e := 45) (size := 1) (V.alloc (.cells #[.bool f1, .int .i64 f2, .int .i64 f3, .string f4] 36)) #[.slice (some ⟨V.heap.size, 0, none⟩) 1 1] 1 (by rw [World.size_alloc]; omega) (by unfold maxLen; decide) rfl
    rw [World.size_alloc] at h2
    have hs : SgW ((V.alloc (.cells #[.bool f1, .int .i64 f2, .int .i64 f3, .string f4] 36)).alloc (.cells #[.slice (some ⟨V.heap.size, 0, none⟩) 1 1] 45)) V.heap.size (some ⟨V.heap.size + 1, 0, none⟩) 1 1 [⟨some ⟨V.heap.size, 0, none⟩, 1, 1⟩] [[⟨⟨f1, f2, f3⟩, f4⟩]] := ⟨h2, rfl, fun i z s hz hs => by
      rcases i with _ | i
      · obtain rfl := Option.some.inj hz
        obtain rfl := Option.some.inj hs
        exact h1
      · simp at hz, List.pairwise_singleton _ _⟩
    refine (Check_E _ _ _ _ _ _ _ hs (by omega) (fun s hs => by simp at hs; subst hs; simp)).mono ?_
    rintro e w' ⟨rfl, hb⟩
    have hb0 : Below V.heap.size V ((V.alloc (.cells #[.bool f1, .int .i64 f2, .int .i64 f3, .string f4] 36)).alloc (.cells #[.slice (some ⟨V.heap.size, 0, none⟩) 1 1] 45)) := ((Below.refl V.heap.size V).alloc (Nat.le_refl _) _).alloc (by rw [World.size_alloc]; omega) _
    exact ⟨by rw [Sg.chk_one], hb0.trans (hb.mono hb0.size)⟩
  have hEr : ∃ E, Sg.oneE ⟨⟨f1, f2, f3⟩, f4⟩ = E := ⟨_, rfl⟩
  obtain ⟨E, hE⟩ := hEr
  rw [hE] at HE64 HK2 ⊢
  obtain ⟨PT, hPT⟩ : ∃ PT, Sg.putL l ⟨⟨f1, f2, f3⟩, f4⟩ = PT := ⟨_, rfl⟩
  rw [hPT]
  have HPT := Lib.hid hPT
  have HRR : Hid (∀ R : Sg.PutA, R = (if E ≠ 0 then ⟨[], E⟩ else ⟨PT.getD [], if PT.isSome = true then 0 else 8⟩) → R = (if E ≠ 0 then ⟨[], E⟩ else ⟨PT.getD [], if PT.isSome = true then 0 else 8⟩)) := Lib.hid fun _ h => h
  obtain ⟨RR, hRR⟩ : ∃ RR : Sg.PutA, RR = (if E ≠ 0 then ⟨[], E⟩ else ⟨PT.getD [], if PT.isSome = true then 0 else 8⟩) := ⟨_, rfl⟩
  rw [← hRR]
  have HRE := Lib.hid hRR
  clear hal hS hG hsm hR hE hPT hRR HRR
  rw [hw0] at K1
  go_enter Try.func16, Try.ntmps16
  go_wp2_with fail
  with_reducible refine K1.mono ?_
  rintro e w1 ⟨rfl, hb⟩
  rw [← hw0] at hb
  clear hw0
  replace HB := Lib.hid (HB.out.trans (hb.mono HB.out.size))
  replace HX := Lib.hid (HX.out.on hb)
  replace HS := Lib.hid (HS.out.keep hb)
  have K2 := HK2.out w1
  have c0 := HX.out.c 0 _ rfl; have c1 := HX.out.c 1 _ rfl; have c2 := HX.out.c 2 _ rfl; have c3 := HX.out.c 3 _ rfl
  clear hb K1
  go_wp2_with fail
  with_reducible refine K2.mono ?_
  rintro e w2 ⟨rfl, hb⟩
  replace HB := Lib.hid (HB.out.trans (hb.mono HB.out.size))
  replace HX := Lib.hid (HX.out.on hb)
  replace HS := Lib.hid (HS.out.keep hb)
  clear hb K2 c0 c1 c2 c3 HK2
  by_cases hE : E = 0
  · subst hE
    have h64 := HE64.out rfl
    have HRE2 : Hid (RR = ⟨PT.getD [], if PT.isSome = true then 0 else 8⟩) := Lib.hid (by rw [HRE.out]; rfl)
    have rw0 : Below w2.heap.size w2 w2.drew := Below.drew (Below.refl _ _)
    have c0 := (HX.out.on rw0).c 0 _ rfl; have c1 := (HX.out.on rw0).c 1 _ rfl; have c2 := (HX.out.on rw0).c 2 _ rfl; have c3 := (HX.out.on rw0).c 3 _ rfl
    have H64 := Lib.hid h64
    clear h64
    go_wp2_with fail
    go_region_held3 (fun U => U.cell? ⟨w.heap.size, 0, none⟩ = some (.bool f1) ∧ U.cell? ⟨w.heap.size, 1, none⟩ = some (.int .i64 f2) ∧ U.cell? ⟨w.heap.size, 2, none⟩ = some (.int .i64 f3) ∧ U.cell? ⟨w.heap.size, 3, none⟩ = some (.string f4) ∧ Below w2.heap.size w2 U)
      (first | with_reducible exact ⟨by assumption, by assumption, by assumption, by assumption, by assumption⟩)
      ((first
        | (go_at_call 107; have rq := copied_E a n c base rs l _ (HS.out.keep rw0) (by omega) (fun s hs => by have := HSM.out s hs; omega); (with_reducible refine rq.mono ?_); clear rq; rintro e U1 ⟨b1, m1, d1, z1, rfl, hs1, hb1⟩; have rw1 := rw0.trans (hb1.mono rw0.size); have HS1 := Lib.hid (hs1.low rw0.size); clear hs1 hb1; have d0 := (HX.out.on rw1).c 0 _ rfl; have d1' := (HX.out.on rw1).c 1 _ rfl; have d2 := (HX.out.on rw1).c 2 _ rfl; have d3 := (HX.out.on rw1).c 3 _ rfl)
        | (go_at_call 106; have rq := put_E2 b1 m1 d1 w2.heap.size z1 l ⟨⟨f1, f2, f3⟩, f4⟩ U1 HS1.out rw1.size HG.out H64.out; (with_reducible refine rq.mono ?_); clear rq; rintro e U2 ⟨b2, m2, d2', z2, rfl, hs2, hb2⟩; have rw2 := rw1.trans hb2; have HS2 := Lib.hid hs2; clear hs2 hb2; have e0 := (HX.out.on rw2).c 0 _ rfl; have e1 := (HX.out.on rw2).c 1 _ rfl; have e2 := (HX.out.on rw2).c 2 _ rfl; have e3 := (HX.out.on rw2).c 3 _ rfl)))
    have HBE := Lib.hid (HB.out.trans (rw2.mono HB.out.size))
    have HSE : Hid (SgW U2 w.heap.size b2 m2 d2' z2 (PT.getD [])) := Lib.hid (by have := HS2.out.low HB.out.size; rw [HPT.out] at this; exact this)
    have hpt := HPT.out
    rw [hpt]
    clear HS1 HS2 rw0 rw1 rw2 hpt HPT
    cases PT with
    | none =>
      go_wp2_with fail
      go_ret2
      rw [HRE2.out]
      exact ⟨none, 0, 0, [], rfl, sgW0 _ _, HBE.out⟩
    | some m =>
      go_wp2_with fail
      go_ret2
      rw [HRE2.out]
      exact ⟨_, _, _, _, rfl, HSE.out, HBE.out⟩
  · have hb : ((E : Int) != 0) = true := bne_iff_ne.2 (by omega)
    have HRE2 : Hid (RR = ⟨[], E⟩) := Lib.hid (by rw [HRE.out, if_pos hE])
    go_wp2_with fail
    go_ret2
    rw [HRE2.out]
    exact ⟨none, 0, 0, [], rfl, sgW0 _ _, HB.out⟩

/-- The cells of records. -/
def RCells (w : World) (x : Addr) (ts : List Sg.R) : Prop := ∀ (j : Nat) (t : Sg.R), ts[j]? = some t →
  w.cell? (x.add (j * 4)) = some (.bool t.id.is) ∧ w.cell? (x.add (j * 4 + 1)) = some (.int .i64 t.id.sum) ∧ w.cell? (x.add (j * 4 + 2)) = some (.int .i64 t.id.n) ∧ w.cell? (x.add (j * 4 + 3)) = some (.string t.tx)

theorem RCells.keep {w w' : World} {x : Addr} {ts : List Sg.R} (h : RCells w x ts) (hb : Below w.heap.size w w') : RCells w' x ts := fun j t hj => by
  obtain ⟨c1, c2, c3, c4⟩ := h j t hj
  exact ⟨by rw [hb.cell (World.block_lt_of_cell? w _ c1)]; exact c1, by rw [hb.cell (World.block_lt_of_cell? w _ c2)]; exact c2, by rw [hb.cell (World.block_lt_of_cell? w _ c3)]; exact c3, by rw [hb.cell (World.block_lt_of_cell? w _ c4)]; exact c4⟩

/-- A slice of records, whole. -/
structure RSl (w : World) (a : Option Addr) (n c : Nat) (ts : List Sg.R) : Prop where
  at_ : ts ≠ [] → ∃ x, a = some x ∧ RCells w x ts
  len : ts.length = n

theorem RSl.keep {w w' : World} {a : Option Addr} {n c : Nat} {ts : List Sg.R} (h : RSl w a n c ts) (hb : Below w.heap.size w w') : RSl w' a n c ts := ⟨fun h0 => by
  obtain ⟨x, rfl, hc⟩ := h.at_ h0
  exact ⟨x, rfl, hc.keep hb⟩, h.len⟩

theorem RSl.get {w : World} {a : Option Addr} {n c k : Nat} {ts : List Sg.R} (h : RSl w a n c ts) (hk : k < ts.length) :
    ∃ (A : Addr) (b o : Nat) (s : Option Nat), a = some A ∧ A.add (k * 4) = ⟨b, o, s⟩ ∧ w.cell? ⟨b, o, s⟩ = some (.bool ts[k].id.is) ∧ w.cell? ⟨b, o + 1, none⟩ = some (.int .i64 ts[k].id.sum) ∧ w.cell? ⟨b, o + 2, none⟩ = some (.int .i64 ts[k].id.n) ∧ w.cell? ⟨b, o + 3, none⟩ = some (.string ts[k].tx) := by
  obtain ⟨A, rfl, hc⟩ := h.at_ (by rintro rfl; simp at hk)
  obtain ⟨g1, g2, g3, g4⟩ := hc k ts[k] (List.getElem?_eq_getElem hk)
  obtain ⟨b, o, s, hy⟩ : ∃ b o s, A.add (k * 4) = ⟨b, o, s⟩ := ⟨_, _, _, rfl⟩
  rw [← Go.Deep.add_add, hy, show (⟨b, o, s⟩ : Addr).add 1 = ⟨b, o + 1, none⟩ from rfl] at g2
  rw [← Go.Deep.add_add, hy, show (⟨b, o, s⟩ : Addr).add 2 = ⟨b, o + 2, none⟩ from rfl] at g3
  rw [← Go.Deep.add_add, hy, show (⟨b, o, s⟩ : Addr).add 3 = ⟨b, o + 3, none⟩ from rfl] at g4
  rw [hy] at g1
  exact ⟨A, b, o, s, rfl, hy, g1, g2, g3, g4⟩

theorem rsl_own {w : World} {base n c : Nat} {e : TypeId} {a : Option Addr} {ts : List Sg.R} (h : w.ownsRow base e 4 (.slice a n c) n (ev ts)) : RSl w a n c ts :=
  ⟨fun h0 => by
    have hl := own_len4 h
    obtain ⟨g, cap, hv, -, -⟩ := h.form (by have := List.length_pos_iff.2 h0; omega)
    cases hv
    exact ⟨_, rfl, fun j t hj => by
      obtain ⟨k1, k2, k3, k4⟩ := ev_get hj
      exact ⟨h.cells (g := g) rfl _ _ k1, h.cells (g := g) rfl _ _ k2, h.cells (g := g) rfl _ _ k3, h.cells (g := g) rfl _ _ k4⟩⟩, own_len4 h⟩

set_option maxRecDepth 100000 in
set_option maxHeartbeats 8000000 in
theorem fits_E (a : Option Addr) (n c : Nat) (ts : List Sg.R) (w : World) (hT : RSl w a n c ts) (hn : n ≤ 9223372036854775807) :
    Calls Try.prog 46 #[.slice a n c] w fun e w' => ∃ b m d zs, e = .returned (.slice b m d) ∧ SgW w' w.heap.size b m d zs (Sg.fits ts) ∧ Below w.heap.size w w' := by
  have HT := Lib.hid hT
  clear hT
  go_enter Try.func46, Try.ntmps46
  go_wp2_with fail
  go_loopw [3, 10] (fun v x wr => ∃ (k : Nat) (b : Option Addr) (m d : Nat) (zs : List Rl), k ≤ n ∧ x = .int .i64 k ∧ v = .slice b m d ∧ Hid (Below w.heap.size w wr) ∧ Hid (SgW wr w.heap.size b m d zs ((ts.take k).foldl Sg.fitStep []))) (fun _ x _ => n - (intOf x).toNat)
  case atStart => exact ⟨0, none, 0, 0, [], Nat.zero_le _, rfl, rfl, Lib.hid (Below.refl _ _), Lib.hid (sgW0 _ _)⟩
  case round =>
    obtain ⟨k, b, m, d, zs, hk, rfl, rfl, HB, HW⟩ := hrel
    by_cases hlt : k < n
    · have hkt : k < ts.length := by rw [HT.out.len]; exact hlt
      obtain ⟨A, B, o, s, rfl, hy, d1, d2, d3, d4⟩ := (HT.out.keep HB.out).get hkt
      have hb := (Below.refl wr.heap.size wr).alloc (Nat.le_refl _) (.cells #[.bool ts[k].id.is, .int .i64 ts[k].id.sum, .int .i64 ts[k].id.n, .string ts[k].tx] 36)
      have HG : Hid (Sg.Good ((ts.take k).foldl Sg.fitStep [])) := Lib.hid (Sg.fold_good Sg.good_nil)
      have HF : Hid ((ts.take (k + 1)).foldl Sg.fitStep [] = Sg.fitStep ((ts.take k).foldl Sg.fitStep []) ts[k]) := Lib.hid (by rw [List.take_succ_eq_append_getElem hkt, List.foldl_append]; rfl)
      generalize (ts.take k).foldl Sg.fitStep [] = l at *
      have K1 := Put_E b m d _ zs l ts[k] _ (HW.out.keep hb) HG.out
      have HF2 : Hid ((ts.take (k + 1)).foldl Sg.fitStep [] = if (Sg.putR l ts[k]).e = 0 then (Sg.putR l ts[k]).l else l) := Lib.hid HF.out
      have HBA := Lib.hid (HB.out.trans (hb.mono HB.out.size))
      have HWA := Lib.hid (HW.out.keep hb)
      clear hb HF HG HB HW
      generalize ts[k].id.is = f1 at *
      generalize ts[k].id.sum = f2 at *
      generalize ts[k].id.n = f3 at *
      generalize ts[k].tx = f4 at *
      generalize Sg.putR l ts[k] = R at *
      obtain ⟨rl, re⟩ := R
      dsimp only at HF2
      go_wp2_with fail
      with_reducible refine K1.mono ?_
      rintro e w2 ⟨b2, m2, d2', z2, rfl, hs, hb⟩
      dsimp only at hs
      dsimp only
      have HB2 := Lib.hid (HBA.out.trans (hb.mono HBA.out.size))
      have HW2 := Lib.hid (hs.low HBA.out.size)
      have HW1 := Lib.hid (HWA.out.keep hb)
      clear K1 hs hb d1 d2 d3 d4 hy
      by_cases he : re = 0
      · subst he
        go_wp2_with fail
        go_roundw
        case rel => exact ⟨k + 1, _, _, _, _, hlt, by go_num, rfl, HB2, Lib.hid (by rw [HF2.out, if_pos rfl]; exact HW2.out)⟩
        case measure => simp [intOf]; omega
      · have he' : ((re : Int) == 0) = false := beq_eq_false_iff_ne.2 (by omega)
        go_wp2_with fail
        go_roundw
        case rel => exact ⟨k + 1, _, _, _, _, hlt, by go_num, rfl, HB2, Lib.hid (by rw [HF2.out, if_neg he]; exact HW1.out)⟩
        case measure => simp [intOf]; omega
    · obtain rfl : k = n := by omega
      have HTE : Hid (ts.take k = ts) := Lib.hid (List.take_of_length_le (by rw [HT.out.len]; exact Nat.le_refl _))
      go_wp2_with fail
      go_ret
      exact ⟨_, _, _, _, rfl, by have := HW.out; rw [HTE.out] at this; exact this, HB.out⟩

end Go.Proofs.Ytenkdpogdfcbgaa
