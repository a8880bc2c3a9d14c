import Derived.Test.YtenkdpogdfcbgaaSgW2
import Derived.Deep.RegionHeld3
/- The walk of seg.put. -/
namespace Go.Proofs.Ytenkdpogdfcbgaa
open Go.RowKit

/-- What seg.put leaves: of a row of its own. -/
def SPutTo (w : World) (base : Nat) (R : Option (List (List Sg.R))) (e : Ending) (w' : World) : Prop :=
  Below base w w' ∧ match R with
    | none => e = .returned (.tuple #[.slice none 0 0, .bool false])
    | some m => ∃ b q d zs, e = .returned (.tuple #[.slice b q d, .bool true]) ∧ SgW w' base b q d zs m

theorem snoc_of {α : Type} {l : List α} {q : Nat} (h : l.length = q + 1) : ∃ A x, l = A ++ [x] ∧ A.length = q :=
  ⟨l.take q, l[q], by rw [← List.take_succ_eq_append_getElem (by omega)]; exact (List.take_of_length_le (by omega)).symm, by rw [List.length_take]; omega⟩

/-- The last segment grows. -/
theorem SgW.last {w V wq : World} {base g c g' cap' : Nat} {q : Nat} {A : List Rl} {r : Rl} {L : List (List Sg.R)} {s : List Sg.R} {x : Sg.R} (h : SgW V base (some ⟨g, 0, none⟩) (q + 1) c (A ++ [r]) (L ++ [s])) (hA : A.length = q) (hL : L.length = q)
    (q1 : wq.ownsRow base 36 4 (.slice (some ⟨g', 0, none⟩) (r.n + 1) cap') (r.n + 1) (ev s ++ x.c)) (q2 : V.grownBy wq r.v.ownBlock) (q3 : r.v.ownBlock = some g' ∨ g' = V.heap.size) (hw : Below base w V) (hb : base ≤ V.heap.size) :
    SgW (wq.setCell ⟨g, q, none⟩ (.slice (some ⟨g', 0, none⟩) (r.n + 1) cap')) base (some ⟨g, 0, none⟩) (q + 1) c (A ++ [⟨some ⟨g', 0, none⟩, r.n + 1, cap'⟩]) (L ++ [s ++ [x]]) ∧ Below base w (wq.setCell ⟨g, q, none⟩ (.slice (some ⟨g', 0, none⟩) (r.n + 1) cap')) := by
  have hrow : V.ownsRow base 36 4 r.v r.n (ev s) := h.seg q r s (by rw [List.getElem?_append_right (by omega), hA, Nat.sub_self]; rfl) (by rw [List.getElem?_append_right (by omega), hL, Nat.sub_self]; rfl)
  have o1 : wq.ownsRow base 45 1 (.slice (some ⟨g, 0, none⟩) (q + 1) c) (q + 1) (sv (A ++ [r])) := own_kept2 h.row q2 fun k hk e => own_unlike h.row hrow (by decide) k hk e
  obtain ⟨o2, o3⟩ := o1.stored q (.slice (some ⟨g', 0, none⟩) (r.n + 1) cap')
  have hg : base ≤ g := row_base o1 g rfl
  refine ⟨⟨?_, by rw [List.length_append, hL]; rfl, fun i z t hz ht => ?_, ?_⟩, (hw.grown q2 hb (fun k e => row_base hrow k e)).grown o3 (Nat.le_trans hb q2.size) (fun k e => by cases e; exact hg)⟩
  · have : (sv (A ++ [r])).set q (.slice (some ⟨g', 0, none⟩) (r.n + 1) cap') = sv (A ++ [⟨some ⟨g', 0, none⟩, r.n + 1, cap'⟩]) := by
      rw [sv_app, sv_app, List.set_append_right _ _ (by rw [sv_length, hA]; exact Nat.le_refl _), sv_length, hA, Nat.sub_self]
      rfl
    rw [← this]
    exact o2
  · by_cases hi : i < q
    · rw [List.getElem?_append_left (by rw [hA]; exact hi)] at hz
      rw [List.getElem?_append_left (by rw [hL]; exact hi)] at ht
      have o4 := h.seg i z t (by rw [List.getElem?_append_left (by rw [hA]; exact hi)]; exact hz) (by rw [List.getElem?_append_left (by rw [hL]; exact hi)]; exact ht)
      have hap := h.apart
      rw [List.map_append] at hap
      have hne := (List.pairwise_append.1 hap).2.2 z.v (List.mem_map.2 ⟨z, List.mem_of_getElem? hz, rfl⟩) r.v (by simp)
      have o5 := own_kept2 o4 q2 fun k hk e => hne k hk e
      exact own_kept2 o5 o3 fun k hk e => own_unlike o5 o1 (by decide) k hk e
    · have hik : i = q := by
        have := (List.getElem?_eq_some_iff.1 hz).1
        rw [List.length_append, hA] at this
        simp at this
        omega
      subst hik
      rw [List.getElem?_append_right (by rw [hA]; exact Nat.le_refl _), hA, Nat.sub_self] at hz
      rw [List.getElem?_append_right (by rw [hL]; exact Nat.le_refl _), hL, Nat.sub_self] at ht
      obtain rfl := Option.some.inj hz
      obtain rfl := Option.some.inj ht
      have q1' : wq.ownsRow base 36 4 (.slice (some ⟨g', 0, none⟩) (r.n + 1) cap') (r.n + 1) (ev (s ++ [x])) := by rw [ev_app]; exact q1
      exact own_kept2 q1' o3 fun k hk e => own_unlike q1' o1 (by decide) k hk e
  · have hap := h.apart
    rw [List.map_append] at hap
    have h1 := List.pairwise_append.1 hap
    rw [List.map_append]
    refine List.pairwise_append.2 ⟨h1.1, List.pairwise_singleton _ _, fun u hu v hv k hk e => ?_⟩
    obtain rfl := List.mem_singleton.1 hv
    rcases q3 with q3 | q3
    · exact h1.2.2 u hu r.v (by simp) k hk (by rw [q3]; exact e)
    · obtain ⟨z, hz, rfl⟩ := List.mem_map.1 hu
      obtain ⟨t, -, ho⟩ := h.rows (List.mem_append_left _ hz)
      have h2 := own_block_lt ho k hk
      have h3 : g' = k := Option.some.inj e
      omega

theorem Sg.putL_snoc {L : List (List Sg.R)} {s : List Sg.R} (r : Sg.R) : Sg.putL (L ++ [s]) r = if Sg.full s + Sg.sz r ≤ 200 then some (L ++ [s ++ [r]]) else if L.length + 1 = 16 then none else some (L ++ [s] ++ [[r]]) := by
  have h1 : (L ++ [s]).length - 1 = L.length := by simp
  have h2 : (L ++ [s]).getD L.length [] = s := by simp [List.getD]
  have h3 : (L ++ [s]).take L.length = L := by simp
  unfold Sg.putL
  rw [h1, h2, h3]
  by_cases h : Sg.full s + Sg.sz r ≤ 200
  · rw [if_pos ⟨by simp, h⟩, if_pos h]
  · rw [if_neg (fun h' => h h'.2), if_neg h]
    simp

theorem rec_ones (f1 : Bool) (f2 f3 : Int) (f4 : ByteArray) : ∀ u ∈ [Value.bool f1, .int .i64 f2, .int .i64 f3, .string f4], u.oneCell' = true := by
  intro u hu
  simp at hu
  rcases hu with rfl | rfl | rfl | rfl <;> rfl

set_option maxRecDepth 100000 in
set_option maxHeartbeats 8000000 in
theorem put_E (a : Option Addr) (n c base : Nat) (rs : List Rl) (l : List (List Sg.R)) (r : Sg.R) (w : World) (hS : SgW w base a n c rs l) (hbs : base ≤ w.heap.size) (hG : Sg.Good l) (hr : r.tx.size ≤ 64) :
    Calls Try.prog 106 #[.slice a n c, .agg #[.bool r.id.is, .int .i64 r.id.sum, .int .i64 r.id.n, .string r.tx]] w (SPutTo w base (Sg.putL l r)) := by
  obtain ⟨i0, hi0, hz0, hz1, hz2⟩ := info_parts Try.infoRecs
  obtain ⟨i1, hi1, hy0, hy1, hy2⟩ := info_parts Try.infoRec
  obtain ⟨⟨f1, f2, f3⟩, f4⟩ := r
  dsimp only at hr ⊢
  obtain ⟨w0, hw0⟩ : ∃ w0, w0 = w.alloc (.cells #[.bool f1, .int .i64 f2, .int .i64 f3, .string f4] 36) := ⟨_, rfl⟩
  have hal : Below w.heap.size w w0 := by rw [hw0]; exact (Below.refl w.heap.size w).alloc (Nat.le_refl _) _
  have HX : Hid (Bxs w0 w.heap.size [.bool f1, .int .i64 f2, .int .i64 f3, .string f4]) := Lib.hid (by rw [hw0]; exact bxs_new w _ _ _ rfl)
  have HB := Lib.hid (hal.mono hbs)
  have HS := Lib.hid (hS.keep hal)
  have hn16 : n ≤ 16 := by rw [← hS.len]; exact hG.len
  have HBS := Lib.hid hbs
  have HSZ : Hid (base ≤ w0.heap.size) := Lib.hid (Nat.le_trans hbs hal.size)
  have HXB : Hid (∀ u, ∀ xs : List Value, ∀ m : Nat, ∀ size : Nat, ∀ e : TypeId, w.ownsRow base e size u m xs → u.ownBlock ≠ some w.heap.size) := Lib.hid fun u xs m size e h he => by
    have := own_block_lt h _ he
    omega
  have HS0 := Lib.hid hS
  clear hal
  have TAIL : True := trivial
  by_cases h0 : n = 0
  · subst h0
    obtain rfl : l = [] := List.length_eq_zero_iff.1 hS.len
    have hP : Sg.putL [] ⟨⟨f1, f2, f3⟩, f4⟩ = some [[⟨⟨f1, f2, f3⟩, f4⟩]] := rfl
    rw [hP]
    have HPP : Hid (∀ V : World, V = V) := Lib.hid fun _ => rfl
    clear hS hG hP hbs TAIL HPP
    have rw0 : Below w0.heap.size w0 w0.drew := Below.drew (Below.refl _ _)
    go_enter Try.func106, Try.ntmps106
    go_wp2_with fail
    rw [← hw0]
    clear hw0
    refine wp_region_noPanic ?_
    refine wp_region_held_drew (S := (fun V => Below w0.heap.size w0 V)) (by kernel_rfl) (rw0) (fun hS => ?_)
    refine wpAnyH_take (i := 0) (oi := _) (v := ?_) (by (try simp only [List.getElem?_toArray, List.getElem?_cons_succ, List.getElem?_cons_zero]); rfl) (by kernel_rfl) (by kernel_rfl) (by kernel_rfl) (fun _ _ _ h => h) (Or.inl ⟨by rfl, ?_⟩) (by assumption) ?_
    rotate_left
    next => (rintro w' k0; go_simp; (try with_reducible rfl))
    (try simp only [Act.put, List.setIfInBounds_toArray, List.set_cons_zero, List.set_cons_succ])
    refine wpAnyH_take (i := 1) (oi := _) (v := ?_) (by (try simp only [List.getElem?_toArray, List.getElem?_cons_succ, List.getElem?_cons_zero]); rfl) (by kernel_rfl) (by kernel_rfl) (by kernel_rfl) (fun _ _ _ h => h) (Or.inl ⟨by rfl, ?_⟩) (by assumption) ?_
    rotate_left
    next => (rintro w' k0; go_simp; (try with_reducible rfl))
    (try simp only [Act.put, List.setIfInBounds_toArray, List.set_cons_zero, List.set_cons_succ])
    refine wpAnyH_take (i := 2) (oi := _) (v := ?_) (by (try simp only [List.getElem?_toArray, List.getElem?_cons_succ, List.getElem?_cons_zero]); rfl) (by kernel_rfl) (by kernel_rfl) (by kernel_rfl) (fun _ _ _ h => h) (Or.inl ⟨by rfl, ?_⟩) (by assumption) ?_
    rotate_left
    next => (rintro w' k0; go_simp; (try with_reducible rfl))
    (try simp only [Act.put, List.setIfInBounds_toArray, List.set_cons_zero, List.set_cons_succ])
    refine wpAnyH_take (i := 3) (oi := _) (v := undef) (by (try simp only [List.getElem?_toArray, List.getElem?_cons_succ, List.getElem?_cons_zero]); rfl) (by kernel_rfl) (by kernel_rfl) (by kernel_rfl) (fun _ _ _ h => h) (Or.inr ⟨by first | with_unfolding_all rfl | kernel_rfl | (simp [Region.wanted, yielded]), rfl⟩) (by assumption) ?_
    (try simp only [Act.put, List.setIfInBounds_toArray, List.set_cons_zero, List.set_cons_succ])
    refine wpAnyH_take (i := 4) (oi := _) (v := undef) (by (try simp only [List.getElem?_toArray, List.getElem?_cons_succ, List.getElem?_cons_zero]); rfl) (by kernel_rfl) (by kernel_rfl) (by kernel_rfl) (fun _ _ _ h => h) (Or.inr ⟨by first | with_unfolding_all rfl | kernel_rfl | (simp [Region.wanted, yielded]), rfl⟩) (by assumption) ?_
    (try simp only [Act.put, List.setIfInBounds_toArray, List.set_cons_zero, List.set_cons_succ])
    refine wpAnyH_take (i := 5) (oi := _) (v := undef) (by (try simp only [List.getElem?_toArray, List.getElem?_cons_succ, List.getElem?_cons_zero]); rfl) (by kernel_rfl) (by kernel_rfl) (by kernel_rfl) (fun _ _ _ h => h) (Or.inr ⟨by first | with_unfolding_all rfl | kernel_rfl | (simp [Region.wanted, yielded]), rfl⟩) (by assumption) ?_
    (try simp only [Act.put, List.setIfInBounds_toArray, List.set_cons_zero, List.set_cons_succ])
    refine wpAnyH_take (i := 6) (oi := _) (v := undef) (by (try simp only [List.getElem?_toArray, List.getElem?_cons_succ, List.getElem?_cons_zero]); rfl) (by kernel_rfl) (by kernel_rfl) (by kernel_rfl) (fun _ _ _ h => h) (Or.inr ⟨by first | with_unfolding_all rfl | kernel_rfl | (simp [Region.wanted, yielded]), rfl⟩) (by assumption) ?_
    (try simp only [Act.put, List.setIfInBounds_toArray, List.set_cons_zero, List.set_cons_succ])
    refine wpAnyH_take (i := 7) (oi := _) (v := undef) (by (try simp only [List.getElem?_toArray, List.getElem?_cons_succ, List.getElem?_cons_zero]); rfl) (by kernel_rfl) (by kernel_rfl) (by kernel_rfl) (fun _ _ _ h => h) (Or.inr ⟨by first | with_unfolding_all rfl | kernel_rfl | (simp [Region.wanted, yielded]), rfl⟩) (by assumption) ?_
    (try simp only [Act.put, List.setIfInBounds_toArray, List.set_cons_zero, List.set_cons_succ])
    refine wpAnyH_take (i := 8) (oi := _) (v := undef) (by (try simp only [List.getElem?_toArray, List.getElem?_cons_succ, List.getElem?_cons_zero]); rfl) (by kernel_rfl) (by kernel_rfl) (by kernel_rfl) (fun _ _ _ h => h) (Or.inr ⟨by first | with_unfolding_all rfl | kernel_rfl | (simp [Region.wanted, yielded]), rfl⟩) (by assumption) ?_
    (try simp only [Act.put, List.setIfInBounds_toArray, List.set_cons_zero, List.set_cons_succ])
    refine wpAnyH_take (i := 9) (oi := _) (v := undef) (by (try simp only [List.getElem?_toArray, List.getElem?_cons_succ, List.getElem?_cons_zero]); rfl) (by kernel_rfl) (by kernel_rfl) (by kernel_rfl) (fun _ _ _ h => h) (Or.inr ⟨by first | with_unfolding_all rfl | kernel_rfl | (simp [Region.wanted, yielded]), rfl⟩) (by assumption) ?_
    (try simp only [Act.put, List.setIfInBounds_toArray, List.set_cons_zero, List.set_cons_succ])
    refine wpAnyH_take (i := 10) (oi := _) (v := undef) (by (try simp only [List.getElem?_toArray, List.getElem?_cons_succ, List.getElem?_cons_zero]); rfl) (by kernel_rfl) (by kernel_rfl) (by kernel_rfl) (fun _ _ _ h => h) (Or.inr ⟨by first | with_unfolding_all rfl | kernel_rfl | (simp [Region.wanted, yielded]), rfl⟩) (by assumption) ?_
    (try simp only [Act.put, List.setIfInBounds_toArray, List.set_cons_zero, List.set_cons_succ])
    refine wpAnyH_take (i := 11) (oi := _) (v := undef) (by (try simp only [List.getElem?_toArray, List.getElem?_cons_succ, List.getElem?_cons_zero]); rfl) (by kernel_rfl) (by kernel_rfl) (by kernel_rfl) (fun _ _ _ h => h) (Or.inr ⟨by first | with_unfolding_all rfl | kernel_rfl | (simp [Region.wanted, yielded]), rfl⟩) (by assumption) ?_
    (try simp only [Act.put, List.setIfInBounds_toArray, List.set_cons_zero, List.set_cons_succ])
    refine wpAnyH_take (i := 12) (oi := _) (v := undef) (by (try simp only [List.getElem?_toArray, List.getElem?_cons_succ, List.getElem?_cons_zero]); rfl) (by kernel_rfl) (by kernel_rfl) (by kernel_rfl) (fun _ _ _ h => h) (Or.inr ⟨by first | with_unfolding_all rfl | kernel_rfl | (simp [Region.wanted, yielded]), rfl⟩) (by assumption) ?_
    (try simp only [Act.put, List.setIfInBounds_toArray, List.set_cons_zero, List.set_cons_succ])
    refine wpAnyH_take (i := 13) (oi := _) (v := ?_) (by (try simp only [List.getElem?_toArray, List.getElem?_cons_succ, List.getElem?_cons_zero]); rfl) (by kernel_rfl) (by kernel_rfl) (by kernel_rfl) (fun _ _ _ h => h) (Or.inl ⟨by rfl, ?_⟩) (by assumption) ?_
    rotate_left
    next => (rintro w' k0; go_simp; (try with_reducible rfl))
    (try simp only [Act.put, List.setIfInBounds_toArray, List.set_cons_zero, List.set_cons_succ])
    refine wpAnyH_done (by kernel_rfl) ?_ _
    refine NoPanic.normal ?_
    have HW0 := Lib.hid hS
    clear hS rw0
    generalize w0.drew = V at *
    have c0 := (HX.out.on HW0.out).c 0 _ rfl; have c1 := (HX.out.on HW0.out).c 1 _ rfl; have c2 := (HX.out.on HW0.out).c 2 _ rfl; have c3 := (HX.out.on HW0.out).c 3 _ rfl
    have HSV := Lib.hid (HS.out.keep HW0.out)
    have HZV : Hid (base ≤ V.heap.size) := Lib.hid (Nat.le_trans HSZ.out HW0.out.size)
    have HBV := Lib.hid (HB.out.trans (HW0.out.mono HSZ.out))
    obtain ⟨V2, hV2⟩ : ∃ V2, (V.alloc (.cells #[.bool f1, .int .i64 f2, .int .i64 f3, .string f4] 36)).alloc (.cells #[.slice (some ⟨V.heap.size, 0, none⟩) 1 1] 45) = V2 := ⟨_, rfl⟩
    have hb2 : Below V.heap.size V V2 := by rw [← hV2]; exact ((Below.refl V.heap.size V).alloc (Nat.le_refl _) _).alloc (by rw [World.size_alloc]; omega) _
    have HRN : Hid (V2.ownsRow V.heap.size 36 4 (.slice (some ⟨V.heap.size, 0, none⟩) 1 1) 1 (ev [⟨⟨f1, f2, f3⟩, f4⟩])) := Lib.hid (by rw [← hV2]; exact (World.ownsRow_lit V #[.bool f1, .int .i64 f2, .int .i64 f3, .string f4] 1 (Nat.le_refl _) (by unfold maxLen; decide) rfl).alloc _)
    have HRO := Lib.hid (own_keep HSV.out.row hb2)
    have H3 : Hid (∀ j u, [Value.slice (some ⟨V.heap.size, 0, none⟩) 1 1][j]? = some u → V2.cell? ((⟨V.heap.size + 1, 0, none⟩ : Addr).add j) = some u) := Lib.hid fun j u hu => by
      rw [addr_lit, Nat.zero_add, ← hV2]
      have := cell_new (V.alloc (.cells #[.bool f1, .int .i64 f2, .int .i64 f3, .string f4] 36)) (xs := #[.slice (some ⟨V.heap.size, 0, none⟩) 1 1]) (T := 45) (k := j) (v := u) (by simpa using hu)
      rwa [World.size_alloc] at this
    have H4 : Hid (∀ u ∈ [Value.slice (some ⟨V.heap.size, 0, none⟩) 1 1], u.oneCell' = true) := Lib.hid (by simp [Value.oneCell'])
    have H5 : Hid (0 + 1 ≤ maxLen ∧ (0 + 1) * 24 ≤ 140737488355328) := Lib.hid ⟨by unfold maxLen; omega, by omega⟩
    have H6 : Hid (base ≤ V2.heap.size) := Lib.hid (Nat.le_trans HZV.out hb2.size)
    have HB2 := Lib.hid hb2
    clear hb2
    go_wp2_with (at_builtin; refine wpList_append_lies _ rfl _ _ _ rfl base 45 i0 (.slice none 0 0) 1 24 Try.underlying26 hi0 hz0 hz1 hz2 rfl (by decide) _ (0) _ rfl HRO.out ⟨V.heap.size + 1, 0, none⟩ 1 1 [.slice (some ⟨V.heap.size, 0, none⟩) 1 1] rfl rfl H3.out H4.out (by decide) H5.out.1 H5.out.2 H6.out _ rfl ?_)
    intro g6 cap6 w6 q1 q2 q3 q4
    have HF : Hid (SgW w6 base (some ⟨g6, 0, none⟩) (0 + 1) cap6 (rs ++ [⟨some ⟨V.heap.size, 0, none⟩, 1, 1⟩]) ([] ++ [[⟨⟨f1, f2, f3⟩, f4⟩]]) ∧ Below base w w6) := Lib.hid ⟨HSV.out.snoc HB2.out HRN.out HZV.out q2 q1, (HBV.out.trans (HB2.out.mono HZV.out)).grown q2 H6.out (fun k e => row_base HRO.out k e)⟩
    clear q1 q2 q3 q4 c0 c1 c2 c3
    go_wp2_with fail
    go_ret2
    exact ⟨HF.out.2, _, _, _, _, rfl, HF.out.1⟩
  · obtain ⟨q, rfl⟩ : ∃ q, n = q + 1 := ⟨n - 1, by omega⟩
    obtain ⟨A, r, rfl, hA⟩ := snoc_of hS.rlen
    obtain ⟨L, s, rfl, hL⟩ := snoc_of hS.len
    obtain ⟨PT, hPT⟩ : ∃ PT, Sg.putL (L ++ [s]) ⟨⟨f1, f2, f3⟩, f4⟩ = PT := ⟨_, rfl⟩
    rw [hPT]
    rw [Sg.putL_snoc] at hPT
    have hq : q < q + 1 := Nat.lt_succ_self q
    obtain ⟨g, r', s', rfl, hg, hgb, c0, hr', hs', ho⟩ := HS.out.at hq
    rw [List.getElem?_append_right (by omega), hA, Nat.sub_self] at hr'
    rw [List.getElem?_append_right (by omega), hL, Nat.sub_self] at hs'
    obtain rfl := Option.some.inj hr'
    obtain rfl := Option.some.inj hs'
    have hsk := hG.seg s (List.mem_append_right _ (List.mem_singleton.2 rfl))
    have hs25 := Sg.sok_short hsk
    have hfl := hsk.room
    have HO := Lib.hid ho
    have hrn : r.n ≤ 25 := by rw [← own_len4 ho]; exact hs25
    have F1 : Hid (∀ V, Below w0.heap.size w0 V → Calls Try.prog 117 #[.slice r.a r.n r.c] V fun e w' => e = .returned (.int .i64 (Sg.full s : Nat)) ∧ Below V.heap.size V w') := Lib.hid fun V hb => full_E r.a r.n r.c _ s V (own_keep ho hb) (fun x hx => (hsk.one x hx).2) (by omega)
    have F2 : Hid (∀ V, Calls Try.prog 173 #[.agg #[.bool f1, .int .i64 f2, .int .i64 f3, .string f4]] V fun e w' => e = .returned (.int .i64 ((8 + f4.size : Nat) : Int)) ∧ Below V.heap.size V w') := Lib.hid fun V => size_E f1 f2 f3 f4 V hr
    have hsz : Sg.sz ⟨⟨f1, f2, f3⟩, f4⟩ = 8 + f4.size := rfl
    rw [hsz] at hPT
    have HC0 := Lib.hid c0
    have HA := Lib.hid hA; have HL := Lib.hid hL; have HR25 := Lib.hid hrn
    obtain ⟨ra, rn, rc⟩ := r
    dsimp only at *
    generalize Sg.full s = F at *
    have HPT : Hid ((if F + (8 + f4.size) ≤ 200 then some (L ++ [s ++ [⟨⟨f1, f2, f3⟩, f4⟩]]) else if q + 1 = 16 then none else some (L ++ [s] ++ [[⟨⟨f1, f2, f3⟩, f4⟩]])) = PT) := Lib.hid (by rw [← hPT, hL])
    clear hPT
    have hwr : IntKind.i64.wrap ((F : Int) + (8 + (f4.size : Int))) = (F : Int) + (8 + (f4.size : Int)) := IntWalk.i64_in _ ⟨by omega, by omega⟩
    clear hS hG hbs TAIL hr' hs' ho hsk hs25 hsz hA hL hg hgb c0
    have hiq : IntKind.i64.wrap (q : Int) = (q : Int) := IntWalk.i64_in _ ⟨by omega, by omega⟩
    have hql : (q : Int) < (q : Int) + 1 := by omega
    have hS0 : w0.drew.cell? ⟨g, q, none⟩ = some (.slice ra rn rc) ∧ w0.drew.cell? ⟨w.heap.size, 0, none⟩ = some (.bool f1) ∧ w0.drew.cell? ⟨w.heap.size, 1, none⟩ = some (.int .i64 f2) ∧ w0.drew.cell? ⟨w.heap.size, 2, none⟩ = some (.int .i64 f3) ∧ w0.drew.cell? ⟨w.heap.size, 3, none⟩ = some (.string f4) ∧ Below w0.heap.size w0 w0.drew := ⟨HC0.out, HX.out.c 0 _ rfl, HX.out.c 1 _ rfl, HX.out.c 2 _ rfl, HX.out.c 3 _ rfl, Below.drew (Below.refl _ _)⟩
    have HSS : Hid (∀ V, Below w0.heap.size w0 V → V.cell? ⟨g, q, none⟩ = some (.slice ra rn rc) ∧ V.cell? ⟨w.heap.size, 0, none⟩ = some (.bool f1) ∧ V.cell? ⟨w.heap.size, 1, none⟩ = some (.int .i64 f2) ∧ V.cell? ⟨w.heap.size, 2, none⟩ = some (.int .i64 f3) ∧ V.cell? ⟨w.heap.size, 3, none⟩ = some (.string f4) ∧ Below w0.heap.size w0 V) := Lib.hid fun V hb => ⟨(hb.cell (World.block_lt_of_cell? w0 _ HC0.out)).trans HC0.out, (HX.out.on hb).c 0 _ rfl, (HX.out.on hb).c 1 _ rfl, (HX.out.on hb).c 2 _ rfl, (HX.out.on hb).c 3 _ rfl, hb⟩
    go_enter Try.func106, Try.ntmps106
    go_wp2_with fail
    rw [← hw0]
    clear hw0
    refine wp_region_noPanic ?_
    refine wp_region_held_drew (S := (fun V => V.cell? ⟨g, q, none⟩ = some (.slice ra rn rc) ∧ V.cell? ⟨w.heap.size, 0, none⟩ = some (.bool f1) ∧ V.cell? ⟨w.heap.size, 1, none⟩ = some (.int .i64 f2) ∧ V.cell? ⟨w.heap.size, 2, none⟩ = some (.int .i64 f3) ∧ V.cell? ⟨w.heap.size, 3, none⟩ = some (.string f4) ∧ Below w0.heap.size w0 V)) (by kernel_rfl) (hS0) (fun hS => ?_)
    refine wpAnyH_take (i := 0) (oi := _) (v := ?_) (by (try simp only [List.getElem?_toArray, List.getElem?_cons_succ, List.getElem?_cons_zero]); rfl) (by kernel_rfl) (by kernel_rfl) (by kernel_rfl) (fun _ _ _ h => h) (Or.inl ⟨by rfl, ?_⟩) (by assumption) ?_
    rotate_left
    next => (rintro w' ⟨k0, k1, k2, k3, k4, k5⟩; go_simp; (try with_reducible rfl))
    (try simp only [Act.put, List.setIfInBounds_toArray, List.set_cons_zero, List.set_cons_succ])
    refine wpAnyH_take (i := 1) (oi := _) (v := ?_) (by (try simp only [List.getElem?_toArray, List.getElem?_cons_succ, List.getElem?_cons_zero]); rfl) (by kernel_rfl) (by kernel_rfl) (by kernel_rfl) (fun _ _ _ h => h) (Or.inl ⟨by rfl, ?_⟩) (by assumption) ?_
    rotate_left
    next => (rintro w' ⟨k0, k1, k2, k3, k4, k5⟩; go_simp; (try with_reducible rfl))
    (try simp only [Act.put, List.setIfInBounds_toArray, List.set_cons_zero, List.set_cons_succ])
    refine wpAnyH_take (i := 2) (oi := _) (v := ?_) (by (try simp only [List.getElem?_toArray, List.getElem?_cons_succ, List.getElem?_cons_zero]); rfl) (by kernel_rfl) (by kernel_rfl) (by kernel_rfl) (fun _ _ _ h => h) (Or.inl ⟨by rfl, ?_⟩) (by assumption) ?_
    rotate_left
    next => (rintro w' ⟨k0, k1, k2, k3, k4, k5⟩; go_simp; (try with_reducible rfl))
    (try simp only [Act.put, List.setIfInBounds_toArray, List.set_cons_zero, List.set_cons_succ])
    refine wpAnyH_take (i := 3) (oi := _) (v := ?_) (by (try simp only [List.getElem?_toArray, List.getElem?_cons_succ, List.getElem?_cons_zero]); rfl) (by kernel_rfl) (by kernel_rfl) (by kernel_rfl) (fun _ _ _ h => h) (Or.inl ⟨by rfl, ?_⟩) (by assumption) ?_
    rotate_left
    next => (rintro w' ⟨k0, k1, k2, k3, k4, k5⟩; go_simp; (try with_reducible rfl))
    (try simp only [Act.put, List.setIfInBounds_toArray, List.set_cons_zero, List.set_cons_succ])
    refine wpAnyH_take (i := 4) (oi := _) (v := ?_) (by (try simp only [List.getElem?_toArray, List.getElem?_cons_succ, List.getElem?_cons_zero]); rfl) (by kernel_rfl) (by kernel_rfl) (by kernel_rfl) (fun _ _ _ h => h) (Or.inl ⟨by rfl, ?_⟩) (by assumption) ?_
    rotate_left
    next => (rintro w' ⟨k0, k1, k2, k3, k4, k5⟩; go_simp; (try with_reducible rfl))
    (try simp only [Act.put, List.setIfInBounds_toArray, List.set_cons_zero, List.set_cons_succ])
    refine wpAnyH_take (i := 5) (oi := _) (v := ?_) (by (try simp only [List.getElem?_toArray, List.getElem?_cons_succ, List.getElem?_cons_zero]); rfl) (by kernel_rfl) (by kernel_rfl) (by kernel_rfl) (fun _ _ _ h => h) (Or.inl ⟨by rfl, ?_⟩) (by assumption) ?_
    rotate_left
    next => (rintro w' ⟨k0, k1, k2, k3, k4, k5⟩; go_simp; (try with_reducible rfl))
    (try simp only [Act.put, List.setIfInBounds_toArray, List.set_cons_zero, List.set_cons_succ])
    refine wpAnyH_take (i := 6) (oi := _) (v := ?_) (by (try simp only [List.getElem?_toArray, List.getElem?_cons_succ, List.getElem?_cons_zero]); rfl) (by kernel_rfl) (by kernel_rfl) (by kernel_rfl) (fun _ _ _ h => h) (Or.inl ⟨by rfl, ?_⟩) (by assumption) ?_
    rotate_left
    next => (rintro w' ⟨k0, k1, k2, k3, k4, k5⟩; go_simp; (try with_reducible rfl))
    (try simp only [Act.put, List.setIfInBounds_toArray, List.set_cons_zero, List.set_cons_succ])
    refine wpAnyH_take (i := 7) (oi := _) (v := ?_) (by (try simp only [List.getElem?_toArray, List.getElem?_cons_succ, List.getElem?_cons_zero]); rfl) (by kernel_rfl) (by kernel_rfl) (by kernel_rfl) (fun _ _ _ h => h) (Or.inl ⟨by rfl, ?_⟩) (by assumption) ?_
    rotate_left
    next => (rintro w' ⟨k0, k1, k2, k3, k4, k5⟩; go_simp; (try with_reducible rfl))
    (try simp only [Act.put, List.setIfInBounds_toArray, List.set_cons_zero, List.set_cons_succ])
    refine wpAnyH_take (i := 9) (oi := _) (v := ?_) (by (try simp only [List.getElem?_toArray, List.getElem?_cons_succ, List.getElem?_cons_zero]); rfl) (by kernel_rfl) (by kernel_rfl) (by kernel_rfl) (fun _ _ _ h => h) (Or.inl ⟨by rfl, ?_⟩) (by assumption) ?_
    rotate_left
    next => (rintro w' ⟨k0, k1, k2, k3, k4, k5⟩; go_simp; (try with_reducible rfl))
    (try simp only [Act.put, List.setIfInBounds_toArray, List.set_cons_zero, List.set_cons_succ])
    refine wpAnyH_ready (rs := [8]) (by kernel_rfl) (by simp) ?_
    refine AllReadyH.cons (o := _) (by (try simp only [List.getElem?_toArray, List.getElem?_cons_succ, List.getElem?_cons_zero]); rfl) (fun K hK => ?_) (AllReadyH.nil)
    go_simp
    go_at_call 117
    have rq := F1.out _ hS.2.2.2.2.2
    with_reducible refine rq.mono ?_
    clear rq
    rintro e V1 ⟨rfl, hb1⟩
    have hX := (HSS.out V1 (hS.2.2.2.2.2.trans (hb1.mono hS.2.2.2.2.2.size)))
    refine hK.out _ _ hX (fun _ => ?_)
    clear hK K hS
    (try simp only [Act.put, List.setIfInBounds_toArray, List.set_cons_zero, List.set_cons_succ])
    have hS := hX
    clear hX
    clear hb1
    refine wpAnyH_ready (rs := [10]) (by kernel_rfl) (by simp) ?_
    refine AllReadyH.cons (o := _) (by (try simp only [List.getElem?_toArray, List.getElem?_cons_succ, List.getElem?_cons_zero]); rfl) (fun K hK => ?_) (AllReadyH.nil)
    go_simp
    go_at_call 173
    have rq := F2.out V1
    with_reducible refine rq.mono ?_
    clear rq
    rintro e V ⟨rfl, hb1⟩
    have hX := (HSS.out V (hS.2.2.2.2.2.trans (hb1.mono hS.2.2.2.2.2.size)))
    refine hK.out _ _ hX (fun _ => ?_)
    clear hK K hS
    (try simp only [Act.put, List.setIfInBounds_toArray, List.set_cons_zero, List.set_cons_succ])
    have hS := hX
    clear hX
    clear hb1
    refine wpAnyH_take (i := 11) (oi := _) (v := ?_) (by (try simp only [List.getElem?_toArray, List.getElem?_cons_succ, List.getElem?_cons_zero]); rfl) (by kernel_rfl) (by kernel_rfl) (by kernel_rfl) (fun _ _ _ h => h) (Or.inl ⟨by rfl, ?_⟩) (by assumption) ?_
    rotate_left
    next => (rintro w' ⟨k0, k1, k2, k3, k4, k5⟩; go_simp; (try with_reducible rfl))
    (try simp only [Act.put, List.setIfInBounds_toArray, List.set_cons_zero, List.set_cons_succ])
    refine wpAnyH_take (i := 12) (oi := _) (v := ?_) (by (try simp only [List.getElem?_toArray, List.getElem?_cons_succ, List.getElem?_cons_zero]); rfl) (by kernel_rfl) (by kernel_rfl) (by kernel_rfl) (fun _ _ _ h => h) (Or.inl ⟨by rfl, ?_⟩) (by assumption) ?_
    rotate_left
    next => (rintro w' ⟨k0, k1, k2, k3, k4, k5⟩; go_simp; (try with_reducible rfl))
    (try simp only [Act.put, List.setIfInBounds_toArray, List.set_cons_zero, List.set_cons_succ])
    refine wpAnyH_take (i := 13) (oi := _) (v := ?_) (by (try simp only [List.getElem?_toArray, List.getElem?_cons_succ, List.getElem?_cons_zero]); rfl) (by kernel_rfl) (by kernel_rfl) (by kernel_rfl) (fun _ _ _ h => h) (Or.inl ⟨by rfl, ?_⟩) (by assumption) ?_
    rotate_left
    next => (rintro w' ⟨k0, k1, k2, k3, k4, k5⟩; go_simp; (try with_reducible rfl))
    (try simp only [Act.put, List.setIfInBounds_toArray, List.set_cons_zero, List.set_cons_succ])
    refine wpAnyH_done (by kernel_rfl) ?_ _
    refine NoPanic.normal ?_
    have HW0 := Lib.hid hS.2.2.2.2.2
    clear hS
    by_cases hro : F + (8 + f4.size) ≤ 200
    · have hri : (F : Int) + (8 + (f4.size : Int)) ≤ 200 := by omega
      have HPE : Hid (PT = some (L ++ [s ++ [⟨⟨f1, f2, f3⟩, f4⟩]])) := Lib.hid (by rw [← HPT.out, if_pos hro])
      obtain ⟨X, hX⟩ : ∃ X, (V.alloc (.cells #[.bool f1, .int .i64 f2, .int .i64 f3, .string f4] 36)).drew = X := ⟨_, rfl⟩
      have hbX : Below V.heap.size V X := by rw [← hX]; exact ((Below.refl V.heap.size V).alloc (Nat.le_refl _) _).drew
      have HSX := Lib.hid ((HS.out.keep HW0.out).keep hbX)
      have HOA : Hid (X.ownsRow base 36 4 (.slice ra rn rc) rn (ev s)) := Lib.hid (own_keep (own_keep HO.out HW0.out) hbX)
      have HCE : Hid (∀ (j : Nat) (u : Value), [Value.bool f1, .int .i64 f2, .int .i64 f3, .string f4][j]? = some u → X.cell? ((⟨V.heap.size, 0, none⟩ : Addr).add j) = some u) := Lib.hid fun j u hu => by
        rw [addr_lit, Nat.zero_add, ← hX]
        exact cell_new V (xs := #[.bool f1, .int .i64 f2, .int .i64 f3, .string f4]) (T := 36) (k := j) (v := u) (by simpa using hu)
      have HON := Lib.hid (rec_ones f1 f2 f3 f4)
      have HBX : Hid (Below base w X) := Lib.hid ((HB.out.trans (HW0.out.mono HSZ.out)).trans (hbX.mono (Nat.le_trans HSZ.out HW0.out.size)))
      have hb3 : base ≤ X.heap.size := Nat.le_trans (Nat.le_trans HSZ.out HW0.out.size) hbX.size
      have hb1 : rn + 1 ≤ maxLen := by unfold maxLen; omega
      have hb22 : (rn + 1) * 40 ≤ 140737488355328 := by omega
      have HSQ : Hid ((sv (A ++ [⟨ra, rn, rc⟩]))[q]? = some (.slice ra rn rc)) := Lib.hid (by unfold sv; rw [List.getElem?_map, List.getElem?_append_right (by rw [HA.out]; exact Nat.le_refl _), HA.out, Nat.sub_self]; rfl)
      have HQ1 : Hid (q < (q + 1) * 1) := Lib.hid (by omega)
      have x0 := HSX.out.row.cellAt q HQ1.out
      rw [HSQ.out] at x0
      have v0 : V.cell? ⟨g, q, none⟩ = some (.slice ra rn rc) := (HSS.out V HW0.out).1
      have c0 := (HX.out.on HW0.out).c 0 _ rfl; have c1 := (HX.out.on HW0.out).c 1 _ rfl; have c2 := (HX.out.on HW0.out).c 2 _ rfl; have c3 := (HX.out.on HW0.out).c 3 _ rfl
      have d0 := ((HX.out.on HW0.out).on hbX).c 0 _ rfl; have d1 := ((HX.out.on HW0.out).on hbX).c 1 _ rfl; have d2 := ((HX.out.on HW0.out).on hbX).c 2 _ rfl; have d3 := ((HX.out.on HW0.out).on hbX).c 3 _ rfl
      clear hbX
      go_wp2_with fail
      go_region_law (refine step_append_lies _ (by rfl) (.tmp 30) (.tmp 32) 45 (by rfl) base 36 i1 (.agg #[.bool false, .int .i64 0, .int .i64 0, .string ⟨#[]⟩]) 4 40 Try.underlying45 hi1 hy0 hy1 hy2 (by rfl) (by decide) (.slice ra rn rc) rn (ev s) (by rfl) HOA.out ⟨V.heap.size, 0, none⟩ 1 1 [.bool f1, .int .i64 f2, .int .i64 f3, .string f4] (by rfl) (by rfl) HCE.out HON.out (by decide) hb1 hb22 hb3 _ (by rfl) (fun g' cap' wq q1 q2 q3 q4 => ?_); have o1 := own_kept2 HSX.out.row q2 (fun k hk e => own_unlike HSX.out.row HOA.out (by decide) k hk e); have y0 := o1.cellAt q HQ1.out; rw [HSQ.out] at y0; have yf := o1.frozenAt q; have Q1 := Lib.hid q1; have Q2 := Lib.hid q2; have Q3 := Lib.hid q3; clear o1 q1 q2 q3)
      all_goals
        have HF := Lib.hid (SgW.last (x := ⟨⟨f1, f2, f3⟩, f4⟩) HSX.out HA.out HL.out Q1.out Q2.out Q3.out HBX.out hb3)
        go_wp2_with fail
        go_ret2
        rw [HPE.out]
        exact ⟨HF.out.2, _, _, _, _, rfl, HF.out.1⟩
    · have hri : ¬ (F : Int) + (8 + (f4.size : Int)) ≤ 200 := by omega
      by_cases h16 : q + 1 = 16
      · have h16' : ((q : Int) + 1 == 16) = true := beq_iff_eq.2 (by omega)
        have HPE : Hid (PT = none) := Lib.hid (by rw [← HPT.out, if_neg hro, if_pos h16])
        go_wp2_with fail
        go_ret2
        rw [HPE.out]
        exact ⟨HB.out.trans (HW0.out.mono HSZ.out), rfl⟩
      · have h16' : ((q : Int) + 1 == 16) = false := beq_eq_false_iff_ne.2 (by omega)
        have HPE : Hid (PT = some (L ++ [s] ++ [[⟨⟨f1, f2, f3⟩, f4⟩]])) := Lib.hid (by rw [← HPT.out, if_neg hro, if_neg h16])
        have c0 := (HX.out.on HW0.out).c 0 _ rfl; have c1 := (HX.out.on HW0.out).c 1 _ rfl; have c2 := (HX.out.on HW0.out).c 2 _ rfl; have c3 := (HX.out.on HW0.out).c 3 _ rfl
        have HSV := Lib.hid (HS.out.keep HW0.out)
        have HZV : Hid (base ≤ V.heap.size) := Lib.hid (Nat.le_trans HSZ.out HW0.out.size)
        have HBV := Lib.hid (HB.out.trans (HW0.out.mono HSZ.out))
        obtain ⟨V2, hV2⟩ : ∃ V2, (V.alloc (.cells #[.bool f1, .int .i64 f2, .int .i64 f3, .string f4] 36)).alloc (.cells #[.slice (some ⟨V.heap.size, 0, none⟩) 1 1] 45) = V2 := ⟨_, rfl⟩
        have hb2 : Below V.heap.size V V2 := by rw [← hV2]; exact ((Below.refl V.heap.size V).alloc (Nat.le_refl _) _).alloc (by rw [World.size_alloc]; omega) _
        have HRN : Hid (V2.ownsRow V.heap.size 36 4 (.slice (some ⟨V.heap.size, 0, none⟩) 1 1) 1 (ev [⟨⟨f1, f2, f3⟩, f4⟩])) := Lib.hid (by rw [← hV2]; exact (World.ownsRow_lit V #[.bool f1, .int .i64 f2, .int .i64 f3, .string f4] 1 (Nat.le_refl _) (by unfold maxLen; decide) rfl).alloc _)
        have HRO := Lib.hid (own_keep HSV.out.row hb2)
        have H3 : Hid (∀ j u, [Value.slice (some ⟨V.heap.size, 0, none⟩) 1 1][j]? = some u → V2.cell? ((⟨V.heap.size + 1, 0, none⟩ : Addr).add j) = some u) := Lib.hid fun j u hu => by
          rw [addr_lit, Nat.zero_add, ← hV2]
          have := cell_new (V.alloc (.cells #[.bool f1, .int .i64 f2, .int .i64 f3, .string f4] 36)) (xs := #[.slice (some ⟨V.heap.size, 0, none⟩) 1 1]) (T := 45) (k := j) (v := u) (by simpa using hu)
          rwa [World.size_alloc] at this
        have H4 : Hid (∀ u ∈ [Value.slice (some ⟨V.heap.size, 0, none⟩) 1 1], u.oneCell' = true) := Lib.hid (by simp [Value.oneCell'])
        have H5 : Hid ((q + 1) + 1 ≤ maxLen ∧ ((q + 1) + 1) * 24 ≤ 140737488355328) := Lib.hid ⟨by unfold maxLen; omega, by omega⟩
        have H6 : Hid (base ≤ V2.heap.size) := Lib.hid (Nat.le_trans HZV.out hb2.size)
        have HB2 := Lib.hid hb2
        clear hb2
        go_wp2_with (at_builtin; refine wpList_append_lies _ rfl _ _ _ rfl base 45 i0 (.slice none 0 0) 1 24 Try.underlying26 hi0 hz0 hz1 hz2 rfl (by decide) _ ((q + 1)) _ rfl HRO.out ⟨V.heap.size + 1, 0, none⟩ 1 1 [.slice (some ⟨V.heap.size, 0, none⟩) 1 1] rfl rfl H3.out H4.out (by decide) H5.out.1 H5.out.2 H6.out _ rfl ?_)
        intro g6 cap6 w6 q1 q2 q3 q4
        have HF : Hid (SgW w6 base (some ⟨g6, 0, none⟩) ((q + 1) + 1) cap6 ((A ++ [⟨ra, rn, rc⟩]) ++ [⟨some ⟨V.heap.size, 0, none⟩, 1, 1⟩]) ((L ++ [s]) ++ [[⟨⟨f1, f2, f3⟩, f4⟩]]) ∧ Below base w w6) := Lib.hid ⟨HSV.out.snoc HB2.out HRN.out HZV.out q2 q1, (HBV.out.trans (HB2.out.mono HZV.out)).grown q2 H6.out (fun k e => row_base HRO.out k e)⟩
        clear q1 q2 q3 q4 c0 c1 c2 c3
        go_wp2_with fail
        go_ret2
        rw [HPE.out]
        exact ⟨HF.out.2, _, _, _, _, rfl, HF.out.1⟩

end Go.Proofs.Ytenkdpogdfcbgaa
