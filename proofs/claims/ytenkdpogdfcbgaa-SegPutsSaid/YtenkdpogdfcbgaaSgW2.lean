import Derived.Test.YtenkdpogdfcbgaaSgW
/- The walks of slices.Clone at records and of seg.copied. -/
namespace Go.Proofs.Ytenkdpogdfcbgaa
open Go.RowKit

set_option maxRecDepth 100000 in
set_option maxHeartbeats 4000000 in
theorem Clone_E (a : Option Addr) (n c base : Nat) (l : List Sg.R) (w : World) (hT : w.ownsRow base 36 4 (.slice a n c) n (ev l)) (hn : n ≤ 1000000) :
    Calls Try.prog 50 #[.slice a n c] w fun e w' => ∃ z : Rl, e = .returned (.slice z.a z.n z.c) ∧ w'.ownsRow w.heap.size 36 4 z.v z.n (ev l) ∧ Below w.heap.size w w' := by
  obtain ⟨i0, hi, hz0, hz1, hz2⟩ := info_parts Try.infoRec
  have hll := own_len4 hT
  rcases hT.2 with ⟨he, h0⟩ | ⟨g, cap, cur, he, hg, hh, hnc, hcm, hcur⟩
  · cases he
    obtain rfl : l = [] := List.length_eq_zero_iff.1 hll
    clear hT hll
    have en : ∀ w, (binOp .eql 45 (.slice none 0 0) (.slice none 0 0)).run Try.prog w = .ok (.bool true) w := fun w => Lib.run_eql_slice_nil w 45 36 none 0 0 0 0 Try.underlying45
    go_enter Try.func50, Try.ntmps50
    go_wp2_with fail
    go_ret
    exact ⟨⟨none, 0, 0⟩, rfl, World.ownsRow_nil _ _ _ _, Below.refl _ _⟩
  · cases he
    have HB1 : ∀ T, Below w.heap.size w (w.alloc (.cells #[] T)) := fun T => (Below.refl _ w).alloc (Nat.le_refl _) _
    have hcells : ∀ (T : TypeId) j u, (ev l)[j]? = some u → (w.alloc (.cells #[] T)).cell? ((⟨g, 0, none⟩ : Addr).add j) = some u := fun T => (own_keep hT (HB1 T)).cells rfl
    have H3 := Lib.hid (hcells 36)
    have HL : Hid ((ev l).length = n * 4) := Lib.hid (by rw [ev_length, hll])
    have H5 : Hid (0 + n ≤ maxLen ∧ (0 + n) * 40 ≤ 140737488355328) := Lib.hid ⟨by unfold maxLen; omega, by omega⟩
    have HO : Hid ((w.alloc (.cells #[] 36)).ownsRow w.heap.size 36 4 (.slice (some ⟨w.heap.size, 0, none⟩) 0 0) 0 []) := Lib.hid (World.ownsRow_made w #[] 0 (Nat.le_refl _) (Nat.zero_le _) rfl)
    have HS : Hid (w.heap.size ≤ (w.alloc (.cells #[] 36)).heap.size) := Lib.hid (by rw [World.size_alloc]; omega)
    have HB := Lib.hid (HB1 36)
    clear hcells hT HB1 hh hcur hll
    have en : ∀ w, (binOp .eql 45 (.slice (some ⟨g, 0, none⟩) n c) (.slice none 0 0)).run Try.prog w = .ok (.bool false) w := fun w => Lib.run_eql_slice_nil w 45 36 (some ⟨g, 0, none⟩) n c 0 0 Try.underlying45
    go_enter Try.func50, Try.ntmps50
    go_wp2_with (at_builtin; refine wpList_append_own _ rfl _ _ _ rfl w.heap.size 36 i0 (.agg #[.bool false, .int .i64 0, .int .i64 0, .string ⟨#[]⟩]) 4 40 Try.underlying45 hi hz0 hz1 hz2 rfl (by decide) (.slice (some ⟨w.heap.size, 0, none⟩) 0 0) 0 [] rfl HO.out ⟨g, 0, none⟩ n c (ev l) rfl HL.out H3.out (ev_one l) H5.out.1 H5.out.2 HS.out ?_)
    intro v' w' q1 q2 _
    have HF : Hid (w'.ownsRow w.heap.size 36 4 v' n (ev l) ∧ Below w.heap.size w w') := Lib.hid ⟨by simpa using q1, own_grown HO.out HB.out (Nat.le_refl _) HS.out q2⟩
    have HV : Hid (∃ z : Rl, v' = .slice z.a z.n z.c ∧ z.n = n) := Lib.hid (by
      rcases HF.out.1.2 with ⟨e1, e2⟩ | ⟨g1, c1, cur1, e1, -⟩
      · exact ⟨⟨none, 0, 0⟩, e1, e2.symm⟩
      · exact ⟨⟨some ⟨g1, 0, none⟩, n, c1⟩, e1, rfl⟩)
    clear q1 q2 H3 HL H5
    go_wp2_with fail
    go_ret
    obtain ⟨z, rfl, hz⟩ := HV.out
    exact ⟨z, rfl, by rw [hz]; exact HF.out.1, HF.out.2⟩

/-- One segment more. -/
theorem SgW.snoc {w w1 w2 : World} {base k d g cap : Nat} {b : Option Addr} {zs : List Rl} {l : List (List Sg.R)} {z : Rl} {s : List Sg.R} (h : SgW w base b k d zs l) (hb : Below w.heap.size w w1) (ho : w1.ownsRow w.heap.size 36 4 z.v z.n (ev s)) (hbs : base ≤ w.heap.size)
    (hg : w1.grownBy w2 (Value.slice b k d).ownBlock) (q1 : w2.ownsRow base 45 1 (.slice (some ⟨g, 0, none⟩) (k + 1) cap) (k + 1) (sv zs ++ [z.v])) : SgW w2 base (some ⟨g, 0, none⟩) (k + 1) cap (zs ++ [z]) (l ++ [s]) := by
  have h1 := h.keep hb
  have hrl := h.rlen
  refine ⟨by rw [sv_app]; exact q1, by rw [List.length_append, h.len]; rfl, fun i r s' hr hs => ?_, ?_⟩
  · by_cases hi : i < k
    · rw [List.getElem?_append_left (by rw [hrl]; exact hi)] at hr
      rw [List.getElem?_append_left (by rw [h.len]; exact hi)] at hs
      exact own_kept2 (h1.seg i r s' hr hs) hg (fun j hj e => own_unlike (h1.seg i r s' hr hs) h1.row (by decide) j hj e)
    · have hik : i = k := by
        have := (List.getElem?_eq_some_iff.1 hr).1
        rw [List.length_append, hrl] at this
        simp at this
        omega
      subst hik
      rw [List.getElem?_append_right (by rw [hrl]; exact Nat.le_refl _), hrl, Nat.sub_self] at hr
      rw [List.getElem?_append_right (by rw [h.len]; exact Nat.le_refl _), h.len, Nat.sub_self] at hs
      obtain rfl := Option.some.inj hr
      obtain rfl := Option.some.inj hs
      exact own_low (own_kept2 ho hg (fun j hj e => own_unlike ho h1.row (by decide) j hj e)) hbs
  · rw [List.map_append]
    refine List.pairwise_append.2 ⟨h.apart, List.pairwise_singleton _ _, fun u hu v hv j hj e => ?_⟩
    obtain ⟨r, hr, rfl⟩ := List.mem_map.1 hu
    obtain ⟨x, hx, rfl⟩ := List.mem_map.1 hv
    obtain rfl := List.mem_singleton.1 hx
    obtain ⟨s', -, h2⟩ := h.rows hr
    have h3 := own_block_lt h2 j hj
    have h4 := row_base ho j e
    omega

set_option maxRecDepth 100000 in
set_option maxHeartbeats 4000000 in
theorem copied_E (a : Option Addr) (n c base : Nat) (rs : List Rl) (l : List (List Sg.R)) (w : World) (hS : SgW w base a n c rs l) (hn : n ≤ 1000000) (hs : ∀ s ∈ l, s.length ≤ 1000000) :
    Calls Try.prog 107 #[.slice a n c] w fun e w' => ∃ b m d zs, e = .returned (.slice b m d) ∧ SgW w' w.heap.size b m d zs l ∧ Below w.heap.size w w' := by
  obtain ⟨i0, hi0, hz0, hz1, hz2⟩ := info_parts Try.infoRecs
  have HS := Lib.hid hS; have HN := Lib.hid hs
  clear hS hs
  go_enter Try.func107, Try.ntmps107
  go_wp2_with fail
  go_loopw [3, 8] (fun v x wr => ∃ (k : Nat) (b : Option Addr) (d : Nat) (zs : List Rl), k ≤ n ∧ x = .int .i64 k ∧ v = .slice b k d ∧ Hid (Below w.heap.size w wr) ∧ Hid (SgW wr w.heap.size b k d zs (l.take k))) (fun _ x _ => n - (intOf x).toNat)
  case atStart => exact ⟨0, none, 0, [], Nat.zero_le _, rfl, rfl, Lib.hid (Below.refl _ _), Lib.hid (sgW0 _ _)⟩
  case round =>
    obtain ⟨k, b, d, zs, hk, rfl, rfl, HB, HW⟩ := hrel
    by_cases hlt : k < n
    · obtain ⟨g, r, s, rfl, hg, -, c0, hr, hls, ho⟩ := (HS.out.keep HB.out).at hlt
      have hsn : r.n ≤ 1000000 := by rw [← own_len4 ho]; exact HN.out s (List.mem_of_getElem? hls)
      have K1 := Clone_E r.a r.n r.c _ s wr ho hsn
      have HT : Hid (l.take (k + 1) = l.take k ++ [s]) := Lib.hid (by
        obtain ⟨h1, rfl⟩ := List.getElem?_eq_some_iff.1 hls
        exact List.take_succ_eq_append_getElem h1)
      have HZ := Lib.hid HB.out.size
      clear hg hr hls ho hsn
      generalize r.a = ra at *
      generalize r.n = rn at *
      generalize r.c = rc at *
      go_wp2_with fail
      with_reducible refine K1.mono ?_
      rintro e w2 ⟨⟨za, zn, zc⟩, rfl, ho, hb⟩
      dsimp only
      have hb3 := hb.alloc hb.size (.cells #[.slice za zn zc] 45)
      have HB3 := Lib.hid hb3
      have HO := Lib.hid (ho.alloc (.cells #[.slice za zn zc] 45))
      have HR := Lib.hid ((own_keep HW.out.row hb).alloc (.cells #[.slice za zn zc] 45))
      have H3 : Hid (∀ j u, [Value.slice za zn zc][j]? = some u → (w2.alloc (.cells #[.slice za zn zc] 45)).cell? ((⟨w2.heap.size, 0, none⟩ : Addr).add j) = some u) := Lib.hid fun j u hu => by
        rw [addr_lit, Nat.zero_add]
        exact cell_new w2 (k := j) (by simpa using hu)
      have H4 : Hid (∀ u ∈ [Value.slice za zn zc], u.oneCell' = true) := Lib.hid (by simp [Value.oneCell'])
      have H5 : Hid (k + 1 ≤ maxLen ∧ (k + 1) * 24 ≤ 140737488355328) := Lib.hid ⟨by unfold maxLen; omega, by omega⟩
      have H6 : Hid (w.heap.size ≤ (w2.alloc (.cells #[.slice za zn zc] 45)).heap.size) := Lib.hid (Nat.le_trans HZ.out hb3.size)
      clear ho hb hb3 K1 c0
      go_wp2_with (at_builtin; refine wpList_append_lies _ rfl _ _ _ rfl w.heap.size 45 i0 (.slice none 0 0) 1 24 Try.underlying26 hi0 hz0 hz1 hz2 rfl (by decide) (.slice b k d) k (sv zs) rfl HR.out ⟨w2.heap.size, 0, none⟩ 1 1 [.slice za zn zc] rfl rfl H3.out H4.out (by decide) H5.out.1 H5.out.2 H6.out _ rfl ?_)
      intro g6 cap6 w6 q1 q2 q3 q4
      have HBE : Hid (Below w.heap.size w w6) := Lib.hid ((HB.out.trans (HB3.out.mono HZ.out)).grown q2 H6.out (fun j e => row_base HR.out j e))
      have HWE : Hid (SgW w6 w.heap.size (some ⟨g6, 0, none⟩) (k + 1) cap6 (zs ++ [⟨za, zn, zc⟩]) (l.take (k + 1))) := Lib.hid (by rw [HT.out]; exact HW.out.snoc HB3.out HO.out HZ.out q2 q1)
      clear q1 q2 q3 q4 HO HR H3 H4 H5 H6
      go_wp2_with fail
      go_roundw
      case rel => exact ⟨k + 1, _, _, _, hlt, by go_num, rfl, HBE, HWE⟩
      case measure => simp [intOf]; omega
    · obtain rfl : k = n := by omega
      have hte : l.take k = l := List.take_of_length_le (by rw [HS.out.len]; exact Nat.le_refl _)
      go_wp2_with fail
      go_ret
      exact ⟨_, _, _, _, rfl, by have := HW.out; rw [hte] at this; exact this, HB.out⟩

end Go.Proofs.Ytenkdpogdfcbgaa
