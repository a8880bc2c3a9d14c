/- The walk of woolkeep.copied (where what is copied lies; the marks behind it are not told yet). -/
import Derived.Test.YtenkdpogdfcbgaaOwnD
import Derived.Test.YtenkdpogdfcbgaaVoC
import Derived.Test.YtenkdpogdfcbgaaMdW
namespace Go.Proofs.Ytenkdpogdfcbgaa
open Go.RowKit

theorem copiedK_result {tmps : Array Value} {W : World} {B : Nat} {v0 v1 : Value} (h2 : tmps.getD 2 undef = .pointer (some ⟨B, 0, none⟩)) (h : Bxs W B [v0, v1]) :
    (results Try.f78 tmps).run Try.prog W = .ok (.agg #[v0, v1]) W := by
  have c0 := h.c 0 _ rfl; have c1 := h.c 1 _ rfl
  have hq : tmps[2]?.getD undef = .pointer (some ⟨B, 0, none⟩) := by simpa using h2
  simp [results, Try.results78, hq, go_sem, c0, c1]

/-- A row of ids with marks behind it. -/
def RmId (W : World) (r : Rw) : Prop := ∃ g xs, r.a = some ⟨g, 0, none⟩ ∧ r.c = r.n + 3 ∧ xs.length = r.n * 3 ∧ RoomId W g r.c xs [.bool false, .int .i64 0, .int .i64 78]
/-- The bag's row with marks behind it. -/
def RmI (W : World) (a : Option Addr) (n c : Nat) (l : List Bg.It) : Prop := ∃ g, a = some ⟨g, 0, none⟩ ∧ c = n + 3 ∧ RoomI W g c l ⟨0, 77, ⟨#[]⟩, 0⟩

theorem RmId.blk {W W' : World} {r : Rw} (h : RmId W r) (hb : ∀ g, r.sl.ownBlock = some g → g < W.heap.size → W'.heap[g]? = W.heap[g]?) : RmId W' r := by
  obtain ⟨g, xs, h1, h2, h3, h4⟩ := h
  exact ⟨g, xs, h1, h2, h3, h4.blk (hb g (by unfold Rw.sl; rw [h1]; rfl) h4.lt)⟩
theorem RmI.blk {W W' : World} {a : Option Addr} {n c : Nat} {l : List Bg.It} (h : RmI W a n c l) (hb : ∀ g, (Value.slice a n c).ownBlock = some g → g < W.heap.size → W'.heap[g]? = W.heap[g]?) : RmI W' a n c l := by
  obtain ⟨g, rfl, h2, f, h3, h4⟩ := h
  have hl := row_lt h3
  obtain ⟨cur, hg, r⟩ := h3
  exact ⟨g, rfl, h2, f, ⟨cur, by rw [hb g rfl hl]; exact hg, r⟩, h4⟩

theorem cell_grown (w : World) (b i : Nat) (u : Value) : w.grownBy (w.setCell ⟨b, i, none⟩ u) (some b) := Lib.Hx.grownBy_set (Lib.Hx.grownBy_refl _ _) _ rfl u

theorem rm_end {V w5 w6 : World} {B3 base n n1 k d' f3 c5 : Nat} {a1 b' a5 : Option Addr} {f1 : ByteArray} {ids : List Bg.Id} {rs' : List Rw} {s : Vo.St} {T : TypeId} {bag : List Bg.It} {u : Value}
    (hB3V : B3 < V.heap.size) (SV : StW V base a1 n n1 b' k d' rs' s) (OW : ∀ v ∈ (Value.slice b' k d') :: rs'.map Rw.sl, ∀ j, v.ownBlock = some j → B3 < j) (HA : ∀ j, (Value.slice a1 n n1).ownBlock = some j → j < B3)
    (HB5 : Below V.heap.size V w5) (HO5 : w5.ownsRow V.heap.size 29 3 (.slice a5 f3 c5) f3 (dv ids))
    (Q2 : (w5.alloc (.cells #[.string f1, .slice a5 f3 c5] T)).grownBy w6 (Value.slice b' k d').ownBlock)
    (RM : ∀ r ∈ rs', RmId V r) (RB : RmI V a1 n n1 bag) (R5 : RmId w5 ⟨f1, a5, f3, c5⟩) :
    (∀ r ∈ rs' ++ [(⟨f1, a5, f3, c5⟩ : Rw)], RmId (w6.setCell ⟨B3, 1, none⟩ u) r) ∧ RmI (w6.setCell ⟨B3, 1, none⟩ u) a1 n n1 bag := by
  have hX : Below V.heap.size V (w5.alloc (.cells #[.string f1, .slice a5 f3 c5] T)) := HB5.alloc HB5.size _
  have hap := SV.apart
  unfold Apart at hap
  rw [List.pairwise_cons, List.pairwise_cons] at hap
  have step : ∀ g, g < (w5.alloc (.cells #[.string f1, .slice a5 f3 c5] T)).heap.size → (Value.slice b' k d').ownBlock ≠ some g → g ≠ B3 → (w6.setCell ⟨B3, 1, none⟩ u).heap[g]? = (w5.alloc (.cells #[.string f1, .slice a5 f3 c5] T)).heap[g]? := fun g h1 h2 h3 => by
    rw [(cell_grown w6 B3 1 u).block g (Nat.lt_of_lt_of_le h1 Q2.size) (fun e => h3 (Option.some.inj e)), Q2.block g h1 (fun e => h2 e.symm)]
  have hsz := hX.size
  refine ⟨fun r hr => ?_, RB.blk fun g hg hl => ?_⟩
  · rcases List.mem_append.1 hr with hr | hr
    · refine (RM r hr).blk fun g hg hl => ?_
      rw [step g (by omega) (fun e => hap.2.1 _ (List.mem_map.2 ⟨r, hr, rfl⟩) g e hg) (fun e => by have := OW _ (List.mem_cons_of_mem _ (List.mem_map.2 ⟨r, hr, rfl⟩)) g hg; omega)]
      exact hX.block g hl
    · obtain rfl := List.mem_singleton.1 hr
      refine R5.blk fun g hg hl => ?_
      have h1 := row_base HO5 g hg
      rw [step g (by rw [World.size_alloc]; omega) (fun e => by have := own_block_lt SV.row g e; omega) (by omega)]
      exact ((Below.refl w5.heap.size w5).alloc (Nat.le_refl _) _).block g hl
  · rw [step g (by omega) (fun e => hap.1 _ (by simp) g hg e) (by have := HA g hg; omega)]
    exact hX.block g hl

/-- A state that was copied with marks behind its rows. -/
def StRoom (w : World) (s : Vo.St) (e : Ending) (w' : World) : Prop :=
  ∃ a n c b m d rs, e = .returned (.agg #[.slice a n c, .slice b m d]) ∧ StW w' w.heap.size a n c b m d rs s ∧ Below w.heap.size w w' ∧ RmI w' a n c s.bag ∧ ∀ r ∈ rs, RmId w' r

set_option maxRecDepth 100000 in
set_option maxHeartbeats 16000000 in
theorem copiedK_V (a b : Option Addr) (n c m d base : Nat) (rs : List Rw) (s : Vo.St) (w : World) (hS : StW w base a n c b m d rs s) (hm : m ≤ 64) (hn : n ≤ 64) (hid : ∀ v ∈ s.vols, v.ids.length ≤ 1000) :
    Calls Try.prog 78 #[.agg #[.slice a n c, .slice b m d]] w (StRoom w s) := by
  obtain ⟨i0, hi0, hz0, hz1, hz2⟩ := info_parts Try.infoVol
  have hB0 : Below w.heap.size w (w.alloc (.cells #[.slice a n c, .slice b m d] 53)) := (Below.refl _ w).alloc (Nat.le_refl _) _
  have hB : Below w.heap.size w ((w.alloc (.cells #[.slice a n c, .slice b m d] 53)).alloc (.cells #[.slice none 0 0, .slice none 0 0] 53)) := hB0.alloc (by rw [World.size_alloc]; omega) _
  have hX0 := bxs_new w 53 #[.slice a n c, .slice b m d] [.slice a n c, .slice b m d] rfl
  have hX := hX0.alloc (.cells #[.slice none 0 0, .slice none 0 0] 53)
  have hY := bxs_new (w.alloc (.cells #[.slice a n c, .slice b m d] 53)) 53 #[.slice none 0 0, .slice none 0 0] [.slice none 0 0, .slice none 0 0] rfl
  rw [World.size_alloc] at hY
  have CL : Calls Try.prog 157 #[.slice a n c, .agg #[.int .i64 0, .int .i64 77, .string ⟨#[]⟩, .int .i64 0]] ((w.alloc (.cells #[.slice a n c, .slice b m d] 53)).alloc (.cells #[.slice none 0 0, .slice none 0 0] 53)) (fun e w' => ∃ a1 n1, e = .returned (.slice a1 n n1) ∧ w'.ownsRow ((w.alloc (.cells #[.slice a n c, .slice b m d] 53)).alloc (.cells #[.slice none 0 0, .slice none 0 0] 53)).heap.size 43 4 (.slice a1 n n1) n (tv s.bag) ∧ RmI w' a1 n n1 s.bag ∧ Below ((w.alloc (.cells #[.slice a n c, .slice b m d] 53)).alloc (.cells #[.slice none 0 0, .slice none 0 0] 53)).heap.size ((w.alloc (.cells #[.slice a n c, .slice b m d] 53)).alloc (.cells #[.slice none 0 0, .slice none 0 0] 53)) w') :=
    (roomy_I a n c 0 77 0 ⟨#[]⟩ s.bag _ (own_isl0 (own_keep hS.bag hB) hS.len) (by omega)).mono fun e w' ⟨g, C, hC, he, hg, hR, hb⟩ => ⟨_, _, he, hR.own hS.len hC hg (by unfold maxLen; omega), ⟨g, rfl, hC, hR⟩, hb⟩
  rw [World.size_alloc, World.size_alloc] at CL
  have HS := Lib.hid hS; have HB := Lib.hid hB; have HX := Lib.hid hX; have HY := Lib.hid hY; have HI := Lib.hid hid
  have c0 := hX.c 0 _ rfl
  clear hS hB0 hB hX0 hX hY hid
  go_enter Try.func78, Try.ntmps78
  go_wp2_with fail
  with_reducible refine CL.mono ?_
  rintro e w3 ⟨a1, n1, rfl, ho, hrm, hb⟩
  have HRM := Lib.hid hrm
  clear hrm
  have HO := Lib.hid ho
  have hsz3 := hb.size
  rw [World.size_alloc, World.size_alloc] at hsz3
  have HB3 := Lib.hid (HB.out.trans (hb.mono (by omega)))
  have HX3 := Lib.hid (HX.out.on (by rw [World.size_alloc, World.size_alloc]; exact hb))
  have HY3 := Lib.hid (HY.out.on (by rw [World.size_alloc, World.size_alloc]; exact hb))
  clear ho hb CL c0
  have c1 := HX3.out.c 1 _ rfl
  have hlx := HX3.out.lt
  have HB4 : Hid (∀ o, Below w.heap.size w (w3.alloc o)) := Lib.hid fun o => HB3.out.alloc HB3.out.size o
  have HX4 := Lib.hid fun o => HX3.out.alloc o
  have HY4 := Lib.hid fun o => HY3.out.alloc o
  have HZ4 := Lib.hid (bxs_new w3 53 #[.slice a1 n n1, .slice none 0 0] [.slice a1 n n1, .slice none 0 0] rfl)
  have HS4 : Hid (StW (w3.alloc (.cells #[.slice a1 n n1, .slice none 0 0] 53)) (w.heap.size + 2) a1 n n1 none 0 0 [] ⟨s.bag, []⟩) := Lib.hid ⟨HO.out.alloc _, HS.out.len, World.ownsRow_nil _ _ _ _, rfl, rfl, fun i r v hr => by simp at hr, by
    unfold Apart
    simp [Value.ownBlock]⟩
  have HA : Hid (∀ k, (Value.slice a1 n n1).ownBlock = some k → k < w3.heap.size) := Lib.hid fun k hk => own_block_lt HO.out k hk
  go_wp2_with fail
  clear c1
  go_loopw [14] (fun x wr => ∃ (k : Nat) (b' : Option Addr) (d' : Nat) (rs' : List Rw), k ≤ m ∧ x = .int .i64 k ∧ Hid (Below w.heap.size w wr) ∧ Hid (Bxs wr w.heap.size [.slice a n c, .slice b m d]) ∧ Hid (Bxs wr (w.heap.size + 1) [.slice none 0 0, .slice none 0 0]) ∧ Hid (Bxs wr w3.heap.size [.slice a1 n n1, .slice b' k d']) ∧
      Hid (StW wr (w.heap.size + 2) a1 n n1 b' k d' rs' ⟨s.bag, s.vols.take k⟩) ∧ Hid (∀ v ∈ (Value.slice b' k d') :: rs'.map Rw.sl, ∀ j, v.ownBlock = some j → w3.heap.size < j) ∧ Hid (∀ r ∈ rs', RmId wr r) ∧ Hid (RmI wr a1 n n1 s.bag))
    (fun x _ => m - (intOf x).toNat)
  case atStart => exact ⟨0, none, 0, [], Nat.zero_le _, rfl, HB4 |> fun h => Lib.hid (h.out _), Lib.hid (HX4.out _), Lib.hid (HY4.out _), HZ4, HS4, Lib.hid (fun v hv j hj => by
    rcases List.mem_cons.1 hv with rfl | hv
    · cases hj
    · cases hv), Lib.hid (fun r hr => by cases hr), Lib.hid (HRM.out.blk fun g _ hl => ((Below.refl w3.heap.size w3).alloc (Nat.le_refl _) _).block g hl)⟩
  case round =>
    obtain ⟨k, b', d', rs', hk, rfl, BW, XW, YW, ZW, SW, OW, MW, NW⟩ := hrel
    have hsz := BW.out.size
    have hzl := ZW.out.lt
    by_cases hlt : k < m
    · have hkv : k < s.vols.length := by rw [HS.out.vlen]; exact hlt
      have hkr : k < rs.length := by rw [HS.out.rlen]; exact hlt
      obtain ⟨g, rfl, hg, d0, d1⟩ := rv_at (own_keep HS.out.row BW.out) hkr
      obtain ⟨e1, e2, e3⟩ := HS.out.vol k rs[k] s.vols[k] (List.getElem?_eq_getElem hkr) (List.getElem?_eq_getElem hkv)
      have hn1 : rs[k].n ≤ 1000 := by rw [← e3]; exact HI.out s.vols[k] (List.getElem_mem hkv)
      have CD : Hid (∀ V, Below w.heap.size w V → Calls Try.prog 158 #[.slice rs[k].a rs[k].n rs[k].c, .agg #[.bool false, .int .i64 0, .int .i64 78]] V fun e w' => ∃ a5 c5, e = .returned (.slice a5 rs[k].n c5) ∧ w'.ownsRow V.heap.size 29 3 (.slice a5 rs[k].n c5) rs[k].n (dv s.vols[k].ids) ∧ RmId w' ⟨rs[k].name, a5, rs[k].n, c5⟩ ∧ Below V.heap.size V w') := Lib.hid fun V hb =>
        (roomy_Id rs[k].a rs[k].n rs[k].c false 0 78 (dv s.vols[k].ids) V (own_keep e2 hb).1 (fun h => by
          rcases e2.2 with ⟨hv, h0⟩ | ⟨g, cap, cur, hv, -⟩
          · injection hv with h1 h2 h3; exact ⟨h2, h3⟩
          · injection hv with h1 h2 h3; rw [h] at h1; cases h1) (fun ad h j u hj => by
          have ho := own_keep e2 hb
          rw [h] at ho
          obtain ⟨g, cap, hv, -⟩ := ho.form (by have := (List.getElem?_eq_some_iff.1 hj).1; have := ho.1; omega)
          injection hv with h1 h2 h3
          injection h1 with h1
          subst h1
          rw [addr_lit, Nat.zero_add, ho.cellAt _ (by have := (List.getElem?_eq_some_iff.1 hj).1; have := ho.1; omega)]
          exact hj) (dv_one _) (by omega)).mono fun e w' ⟨g, C, hC, he, hg, hR, hb2⟩ => ⟨_, _, he, hR.own (own_keep e2 hb).1 hC hg (by unfold maxLen; omega), ⟨g, _, rfl, hC, (own_keep e2 hb).1, hR⟩, hb2⟩
      have HT : Hid (s.vols.take (k + 1) = s.vols.take k ++ [⟨rs[k].name, s.vols[k].ids⟩]) := Lib.hid (by rw [List.take_succ_eq_append_getElem hkv, e1])
      have HE3 := Lib.hid e3
      clear e1 e2 e3
      generalize rs[k].name = f1 at *
      generalize rs[k].a = f2 at *
      generalize rs[k].n = f3 at *
      generalize rs[k].c = f4 at *
      generalize s.vols[k].ids = ids at *
      obtain ⟨V, hV⟩ : ∃ V, (wr.alloc (.cells #[.string f1, .slice f2 f3 f4] 59)).drew = V := ⟨_, rfl⟩
      have hVb : Below wr.heap.size wr V := by rw [← hV]; exact ((Below.refl _ wr).alloc (Nat.le_refl _) _).drew
      have hVs : wr.heap.size < V.heap.size := by rw [← hV]; show _ < (wr.alloc _).heap.size; rw [World.size_alloc]; omega
      have HVS := Lib.hid hVs
      have CV := CD.out V (BW.out.trans (hVb.mono hsz))
      have HVB := Lib.hid hVb
      have MV : Hid (∀ r ∈ rs', RmId V r) := Lib.hid fun r hr => (MW.out r hr).blk fun g _ hl => hVb.block g hl
      have NV : Hid (RmI V a1 n n1 s.bag) := Lib.hid (NW.out.blk fun g _ hl => hVb.block g hl)
      have SV := Lib.hid (SW.out.keep hVb)
      have ZV := Lib.hid (ZW.out.on hVb)
      have z1 := ZV.out.c 1 _ rfl
      have hTV : Bxs V wr.heap.size [.string f1, .slice f2 f3 f4] := by rw [← hV]; exact (bxs_new wr 59 #[.string f1, .slice f2 f3 f4] [.string f1, .slice f2 f3 f4] rfl).drew
      have t0 := hTV.c 0 _ rfl
      have t1 := hTV.c 1 _ rfl
      have HTV := Lib.hid hTV
      have XV := Lib.hid (XW.out.on hVb)
      have YV := Lib.hid (YW.out.on hVb)
      have HNB : Hid (some w3.heap.size ≠ (Value.slice b' k d').ownBlock) := Lib.hid fun e => by
        have := OW.out _ List.mem_cons_self _ e.symm
        omega
      have HNT : Hid (some wr.heap.size ≠ (Value.slice b' k d').ownBlock) := Lib.hid fun e => by
        have := own_block_lt SW.out.row _ e.symm
        omega
      have BV := Lib.hid (BW.out.trans (hVb.mono hsz))
      clear hTV
      have HB3V := Lib.hid ZV.out.lt
      have HB3S : Hid (w.heap.size + 2 ≤ w3.heap.size) := Lib.hid (by omega)
      have HAP : Hid (∀ (w5 : World) (a5 : Option Addr) (c5 : Nat), Below V.heap.size V w5 → ∀ j u, [Value.string f1, .slice a5 f3 c5][j]? = some u → (w5.alloc (.cells #[.string f1, .slice a5 f3 c5] 59)).cell? ((⟨w5.heap.size, 0, none⟩ : Addr).add j) = some u) := Lib.hid fun w5 a5 c5 hb j u hu => by
        rw [addr_lit, Nat.zero_add]
        exact cell_new w5 (k := j) (by simpa using hu)
      have HSO : Hid (∀ (w5 : World) o, Below V.heap.size V w5 → (w5.alloc o).ownsRow (w.heap.size + 2) 59 2 (.slice b' k d') k (rv rs')) := Lib.hid fun w5 o hb => own_keep SV.out.row (hb.alloc hb.size o)
      have HSZ : Hid (∀ (w5 : World) o, Below V.heap.size V w5 → w.heap.size + 2 ≤ (w5.alloc o).heap.size) := Lib.hid fun w5 o hb => by
        have := hb.size
        rw [World.size_alloc]
        omega
      have H5 : Hid (k + 1 ≤ maxLen ∧ (k + 1) * 40 ≤ 140737488355328) := Lib.hid ⟨by unfold maxLen; omega, by omega⟩
      clear hVb hVs CD
      go_wp2_with fail
      clear d0 d1
      refine wp_region_noPanic ?_
      refine region_L (S := (fun X : World => X.cell? ⟨w3.heap.size, 1, none⟩ = some (.slice b' k d') ∧ X.cell? ⟨wr.heap.size, 0, none⟩ = some (.string f1) ∧ X.cell? ⟨wr.heap.size, 1, none⟩ = some (.slice f2 f3 f4))) (E := [12]) (by kernel_rfl) (by rw [hV]; exact ⟨z1, t0, t1⟩) (fun hS => ?_)
      refine take_L (i := 0) (oi := _) (v := ?_) rfl (by kernel_rfl) (by kernel_rfl) (by kernel_rfl) (by kernel_rfl) (by kernel_rfl) (by kernel_rfl) (fun _ _ _ h => h) (Or.inl ⟨by rfl, ?_⟩) hS ?_
      rotate_left
      next => (rintro w' ⟨k0, k1, k2⟩; go_simp; (try with_reducible rfl))
      (try simp only [Act.put, List.setIfInBounds_toArray, List.set_cons_zero, List.set_cons_succ])
      refine take_L (i := 1) (oi := _) (v := ?_) rfl (by kernel_rfl) (by kernel_rfl) (by kernel_rfl) (by kernel_rfl) (by kernel_rfl) (by kernel_rfl) (fun _ _ _ h => h) (Or.inl ⟨by rfl, ?_⟩) hS ?_
      rotate_left
      next => (rintro w' ⟨k0, k1, k2⟩; go_simp; (try with_reducible rfl))
      (try simp only [Act.put, List.setIfInBounds_toArray, List.set_cons_zero, List.set_cons_succ])
      refine take_L (i := 2) (oi := _) (v := ?_) rfl (by kernel_rfl) (by kernel_rfl) (by kernel_rfl) (by kernel_rfl) (by kernel_rfl) (by kernel_rfl) (fun _ _ _ h => h) (Or.inl ⟨by rfl, ?_⟩) hS ?_
      rotate_left
      next => (rintro w' ⟨k0, k1, k2⟩; go_simp; (try with_reducible rfl))
      (try simp only [Act.put, List.setIfInBounds_toArray, List.set_cons_zero, List.set_cons_succ])
      refine take_L (i := 3) (oi := _) (v := ?_) rfl (by kernel_rfl) (by kernel_rfl) (by kernel_rfl) (by kernel_rfl) (by kernel_rfl) (by kernel_rfl) (fun _ _ _ h => h) (Or.inl ⟨by rfl, ?_⟩) hS ?_
      rotate_left
      next => (rintro w' ⟨k0, k1, k2⟩; go_simp; (try with_reducible rfl))
      (try simp only [Act.put, List.setIfInBounds_toArray, List.set_cons_zero, List.set_cons_succ])
      refine take_L (i := 4) (oi := _) (v := ?_) rfl (by kernel_rfl) (by kernel_rfl) (by kernel_rfl) (by kernel_rfl) (by kernel_rfl) (by kernel_rfl) (fun _ _ _ h => h) (Or.inl ⟨by rfl, ?_⟩) hS ?_
      rotate_left
      next => (rintro w' ⟨k0, k1, k2⟩; go_simp; (try with_reducible rfl))
      (try simp only [Act.put, List.setIfInBounds_toArray, List.set_cons_zero, List.set_cons_succ])
      refine take_L (i := 5) (oi := _) (v := ?_) rfl (by kernel_rfl) (by kernel_rfl) (by kernel_rfl) (by kernel_rfl) (by kernel_rfl) (by kernel_rfl) (fun _ _ _ h => h) (Or.inl ⟨by rfl, ?_⟩) hS ?_
      rotate_left
      next => (rintro w' ⟨k0, k1, k2⟩; go_simp; (try with_reducible rfl))
      (try simp only [Act.put, List.setIfInBounds_toArray, List.set_cons_zero, List.set_cons_succ])
      refine take_L (i := 6) (oi := _) (v := ?_) rfl (by kernel_rfl) (by kernel_rfl) (by kernel_rfl) (by kernel_rfl) (by kernel_rfl) (by kernel_rfl) (fun _ _ _ h => h) (Or.inl ⟨by rfl, ?_⟩) hS ?_
      rotate_left
      next => (rintro w' ⟨k0, k1, k2⟩; go_simp; (try with_reducible rfl))
      (try simp only [Act.put, List.setIfInBounds_toArray, List.set_cons_zero, List.set_cons_succ])
      refine one_L (i := 7) (o := _) (by kernel_rfl) rfl (fun K hK => ?_)
      go_simp
      go_at_call 158
      with_reducible refine CV.mono ?_
      rintro e w5 ⟨a5, c5, rfl, ho5, hm5, hb5⟩
      have HM5 := Lib.hid hm5; clear hm5
      have hs5 := hb5.size; have Z5 := Lib.hid (ZV.out.on hb5); have z5 := Z5.out.c 1 _ rfl; have l5 := Z5.out.lt; have T5 := Lib.hid (HTV.out.on hb5); have t50 := T5.out.c 0 _ rfl; have t51 := T5.out.c 1 _ rfl; have l51 := T5.out.lt; have HB5 := Lib.hid hb5; have HO5 := Lib.hid ho5; clear hb5 ho5
      refine hK.out _ _ (by exact ⟨z5, t50, t51⟩) (fun hSn => ?_)
      clear hK K hS
      (try simp only [Act.put, List.setIfInBounds_toArray, List.set_cons_zero, List.set_cons_succ])
      have hS := hSn
      clear hSn
      refine take_L (i := 8) (oi := _) (v := ?_) rfl (by kernel_rfl) (by kernel_rfl) (by kernel_rfl) (by kernel_rfl) (by kernel_rfl) (by kernel_rfl) (fun _ _ _ h => h) (Or.inl ⟨by rfl, ?_⟩) hS ?_
      rotate_left
      next => (rintro w' ⟨k0, k1, k2⟩; go_simp; (try with_reducible rfl))
      (try simp only [Act.put, List.setIfInBounds_toArray, List.set_cons_zero, List.set_cons_succ])
      refine one_L (i := 9) (o := _) (by kernel_rfl) rfl (fun K hK => ?_)
      go_simp
      refine hK.out _ _ (by exact ⟨(Z5.out.alloc _).c 1 _ rfl, (T5.out.alloc _).c 0 _ rfl, (T5.out.alloc _).c 1 _ rfl⟩) (fun hSn => ?_)
      clear hK K hS
      (try simp only [Act.put, List.setIfInBounds_toArray, List.set_cons_zero, List.set_cons_succ])
      have hS := hSn
      clear hSn
      refine one_L (i := 10) (o := _) (by kernel_rfl) rfl (fun K hK => ?_)
      refine step_append_lies _ (by rfl) (.tmp 19) (.tmp 27) 51 (by rfl) (w.heap.size + 2) 59 i0 (.agg #[.string ⟨#[]⟩, .slice none 0 0]) 2 40 Try.underlying51 hi0 hz0 hz1 hz2 rfl (by decide) (.slice b' k d') k (rv rs') (by simp [Act.eval]) (HSO.out _ _ HB5.out) ⟨w5.heap.size, 0, none⟩ 1 1 [.string f1, .slice a5 f3 c5] (by simp [Act.eval]) (by rfl) (HAP.out _ _ _ HB5.out) (vol_ones _ _ _ _) (by decide) H5.out.1 H5.out.2 (HSZ.out _ _ HB5.out) _ rfl ?_
      intro g6 cap6 w6 q1 q2 q3 q4
      have Z6 := Lib.hid ((Z5.out.alloc (.cells #[.string f1, .slice a5 f3 c5] 59)).grown q2 HNB.out); have z6 := Z6.out.c 1 _ rfl; have f6 := Z6.out.z 1 (show 1 < 2 by decide); have T6 := Lib.hid ((T5.out.alloc (.cells #[.string f1, .slice a5 f3 c5] 59)).grown q2 HNT.out); have Q1 := Lib.hid q1; have Q2 := Lib.hid q2; have Q3 := Lib.hid q3; clear q1 q2 q3
      refine hK.out _ _ (by exact ⟨z6, T6.out.c 0 _ rfl, T6.out.c 1 _ rfl⟩) (fun hSn => ?_)
      clear hK K hS
      (try simp only [Act.put, List.setIfInBounds_toArray, List.set_cons_zero, List.set_cons_succ])
      have hS := hSn
      clear hSn
      refine take_L (i := 11) (oi := _) (v := ?_) rfl (by kernel_rfl) (by kernel_rfl) (by kernel_rfl) (by kernel_rfl) (by kernel_rfl) (by kernel_rfl) (fun _ _ _ h => h) (Or.inl ⟨by rfl, ?_⟩) hS ?_
      rotate_left
      next => (rintro w' ⟨k0, k1, k2⟩; go_simp; (try with_reducible rfl))
      (try simp only [Act.put, List.setIfInBounds_toArray, List.set_cons_zero, List.set_cons_succ])
      refine oneE_L (i := 12) (o := _) (by kernel_rfl) rfl (by kernel_rfl) (fun K hK => ?_)
      clear hS
      go_simp
      refine hK.out _ _ ?_
      clear hK K
      (try simp only [Act.put, List.setIfInBounds_toArray, List.set_cons_zero, List.set_cons_succ])
      refine done_L (by kernel_rfl) ?_ _
      refine NoPanic.normal ?_
      next =>
        have HW := Lib.hid (cp_end HB3S.out HB3V.out BV.out XV.out YV.out SV.out OW.out HA.out HB5.out HO5.out HE3.out Z6.out Q1.out Q2.out Q3.out)
        have HE := Lib.hid (rm_end (u := .slice (some ⟨g6, 0, none⟩) (k + 1) cap6) HB3V.out SV.out OW.out HA.out HB5.out HO5.out Q2.out MV.out NV.out HM5.out)
        go_wp2_with fail
        go_roundw
        case rel => exact ⟨k + 1, _, _, _, hlt, by go_num, Lib.hid HW.out.1, Lib.hid HW.out.2.1, Lib.hid HW.out.2.2.1, Lib.hid HW.out.2.2.2.1, Lib.hid (by rw [HT.out]; exact HW.out.2.2.2.2.1), Lib.hid HW.out.2.2.2.2.2, Lib.hid HE.out.1, Lib.hid HE.out.2⟩
        case measure => simp [intOf]; omega
    · obtain rfl : k = m := by omega
      have hte : s.vols.take k = s.vols := List.take_of_length_le (by rw [HS.out.vlen]; exact Nat.le_refl _)
      have SF : Hid (StW wr (w.heap.size + 2) a1 n n1 b' k d' rs' s) := Lib.hid (by have := SW.out; rw [hte] at this; exact this)
      have z0 := ZW.out.c 0 _ rfl
      have z1 := ZW.out.c 1 _ rfl
      have y0 := YW.out.c 0 _ rfl
      have y1 := YW.out.c 1 _ rfl
      have yf0 := YW.out.z 0 (show 0 < 2 by decide)
      have yf1 := YW.out.z 1 (show 1 < 2 by decide)
      have hne : w.heap.size + 1 ≠ w3.heap.size := by omega
      clear hte
      go_wp2_with fail
      have s1 := SF.out.other (B := w.heap.size + 1) (i := 0) (SF.out.off (by omega)) (.slice a1 n n1)
      have s2 := s1.other (B := w.heap.size + 1) (i := 1) (s1.off (by omega)) (.slice b' k d')
      refine bodyPost_ret (copiedK_result (B := w.heap.size + 1) rfl (YW.out.set2 _ _)) rfl ?_
      have hst : ∀ g, g < wr.heap.size → w.heap.size + 2 ≤ g → ((wr.setCell ⟨w.heap.size + 1, 0, none⟩ (.slice a1 n n1)).setCell ⟨w.heap.size + 1, 1, none⟩ (.slice b' k d')).heap[g]? = wr.heap[g]? := fun g h1 h2 => by
        rw [(cell_grown _ (w.heap.size + 1) 1 _).block g (by rw [World.size_setCell]; exact h1) (fun e => by have := Option.some.inj e; omega), (cell_grown _ (w.heap.size + 1) 0 _).block g h1 (fun e => by have := Option.some.inj e; omega)]
      refine ⟨_, _, _, _, _, _, _, rfl, s2.low (by omega), below_set2 BW.out (by omega) _ _, NW.out.blk fun g hg hl => hst g hl (row_base SW.out.bag g hg), fun r hr => (MW.out r hr).blk fun g hg hl => hst g hl ?_⟩
      have := OW.out _ (List.mem_cons_of_mem _ (List.mem_map.2 ⟨r, hr, rfl⟩)) g hg
      omega

end Go.Proofs.Ytenkdpogdfcbgaa
