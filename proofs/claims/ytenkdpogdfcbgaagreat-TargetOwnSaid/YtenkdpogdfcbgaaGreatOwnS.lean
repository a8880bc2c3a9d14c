/- The walk of woolkeep.spoilt. -/
import Derived.Test.YtenkdpogdfcbgaaGreatOwnD
import Derived.Test.YtenkdpogdfcbgaaGreatVoC
import Derived.Test.YtenkdpogdfcbgaaGreatMdW
namespace Go.Proofs.YtenkdpogdfcbgaaGreat
open Go.RowKit

/-- Only what these rows hold has turned. -/
structure SpTo (w w' : World) (vs : List Value) : Prop where
  os : w'.os = w.os
  tape : w'.tape = w.tape
  output : w'.output = w.output
  size : w.heap.size ≤ w'.heap.size
  block : ∀ k, k < w.heap.size → (∀ v ∈ vs, v.ownBlock ≠ some k) → w'.heap[k]? = w.heap[k]?

theorem SpTo.refl (w : World) (vs : List Value) : SpTo w w vs := ⟨rfl, rfl, rfl, Nat.le_refl _, fun _ _ _ => rfl⟩
theorem SpTo.below {w W W' : World} {vs : List Value} (h : SpTo w W vs) (hb : Below W.heap.size W W') : SpTo w W' vs :=
  ⟨hb.os.trans h.os, hb.tape.trans h.tape, hb.output.trans h.output, Nat.le_trans h.size hb.size, fun k hk hv => (hb.block k (Nat.lt_of_lt_of_le hk h.size)).trans (h.block k hk hv)⟩
theorem SpTo.grown {w W W' : World} {vs : List Value} {v : Value} (h : SpTo w W vs) (hg : W.grownBy W' v.ownBlock) : SpTo w W' (vs ++ [v]) :=
  ⟨hg.os.trans h.os, hg.tape.trans h.tape, hg.output.trans h.output, Nat.le_trans h.size hg.size, fun k hk hv => (hg.block k (Nat.lt_of_lt_of_le hk h.size) (fun e => hv v (by simp) e.symm)).trans (h.block k hk fun u hu => hv u (by simp [hu]))⟩
theorem SpTo.own {w W : World} {vs : List Value} (h : SpTo w W vs) {base n size : Nat} {e : TypeId} {v : Value} {xs : List Value} (ho : w.ownsRow base e size v n xs) (ha : ∀ k, v.ownBlock = some k → ∀ u ∈ vs, u.ownBlock ≠ some k) : W.ownsRow base e size v n xs :=
  own_kept3 ho fun k hk => h.block k (own_block_lt ho k hk) (ha k hk)
theorem SpTo.bxs {w W : World} {vs : List Value} (h : SpTo w W vs) {B : Nat} {cs : List Value} (hb : Bxs w B cs) (ha : ∀ u ∈ vs, u.ownBlock ≠ some B) : Bxs W B cs :=
  hb.block (Nat.lt_of_lt_of_le hb.lt h.size) (h.block B hb.lt ha)

set_option maxRecDepth 100000 in
set_option maxHeartbeats 4000000 in
theorem spoilt_V (a b : Option Addr) (n c m d base : Nat) (rs : List Rw) (s : Vo.St) (w : World) (hS : StW w base a n c b m d rs s) :
    Calls Tryz.prog 11 #[.agg #[.slice a n c, .slice b m d]] w fun e w' => e = .returned (.tuple #[]) ∧ SpTo w w' (.slice a n c :: rs.map Rw.sl ++ [.slice b m d]) := by
  obtain ⟨W0, hW0⟩ : ∃ W0, W0 = w.alloc (.cells #[.slice a n c, .slice b m d] 33) := ⟨_, rfl⟩
  have hal : Below w.heap.size w W0 := by rw [hW0]; exact (Below.refl w.heap.size w).alloc (Nat.le_refl _) _
  have HX : Hid (Bxs W0 w.heap.size [.slice a n c, .slice b m d]) := Lib.hid (by rw [hW0]; exact bxs_new w _ _ _ rfl)
  have HS := Lib.hid (hS.keep hal)
  have HLT : Hid (∀ v ∈ Value.slice a n c :: .slice b m d :: rs.map Rw.sl, v.ownBlock ≠ some w.heap.size) := Lib.hid fun v hv e => by
    rcases List.mem_cons.1 hv with rfl | hv
    · have := own_block_lt hS.bag _ e; omega
    rcases List.mem_cons.1 hv with rfl | hv
    · have := own_block_lt hS.row _ e; omega
    obtain ⟨r, hr, rfl⟩ := List.mem_map.1 hv
    obtain ⟨i, hi, rfl⟩ := List.getElem_of_mem hr
    have := own_block_lt (hS.vol i rs[i] (s.vols[i]'(by rw [hS.vlen, ← hS.rlen]; exact hi)) (List.getElem?_eq_getElem hi) (List.getElem?_eq_getElem _)).2.1 _ e
    omega
  have HBB := Lib.hid hal
  have hn := own_cap hS.bag
  have hm := own_cap hS.row
  have HRL := Lib.hid hS.rlen
  have hc : c ≤ 9223372036854775807 := by have := hn.2.1; unfold maxLen at this; exact this
  have hd : d ≤ 9223372036854775807 := by have := hm.2.1; unfold maxLen at this; exact this
  have hmd : m ≤ d := hm.1
  have K1 := spoil_I a n c base 0 0 9 ⟨#[]⟩ (tv s.bag) W0 HS.out.bag hc
  have x0 := HX.out.c 0 _ rfl; have x1 := HX.out.c 1 _ rfl
  clear hal hS hn hm
  rw [hW0] at K1 x0 x1
  go_enter Tryz.func11, Tryz.ntmps11
  go_wp2_with fail
  with_reducible refine K1.mono ?_
  rintro e w1 ⟨rfl, hg⟩
  rw [← hW0] at hg
  have HP1 : Hid (SpTo W0 w1 (.slice a n c :: (rs.take 0).map Rw.sl)) := Lib.hid ((SpTo.refl W0 []).grown hg)
  clear K1 hg x0 x1 hW0
  have HAP := Lib.hid HS.out.apart
  have HXK : Hid (∀ k W, SpTo W0 W (.slice a n c :: (rs.take k).map Rw.sl) → Bxs W w.heap.size [.slice a n c, .slice b m d]) := Lib.hid fun k W h => h.bxs HX.out fun u hu => HLT.out u (by
    rcases List.mem_cons.1 hu with rfl | hu
    · simp
    · obtain ⟨r, hr, rfl⟩ := List.mem_map.1 hu
      exact List.mem_cons_of_mem _ (List.mem_cons_of_mem _ (List.mem_map.2 ⟨r, List.mem_of_mem_take hr, rfl⟩)))
  have HROW : Hid (∀ k W, SpTo W0 W (.slice a n c :: (rs.take k).map Rw.sl) → W.ownsRow base 78 2 (.slice b m d) m (rv rs)) := Lib.hid fun k W h => h.own HS.out.row fun j hj u hu => by
    have hap := HAP.out
    unfold Apart at hap
    rw [List.pairwise_cons, List.pairwise_cons] at hap
    rcases List.mem_cons.1 hu with rfl | hu
    · exact fun e => hap.1 _ (by simp) j e hj
    · obtain ⟨r, hr, rfl⟩ := List.mem_map.1 hu
      exact hap.2.1 _ (List.mem_map.2 ⟨r, List.mem_of_mem_take hr, rfl⟩) j hj
  have HVOL : Hid (∀ k W (hk : k < rs.length), SpTo W0 W (.slice a n c :: (rs.take k).map Rw.sl) → ∃ xs, W.ownsRow base 81 3 (.slice rs[k].a rs[k].n rs[k].c) rs[k].n xs) := Lib.hid fun k W hk h => by
    obtain ⟨-, ho, -⟩ := HS.out.vol k rs[k] (s.vols[k]'(by rw [HS.out.vlen, ← HS.out.rlen]; exact hk)) (List.getElem?_eq_getElem hk) (List.getElem?_eq_getElem _)
    refine ⟨_, h.own ho fun j hj u hu => ?_⟩
    have hap := HAP.out
    unfold Apart at hap
    rw [List.pairwise_cons, List.pairwise_cons] at hap
    rcases List.mem_cons.1 hu with rfl | hu
    · exact fun e => hap.1 _ (List.mem_cons_of_mem _ (List.mem_map.2 ⟨rs[k], List.getElem_mem hk, rfl⟩)) j e hj
    · obtain ⟨r, hr, rfl⟩ := List.mem_map.1 hu
      obtain ⟨i, hi, he⟩ := List.mem_take_iff_getElem.1 hr
      have hp := List.pairwise_iff_getElem.1 hap.2.2 i k (by rw [List.length_map]; omega) (by rw [List.length_map]; exact hk) (by omega)
      rw [List.getElem_map, List.getElem_map, he] at hp
      exact fun e => hp j e hj
  have X1 := HXK.out 0 w1 HP1.out
  have y0 := X1.c 0 _ rfl; have y1 := X1.c 1 _ rfl
  clear X1
  go_wp2_with fail
  go_loopw [11] (fun v wr => ∃ k : Nat, k ≤ m ∧ v = .int .i64 k ∧ Hid (SpTo W0 wr (.slice a n c :: (rs.take k).map Rw.sl))) (fun v _ => m - (intOf v).toNat)
  case atStart => exact ⟨0, Nat.zero_le _, rfl, HP1⟩
  case round =>
    obtain ⟨k, hk, rfl, HP⟩ := hrel
    have XK := HXK.out k wr HP.out
    have z0 := XK.c 0 _ rfl; have z1 := XK.c 1 _ rfl
    clear XK y0 y1
    by_cases hlt : k < m
    · have hkr : k < rs.length := by rw [HRL.out]; exact hlt
      obtain ⟨g, rfl, hg, c0, c1⟩ := rv_at (HROW.out k wr HP.out) hkr
      obtain ⟨xs, ho⟩ := HVOL.out k wr hkr HP.out
      have hb := (Below.refl wr.heap.size wr).alloc (Nat.le_refl _) (.cells #[.string rs[k].name, .slice rs[k].a rs[k].n rs[k].c] 78)
      have hcc := own_cap ho
      have K2 := spoil_Id rs[k].a rs[k].n rs[k].c base false 0 9 xs _ (own_keep ho hb) (by have := hcc.2.1; unfold maxLen at this; exact this)
      have HT : Hid (∀ W W', SpTo W0 W (.slice a n c :: (rs.take k).map Rw.sl) → W.grownBy W' (Value.slice rs[k].a rs[k].n rs[k].c).ownBlock → SpTo W0 W' (.slice a n c :: (rs.take (k + 1)).map Rw.sl)) := Lib.hid fun W W' h hg => by
        have := h.grown hg
        rw [List.take_succ_eq_append_getElem hkr, List.map_append]
        exact this
      have HPB := Lib.hid (HP.out.below hb)
      clear ho hb hcc
      generalize rs[k].name = nm at *
      generalize rs[k].a = ka at *
      generalize rs[k].n = kn at *
      generalize rs[k].c = kc at *
      go_wp2_with fail
      with_reducible refine K2.mono ?_
      rintro e w2 ⟨rfl, hg2⟩
      have HP2 := Lib.hid (HT.out _ _ HPB.out hg2)
      clear K2 hg2 c0 c1
      go_wp2_with fail
      go_roundw
      case rel => exact ⟨k + 1, hlt, by go_num, HP2⟩
      case measure => simp [intOf]; omega
    · obtain rfl : k = m := by omega
      have K3 := spoil_Vol b k d base ⟨#[115, 112, 111, 105, 108, 116]⟩ none 0 0 (rv rs) wr (HROW.out k wr HP.out) hd
      go_wp2_with fail
      with_reducible refine K3.mono ?_
      rintro e w2 ⟨rfl, hg2⟩
      have HP2 := Lib.hid (HP.out.grown hg2)
      clear K3 hg2
      go_wp2_with fail
      go_end0
      refine ⟨rfl, HBB.out.os ▸ HP2.out.os, HBB.out.tape ▸ HP2.out.tape, HBB.out.output ▸ HP2.out.output, Nat.le_trans HBB.out.size HP2.out.size, fun j hj hv => ?_⟩
      rw [← HBB.out.block j hj]
      exact HP2.out.block j (Nat.lt_of_lt_of_le hj HBB.out.size) (by rw [List.take_of_length_le (by rw [HRL.out]; exact Nat.le_refl _)]; exact hv)

/-- A state that shares no row with what has turned stands. -/
theorem StW.sp {w w' : World} {base n c m d : Nat} {a b : Option Addr} {rs : List Rw} {s : Vo.St} {vs : List Value} (h : StW w base a n c b m d rs s) (hs : SpTo w w' vs) (ha : ∀ v ∈ sls a n c b m d rs, ∀ k, v.ownBlock = some k → ∀ u ∈ vs, u.ownBlock ≠ some k) : StW w' base a n c b m d rs s :=
  ⟨hs.own h.bag (ha _ (by unfold sls; simp)), h.len, hs.own h.row (ha _ (by unfold sls; simp)), h.rlen, h.vlen, fun i r v hr hv => ⟨(h.vol i r v hr hv).1, hs.own (h.vol i r v hr hv).2.1 (ha _ (by unfold sls; exact List.mem_cons_of_mem _ (List.mem_cons_of_mem _ (List.mem_map.2 ⟨r, List.mem_of_getElem? hr, rfl⟩)))), (h.vol i r v hr hv).2.2⟩, h.apart⟩

/-- A state whose rows lie between two blocks. -/
def StIn (w : World) (lo hi : Nat) (a : Option Addr) (n c : Nat) (b : Option Addr) (m d : Nat) (rs : List Rw) (s : Vo.St) : Prop :=
  StW w lo a n c b m d rs s ∧ ∀ v ∈ sls a n c b m d rs, ∀ k, v.ownBlock = some k → lo ≤ k ∧ k < hi

theorem StW.lies {w : World} {base n c m d : Nat} {a b : Option Addr} {rs : List Rw} {s : Vo.St} (h : StW w base a n c b m d rs s) : StIn w base w.heap.size a n c b m d rs s := ⟨h, fun v hv k hk => by
  unfold sls at hv
  rcases List.mem_cons.1 hv with rfl | hv
  · exact ⟨row_base h.bag k hk, own_block_lt h.bag k hk⟩
  rcases List.mem_cons.1 hv with rfl | hv
  · exact ⟨row_base h.row k hk, own_block_lt h.row k hk⟩
  obtain ⟨r, hr, rfl⟩ := List.mem_map.1 hv
  obtain ⟨i, hi, rfl⟩ := List.getElem_of_mem hr
  have ho := (h.vol i rs[i] (s.vols[i]'(by rw [h.vlen, ← h.rlen]; exact hi)) (List.getElem?_eq_getElem hi) (List.getElem?_eq_getElem _)).2.1
  exact ⟨row_base ho k hk, own_block_lt ho k hk⟩⟩

theorem StIn.keep {w w' : World} {lo hi n c m d : Nat} {a b : Option Addr} {rs : List Rw} {s : Vo.St} (h : StIn w lo hi a n c b m d rs s) (hb : Below w.heap.size w w') : StIn w' lo hi a n c b m d rs s := ⟨h.1.keep hb, h.2⟩

/-- What lies in another range stands when a state is spoilt. -/
theorem StIn.sp {w w' : World} {lo hi n c m d lo' hi' n' c' m' d' : Nat} {a b a' b' : Option Addr} {rs rs' : List Rw} {s s' : Vo.St} (h : StIn w lo hi a n c b m d rs s) (h' : StIn w lo' hi' a' n' c' b' m' d' rs' s') (hs : SpTo w w' (.slice a' n' c' :: rs'.map Rw.sl ++ [.slice b' m' d'])) (hr : hi ≤ lo' ∨ hi' ≤ lo) : StIn w' lo hi a n c b m d rs s :=
  ⟨h.1.sp hs fun v hv k hk u hu e => by
    have h1 := h.2 v hv k hk
    have h2 := h'.2 u (by
      unfold sls
      rcases List.mem_append.1 hu with hu | hu
      · rcases List.mem_cons.1 hu with rfl | hu
        · simp
        · exact List.mem_cons_of_mem _ (List.mem_cons_of_mem _ hu)
      · rw [List.mem_singleton.1 hu]; simp) k e
    omega, h.2⟩

end Go.Proofs.YtenkdpogdfcbgaaGreat
