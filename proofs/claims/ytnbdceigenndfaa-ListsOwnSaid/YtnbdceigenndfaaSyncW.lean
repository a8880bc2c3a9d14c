/- The walks of sync.pair.look, sync.Compare. -/
import Derived.Test.YtnbdceigenndfaaTreeW3
import Derived.Test.YtnbdceigenndfaaSyncP
import Derived.OneCell
import Derived.BigQuiet
namespace Go.Proofs.Ytnbdceigenndfaa
open Go.RowKit

/-- The trees' levels lie in a world, in blocks ahead of 'gp'. -/
def LevIn (W : World) (gp ga : Nat) (x : List (List Nat)) : Prop := ∀ (d : Nat) (l : List Nat), x[d]? = some l → ga < gp ∧ ∃ g c, g < gp ∧ W.cell? ⟨ga, d, none⟩ = some (.slice (some ⟨g, 0, none⟩) l.length c) ∧
  ∀ (j : Nat) (z : Nat), l[j]? = some z → W.cell? ⟨g, j, none⟩ = some (.int .i64 (z : Int))

/-- The pair lies in block gp. -/
structure Pair (W w : World) (gp ga gb N ca cb : Nat) (v : Value) (out : List Nat) (m : Nat) : Prop where
  below : Below gp W w
  size : gp + 1 ≤ w.heap.size
  c0 : w.cell? ⟨gp, 0, none⟩ = some (.slice (some ⟨ga, 0, none⟩) N ca)
  c1 : w.cell? ⟨gp, 1, none⟩ = some (.slice (some ⟨gb, 0, none⟩) N cb)
  c2 : w.cell? ⟨gp, 2, none⟩ = some v
  c3 : w.cell? ⟨gp, 3, none⟩ = some (.int .i64 (m : Int))
  fz : ∀ j, w.frozen? ⟨gp, j, none⟩ = false
  own : w.ownsRow (gp + 1) 3 1 v out.length (iv out)

theorem Pair.many {W w : World} {gp ga gb N ca cb : Nat} {v : Value} {out : List Nat} {m : Nat} (h : Pair W w gp ga gb N ca cb v out m) (u : Nat) : Pair W (w.setCell ⟨gp, 3, none⟩ (.int .i64 (u : Int))) gp ga gb N ca cb v out u where
  below := h.below.setCell (Nat.le_refl _) _
  size := by rw [World.size_setCell]; exact h.size
  c0 := by rw [World.cell?_setCell_other _ _ _ _ (by simp)]; exact h.c0
  c1 := by rw [World.cell?_setCell_other _ _ _ _ (by simp)]; exact h.c1
  c2 := by rw [World.cell?_setCell_other _ _ _ _ (by simp)]; exact h.c2
  c3 := World.cell?_setCell_same _ _ _ h.c3
  fz := fun j => by rw [World.frozen?_setCell]; exact h.fz j
  own := ownsRow_setCell_below h.own (Nat.lt_succ_self _) _

theorem Pair.drewN {W w : World} {gp ga gb N ca cb : Nat} {v : Value} {out : List Nat} {m : Nat} (h : Pair W w gp ga gb N ca cb v out m) (n : Nat) : Pair W (w.drewN n) gp ga gb N ca cb v out m :=
  ⟨⟨h.below.os, h.below.tape, h.below.output, h.below.size, h.below.block⟩, h.size, h.c0, h.c1, h.c2, h.c3, h.fz, h.own⟩

theorem Pair.slice {W w : World} {gp ga gb N ca cb : Nat} {v : Value} {out : List Nat} {m : Nat} (h : Pair W w gp ga gb N ca cb v out m) : ∃ a c, v = .slice a out.length c := by
  rcases h.own.2 with ⟨rfl, h0⟩ | ⟨g, cap, cur, rfl, -⟩
  · exact ⟨none, 0, by rw [h0]⟩
  · exact ⟨_, cap, rfl⟩

theorem Pair.put {W w wq : World} {gp ga gb N ca cb : Nat} {v v' : Value} {out : List Nat} {m i : Nat} {o : Obj} {row : Option Nat} (h : Pair W w gp ga gb N ca cb v out m) (hq : (w.alloc o).grownBy wq row) (hrow : ∀ k, row = some k → gp + 1 ≤ k)
    (hown : wq.ownsRow (gp + 1) 3 1 v' (out.length + 1) (iv (out ++ [i]))) :
    Pair W (wq.setCell ⟨gp, 2, none⟩ v') gp ga gb N ca cb v' (out ++ [i]) m ∧ wq.cell? ⟨gp, 2, none⟩ = some v ∧ wq.frozen? ⟨gp, 2, none⟩ = false := by
  have hs := h.size
  have hsz : (w.alloc o).heap.size = w.heap.size + 1 := World.size_alloc ..
  have hb1 : wq.heap[gp]? = (w.alloc o).heap[gp]? := hq.block gp (by omega) (fun e => by have := hrow gp e.symm; omega)
  have hb : wq.heap[gp]? = w.heap[gp]? := hb1.trans (Below.heap_alloc w o gp (by omega))
  have hc : ∀ j, wq.cell? ⟨gp, j, none⟩ = w.cell? ⟨gp, j, none⟩ := fun j => World.cell?_of_block (w := w) (a := ⟨gp, j, none⟩) hb
  have hf : ∀ j, wq.frozen? ⟨gp, j, none⟩ = w.frozen? ⟨gp, j, none⟩ := fun j => World.frozen?_of_block (w := w) (a := ⟨gp, j, none⟩) hb
  have hB : Below gp W wq := (h.below.alloc (by omega) o).grown hq (by omega) (fun k hk => by have := hrow k hk; omega)
  refine ⟨⟨hB.setCell (Nat.le_refl _) _, ?_, ?_, ?_, ?_, ?_, fun j => ?_, ?_⟩, by rw [hc]; exact h.c2, by rw [hf]; exact h.fz 2⟩
  · rw [World.size_setCell]; exact Nat.le_trans (by omega) hq.size
  · rw [World.cell?_setCell_other _ _ _ _ (by simp), hc]; exact h.c0
  · rw [World.cell?_setCell_other _ _ _ _ (by simp), hc]; exact h.c1
  · exact World.cell?_setCell_same _ _ _ ((hc 2).trans h.c2)
  · rw [World.cell?_setCell_other _ _ _ _ (by simp), hc]; exact h.c3
  · rw [World.frozen?_setCell, hf]; exact h.fz j
  · rw [List.length_append, List.length_singleton]; exact ownsRow_setCell_below hown (Nat.lt_succ_self _) _

theorem Pair.drew {W w : World} {gp ga gb N ca cb : Nat} {v : Value} {out : List Nat} {m : Nat} (h : Pair W w gp ga gb N ca cb v out m) : Pair W w.drew gp ga gb N ca cb v out m :=
  ⟨h.below.drew, h.size, h.c0, h.c1, h.c2, h.c3, h.fz, h.own⟩

/-- What a look leaves. -/
def LookTo (W : World) (gp ga gb N ca cb : Nat) (out : List Nat) (m : Nat) (e : Ending) (w' : World) : Prop := e = .returned (.tuple #[]) ∧ ∃ v', Pair W w' gp ga gb N ca cb v' out m

/-- What the trees are like. -/
structure Trees (W : World) (gp ga gb N : Nat) (x y : List (List Nat)) : Prop where
  a : LevIn W gp ga x
  b : LevIn W gp gb y
  nx : x.length = N
  ny : y.length = N
  half : Sy.Halved x
  same : ∀ d, (x.getD d []).length = (y.getD d []).length
  few : ∀ d, (x.getD d []).length ≤ 32

theorem LevIn.at {W w : World} {gp ga : Nat} {x : List (List Nat)} (h : LevIn W gp ga x) (hb : Below gp W w) {d : Nat} (hd : d < x.length) :
    ∃ g c, w.cell? ⟨ga, d, none⟩ = some (.slice (some ⟨g, 0, none⟩) (x.getD d []).length c) ∧ ∀ j, j < (x.getD d []).length → w.cell? ⟨g, j, none⟩ = some (.int .i64 ((x.getD d []).getD j 0 : Int)) := by
  have e : x.getD d [] = x[d] := by simp [List.getD, hd]
  obtain ⟨ha, g, c, hg, h1, h2⟩ := h d x[d] (List.getElem?_eq_getElem hd)
  rw [e]
  refine ⟨g, c, ?_, fun j hj => ?_⟩
  · rw [hb.cell (p := ⟨ga, d, none⟩) ha]; exact h1
  · rw [hb.cell (p := ⟨g, j, none⟩) hg, h2 j x[d][j] (List.getElem?_eq_getElem hj)]
    simp [List.getD, hj]

set_option maxRecDepth 100000 in
set_option maxHeartbeats 4000000 in
theorem look_any (W : World) (gp ga gb N ca cb : Nat) (x y : List (List Nat)) (T : Trees W gp ga gb N x y) (hN : N ≤ 33) :
    ∀ (D d : Nat), d < D → ∀ (i : Nat) (w : World) (v : Value) (out : List Nat) (m : Nat), d < N → i < (x.getD d []).length → Pair W w gp ga gb N ca cb v out m → out.length + 2 ^ d ≤ 2 ^ 34 → m + 2 ^ (d + 1) ≤ 2 ^ 35 →
      Calls Try.prog 36 #[.pointer (some ⟨gp, 0, none⟩), .int .i64 d, .int .i64 i] w (LookTo W gp ga gb N ca cb (out ++ (Sy.lk x y d i).1) (m + (Sy.lk x y d i).2)) := by
  obtain ⟨ii0, hi0, hz0, hz1, hz2⟩ := info_parts Try.infoInt
  intro D
  induction D with
  | zero => intro d hd; exact absurd hd (Nat.not_lt_zero _)
  | succ D ih =>
    intro d hdD i w v out m hd hi P ho hm
    have HT := Lib.hid T
    have c3 := P.c3
    have f3 := P.fz 3
    have hm0 : m + 1 ≤ 34359738368 := by have := Nat.two_pow_pos (d + 1); omega
    obtain ⟨w2, hw2⟩ : ∃ w2, w2 = w.setCell ⟨gp, 3, none⟩ (.int .i64 ((m : Int) + 1)) := ⟨_, rfl⟩
    have P2 : Pair W w2 gp ga gb N ca cb v out (m + 1) := by rw [hw2]; exact P.many (m + 1)
    obtain ⟨g1, k1, l1, r1⟩ := T.a.at P2.below (by rw [T.nx]; exact hd)
    obtain ⟨g2, k2, l2, r2⟩ := T.b.at P2.below (by rw [T.ny]; exact hd)
    have s1 := r1 i hi
    have s2 := r2 i (by rw [← T.same]; exact hi)
    rw [← T.same d] at l2
    have hlen := T.few d
    have c0 := P2.c0
    have c1 := P2.c1
    have HP2 := Lib.hid P2
    have HI := Lib.hid hi; have HO := Lib.hid ho; have HM := Lib.hid hm
    clear T P P2 r1 r2 ho hm
    by_cases he : (x.getD d []).getD i 0 = (y.getD d []).getD i 0
    · rw [Sy.lk_same he, List.append_nil]
      rw [← he] at s2
      generalize (x.getD d []).getD i 0 = z at *
      generalize (x.getD d []).length = n at *
      go_enter Try.func36, Try.ntmps36
      go_wp2_with fail
      rw [← hw2]
      clear hw2
      go_quiet (fail)
      go_wp2_with fail
      first | go_end0 | ((try simp only [Exit.inBlock, Exit.then]); refine bodyPost_ret (results_none rfl _ _ _) rfl ?_)
      exact ⟨rfl, v, HP2.out.drewN _⟩
    · rw [Sy.lk_other he]
      have hne : (((x.getD d []).getD i 0 : Int) == ((y.getD d []).getD i 0 : Int)) = false := beq_eq_false_iff_ne.2 (by omega)
      generalize (x.getD d []).getD i 0 = z1 at *
      generalize (y.getD d []).getD i 0 = z2 at *
      generalize hn : (x.getD d []).length = n at *
      have hlenD := Lib.hid hn
      clear hn
      go_enter Try.func36, Try.ntmps36
      go_wp2_with fail
      rw [← hw2]
      clear hw2
      go_quiet (fail)
      rename_i nq
      have HP3 := Lib.hid (HP2.out.drewN nq)
      generalize w2.drewN nq = w3 at *
      clear l1 l2 s1 s2 c0 c1 HP2 he hne
      go_wp2_with fail
      go_loop [1, 2] (fun vd vi => ∃ (d' i' : Nat), d' ≤ d ∧ vd = .int .i64 d' ∧ vi = .int .i64 i' ∧ Hid (i' < (x.getD d' []).length) ∧ Hid (Sy.dn x y d' i' = Sy.dn x y d i)) (fun vd _ => (intOf vd).toNat)
      case atStart => exact ⟨d, i, Nat.le_refl _, rfl, rfl, Lib.hid (by rw [hlenD.out]; exact HI.out), Lib.hid rfl⟩
      case round =>
        obtain ⟨d', i', hdd, rfl, rfl, hi', hdn⟩ := hrel
        rcases d' with _ | k
        · have HF : Hid (Sy.dn x y d i = ([i'], 0)) := Lib.hid (by rw [← hdn.out]; rfl)
          obtain ⟨va, vc, rfl⟩ := HP3.out.slice
          have c2 := HP3.out.c2
          have hsz := HP3.out.size
          have hown := HP3.out.own
          have hbase := row_base hown
          have hol : out.length + 1 ≤ 34359738368 := by have := HO.out; have := Nat.two_pow_pos d; omega
          have hb1 : out.length + 1 ≤ maxLen := by unfold maxLen; omega
          have hb2 : (out.length + 1) * 8 ≤ 140737488355328 := by omega
          have hb3 : gp + 1 ≤ (w3.alloc (.cells #[.int .i64 (i' : Int)] 3)).heap.size := by rw [World.size_alloc]; omega
          have H2 := Lib.hid (hown.alloc (.cells #[.int .i64 (i' : Int)] 3))
          have H3 := Lib.hid (cell_one_new w3 (.int .i64 (i' : Int)) 3)
          have H4 : Hid (∀ x ∈ [Value.int .i64 (i' : Int)], x.oneCell' = true) := Lib.hid (by intro x hx; simp at hx; subst hx; rfl)
          have HBS := Lib.hid hbase
          have c2' : (w3.alloc (.cells #[.int .i64 (i' : Int)] 3)).cell? ⟨gp, 2, none⟩ = some (.slice va out.length vc) := by rw [World.cell?_alloc_past _ _ _ (by omega)]; exact c2
          clear hown hbase
          go_wp2_with (at_builtin; refine wpList_append_lies _ rfl _ _ _ rfl (gp + 1) 3 ii0 (.int .i64 0) 1 8 Try.underlying22 hi0 hz0 hz1 hz2 rfl (by decide) (.slice va out.length vc) out.length _ rfl H2.out ⟨w3.heap.size, 0, none⟩ 1 1 [.int .i64 (i' : Int)] rfl rfl H3.out H4.out (by decide) hb1 hb2 hb3 _ rfl ?_)
          intro g' cap' wq q1 q2 q3 q4
          obtain ⟨PQ, e1, e2⟩ := HP3.out.put (i := i') q2 (fun k hk => HBS.out k hk) (by rw [iv_snoc]; exact q1)
          have HPQ := Lib.hid PQ
          clear q1 q2 q3 q4 H2 H3 H4 hb3 PQ
          go_wp2_with fail
          first | go_end0 | ((try simp only [Exit.inBlock, Exit.then]); refine bodyPost_ret (results_none rfl _ _ _) rfl ?_)
          exact ⟨rfl, _, by rw [HF.out]; exact HPQ.out⟩
        · have hkd : k + 1 < N := by omega
          have hh := HT.out.half k (by rw [HT.out.nx]; exact hkd)
          have hi2 := hi'.out
          rw [hh] at hi2
          obtain ⟨g3, k3, l3, -⟩ := HT.out.a.at HP3.out.below (d := k) (by rw [HT.out.nx]; omega)
          have c0 := HP3.out.c0
          have hq32 := HT.out.few k
          have hp := Nat.pow_le_pow_right (n := 2) (by decide) hdd
          have hpk := Nat.two_pow_pos k
          have hO := HO.out
          have hM := HM.out
          simp only [Nat.pow_succ] at hp hM
          have b1 : out.length + 2 ^ k ≤ 2 ^ 34 ∧ out.length + (2 ^ k + 2 ^ k) ≤ 2 ^ 34 := by omega
          have b2 : m + 1 + 2 ^ (k + 1) ≤ 2 ^ 35 ∧ m + (2 ^ (k + 1) + 2 ^ (k + 1)) ≤ 2 ^ 35 := by simp only [Nat.pow_succ]; omega
          have HB1 := Lib.hid b1; have HB2 := Lib.hid b2
          generalize hq : (x.getD k []).length = q at *
          have HQ := Lib.hid hq
          clear hp hpk hO hM b1 b2 hh hq
          have t1 : ((k : Int) + 1) - 1 = (k : Int) := by omega
          have t2 : (((k + 1 : Nat) : Int)) - 1 = (k : Int) := by omega
          by_cases hl : 2 * i' + 1 = q
          · have hbq : (2 * (i' : Int) + 1 == (q : Int)) = true := beq_iff_eq.2 (by omega)
            have hdn2 : Hid (Sy.dn x y k (2 * i') = Sy.dn x y d i) := Lib.hid (by rw [← hdn.out, Sy.dn_left (by rw [HQ.out]; exact hl)])
            go_wp2_with fail
            go_round
            case rel => exact ⟨k, 2 * i', by omega, by go_num, by go_num, Lib.hid (by rw [HQ.out]; omega), hdn2⟩
            case measure => simp [intOf]
          · have hbq : (2 * (i' : Int) + 1 == (q : Int)) = false := beq_eq_false_iff_ne.2 (by omega)
            have L1 := ih k (by omega) (2 * i') w3 v out (m + 1) (by omega) (by rw [HQ.out]; omega) HP3.out HB1.out.1 HB2.out.1
            have L2 := ih k (by omega) (2 * i' + 1)
            have hdn2 : Hid (Sy.dn x y d i = ((Sy.lk x y k (2 * i')).1 ++ (Sy.lk x y k (2 * i' + 1)).1, (Sy.lk x y k (2 * i')).2 + (Sy.lk x y k (2 * i' + 1)).2)) := Lib.hid (by rw [← hdn.out, Sy.dn_both (by rw [HQ.out]; exact hl)])
            have HS1 := Lib.hid (Sy.lk_size x y k (2 * i'))
            have a1 : ((2 * i' : Nat) : Int) = 2 * (i' : Int) := by omega
            have a2 : ((2 * i' + 1 : Nat) : Int) = 2 * (i' : Int) + 1 := by omega
            rw [a1] at L1
            rw [a2] at L2
            have HL2 := Lib.hid L2
            clear L2 a1 a2
            go_wp2_with fail
            with_reducible refine L1.mono ?_
            rintro e w4 ⟨rfl, v4, P4⟩
            have L3 := HL2.out w4 v4 _ _ (by omega) (by rw [HQ.out]; omega) P4 (by rw [List.length_append]; have := HS1.out; have := HB1.out; omega) (by have := HS1.out; have := HB2.out; omega)
            clear L1 HL2 P4 ih l3 c0
            go_wp2_with fail
            with_reducible refine L3.mono ?_
            rintro e w5 ⟨rfl, v5, P5⟩
            have HP5 := Lib.hid P5
            clear L3 P5
            go_wp2_with fail
            first | go_end0 | ((try simp only [Exit.inBlock, Exit.then]); refine bodyPost_ret (results_none rfl _ _ _) rfl ?_)
            exact ⟨rfl, v5, by rw [hdn2.out, ← List.append_assoc, show m + ((Sy.lk x y k (2 * i')).2 + (Sy.lk x y k (2 * i' + 1)).2 + 1) = m + 1 + (Sy.lk x y k (2 * i')).2 + (Sy.lk x y k (2 * i' + 1)).2 from by omega]; exact HP5.out⟩

theorem levIn {w1 w : World} {g c n B : Nat} {T : TypeId} {vs : List Value} {ls : List (List Nat)} (hown : w1.ownsRow B T 1 (.slice (some ⟨g, 0, none⟩) n c) n vs) (hl : LevsAt w1 g vs ls) (hn : ls.length = n) (hb : Below w1.heap.size w1 w) : LevIn w w.heap.size g ls := by
  obtain ⟨hg, hg'⟩ := own_block hown
  have hs := hb.size
  intro d l hd
  obtain ⟨u, hu, gi, ci, rfl, hrow, -⟩ := hl d l hd
  have hdl : d < n := by rw [← hn]; exact (List.getElem?_eq_some_iff.1 hd).1
  refine ⟨by omega, gi, ci, by have := hrow.1; omega, ?_, fun j z hz => ?_⟩
  · rw [hb.cell (p := ⟨g, d, none⟩) hg', hown.cellAt d (by omega)]; exact hu
  · rw [hb.cell (p := ⟨gi, j, none⟩) hrow.1]; exact hrow.at hz

theorem pair_new (w : World) (T : TypeId) (ga gb N ca cb : Nat) : Pair w (w.alloc (.cells #[.slice (some ⟨ga, 0, none⟩) N ca, .slice (some ⟨gb, 0, none⟩) N cb, .slice none 0 0, .int .i64 0] T)) w.heap.size ga gb N ca cb (.slice none 0 0) [] 0 where
  below := (Below.refl _ w).alloc (Nat.le_refl _) _
  size := by rw [World.size_alloc]; exact Nat.le_refl _
  c0 := cell_new w (k := 0) rfl
  c1 := cell_new w (k := 1) rfl
  c2 := cell_new w (k := 2) rfl
  c3 := cell_new w (k := 3) rfl
  fz := fun j => World.frozen?_alloc_new _ _ _ _
  own := World.ownsRow_nil _ _ _ _

/-- What Compare answers, of right lists of one length. -/
def cmp (ss tt : List ByteArray) (n : Nat) : List Nat × Nat := Sy.lk (Tr.levels (lvs ss n)) (Tr.levels (lvs tt n)) ((Tr.levels (lvs ss n)).length - 1) 0

set_option maxRecDepth 100000 in
set_option maxHeartbeats 4000000 in
theorem Compare_ok (a b : Option Addr) (n ca cb : Nat) (ss tt : List ByteArray) (w : World) (h1 : 1 ≤ n) (hn : n ≤ 32) (hS : TextsAt w a n ss) (hT : TextsAt w b n tt) (hs : ∀ i, i < n → (ss.getD i ByteArray.empty).size ≤ 64) (ht : ∀ i, i < n → (tt.getD i ByteArray.empty).size ≤ 64) :
    Calls Try.prog 13 #[.slice a n ca, .slice b n cb] w fun e w' => ∃ v, e = .returned (.tuple #[v, .int .i64 ((cmp ss tt n).2 : Int), .int .i64 0]) ∧ w'.ownsRow w.heap.size 3 1 v (cmp ss tt n).1.length (iv (cmp ss tt n).1) ∧ Below w.heap.size w w' := by
  have CA := TCheck_any a n ca ss w (by unfold maxLen; omega) hS
  have CB := TCheck_any b n cb tt w (by unfold maxLen; omega) hT
  have hc1 : chk ss n = 0 := by unfold chk; rw [if_neg (by omega), if_neg (by rw [big_false.2 hs]; simp; omega)]
  have hc2 : chk tt n = 0 := by unfold chk; rw [if_neg (by omega), if_neg (by rw [big_false.2 ht]; simp; omega)]
  rw [hc1] at CA
  rw [hc2] at CB
  have LA := Levels_any a n ca ss w h1 hn hS hs
  have LB := fun w' (hb : Below w.heap.size w w') => Levels_any b n cb tt w' h1 hn (hT.keep hb) ht
  have l1 := lvs_length ss n
  have l2 := lvs_length tt n
  have hne : lvs ss n ≠ [] := by intro h; rw [h] at l1; simp at l1; omega
  have hlast := Tr.levels_last (lvs ss n) hne
  have hlen32 := Tr.levels_len (lvs ss n) hne
  have hfew := Sy.levels_few _ (lvs ss n) (Nat.le_refl _)
  have hhalf := Sy.halved_levels (lvs ss n) hne
  obtain ⟨hsh, hsame⟩ := Sy.levels_shape _ (lvs ss n) (lvs tt n) (Nat.le_refl _) (by rw [l1, l2])
  rw [l1] at hlen32 hfew
  have hpos : 0 < (Tr.levels (lvs ss n)).length := by
    rcases hl : Tr.levels (lvs ss n) with _ | ⟨x, r⟩
    · rw [hl] at hlast; simp at hlast
    · simp
  rw [List.getLast?_eq_getElem?] at hlast
  unfold cmp
  generalize Tr.root (lvs ss n) = r0 at *
  generalize Tr.levels (lvs ss n) = x at *
  generalize Tr.levels (lvs tt n) = y at *
  obtain ⟨q, hq⟩ : ∃ q, x.length = q + 1 := ⟨x.length - 1, by omega⟩
  rw [hq, Nat.add_sub_cancel] at hlast
  have hyq : y.length = q + 1 := by rw [← hsh]; exact hq
  rw [hq] at LA
  rw [hyq] at LB
  have hq32 : q ≤ 32 := by omega
  have hone : (x.getD q []).length = 1 := by simp [List.getD, hlast]
  rw [hq, Nat.add_sub_cancel]
  have HLB := Lib.hid LB
  have HX : Hid (Sy.Halved x) := Lib.hid hhalf
  have HS := Lib.hid hsame
  have HF : Hid (∀ d, (x.getD d []).length ≤ 32) := Lib.hid fun d => by have := hfew d; omega
  have HQ := Lib.hid hq; have HY := Lib.hid hyq; have HONE := Lib.hid hone
  clear LB hhalf hsame hfew hq hyq hone hc1 hc2 hne hlast l1 l2 hsh hpos hlen32 hS hT hs ht
  go_enter Try.func13, Try.ntmps13
  go_wp2_with fail
  with_reducible refine CA.mono ?_
  rintro e w' ⟨rfl, rfl⟩
  go_wp2_with fail
  with_reducible refine CB.mono ?_
  rintro e w' ⟨rfl, rfl⟩
  go_wp2_with fail
  with_reducible refine LA.mono ?_
  rintro e w1 ⟨g1, c1, vs1, rfl, hown1, hlev1, hb1⟩
  have L2 := HLB.out w1 hb1
  have HO1 := Lib.hid hown1; have HL1 := Lib.hid hlev1; have HB1 := Lib.hid hb1
  clear hown1 hlev1 hb1 LA CA CB
  go_wp2_with fail
  with_reducible refine L2.mono ?_
  rintro e w2 ⟨g2, c2, vs2, rfl, hown2, hlev2, hb2⟩
  have T : Trees w2 w2.heap.size g1 g2 (q + 1) x y := ⟨levIn HO1.out HL1.out HQ.out hb2, levIn hown2 hlev2 HY.out (Below.refl _ _), HQ.out, HY.out, HX.out, HS.out, HF.out⟩
  have HB2 := Lib.hid (HB1.out.trans (hb2.mono HB1.out.size))
  have LK := look_any w2 w2.heap.size g1 g2 (q + 1) c1 c2 x y T (by omega) (q + 1) q (Nat.lt_succ_self _) 0 _ _ [] 0 (Nat.lt_succ_self _) (by rw [HONE.out]; exact Nat.zero_lt_one) (pair_new w2 75 g1 g2 (q + 1) c1 c2)
    (by have := Nat.pow_le_pow_right (n := 2) (by decide) (show q ≤ 34 by omega); simpa using this) (by have := Nat.pow_le_pow_right (n := 2) (by decide) (show q + 1 ≤ 35 by omega); simpa using this)
  have s0 := pair_new w2 75 g1 g2 (q + 1) c1 c2
  have c0 := s0.c0
  clear hown2 hlev2 hb2 T L2 s0
  rw [List.nil_append, Nat.zero_add, show ((0 : Nat) : Int) = 0 from rfl] at LK
  go_wp2_with fail
  with_reducible refine LK.mono ?_
  rintro e w3 ⟨rfl, v3, P3⟩
  obtain ⟨va, vc, rfl⟩ := P3.slice
  have d2 := P3.c2
  have d3 := P3.c3
  have HP := Lib.hid P3
  clear P3 LK c0
  go_wp2_with fail
  go_quiet (fail)
  go_wp2_with fail
  go_ret3
  have hsz := HB2.out.size
  have hO := own_weaken HP.out.own (show w.heap.size ≤ w2.heap.size + 1 by omega)
  have hB := HB2.out.trans (HP.out.below.mono hsz)
  exact ⟨_, rfl, hO, ⟨hB.os, hB.tape, hB.output, hB.size, hB.block⟩⟩

/-- Compare's error. -/
def cmpE (ss : List ByteArray) (n : Nat) (tt : List ByteArray) (m : Nat) : Nat := if chk ss n ≠ 0 then chk ss n else if chk tt m ≠ 0 then chk tt m else if n = m then 0 else 11

theorem cmpE_zero {ss tt : List ByteArray} {n m : Nat} : cmpE ss n tt m = 0 ↔ chk ss n = 0 ∧ chk tt m = 0 ∧ n = m := by
  unfold cmpE
  generalize chk ss n = k1
  generalize chk tt m = k2
  by_cases h1 : k1 = 0 <;> by_cases h2 : k2 = 0 <;> by_cases h3 : n = m <;> simp [h1, h2, h3]

set_option maxHeartbeats 1000000 in
/-- Lists that are not right, or not of one length. -/
theorem Compare_bad (a b : Option Addr) (n m ca cb : Nat) (ss tt : List ByteArray) (w : World) (hn : n ≤ maxLen) (hm : m ≤ maxLen) (hS : TextsAt w a n ss) (hT : TextsAt w b m tt) (h0 : cmpE ss n tt m ≠ 0) :
    Calls Try.prog 13 #[.slice a n ca, .slice b m cb] w fun e w' => e = .returned (.tuple #[.slice none 0 0, .int .i64 0, .int .i64 (cmpE ss n tt m : Nat)]) ∧ w' = w := by
  have CA := TCheck_any a n ca ss w hn hS
  have CB := TCheck_any b m cb tt w hm hT
  unfold maxLen at hn hm
  unfold cmpE at *
  generalize chk ss n = k1 at *
  generalize chk tt m = k2 at *
  clear hS hT
  by_cases h1 : k1 = 0
  · rw [if_neg (by omega)] at h0 ⊢
    subst h1
    by_cases h2 : k2 = 0
    · rw [if_neg (by omega)] at h0 ⊢
      subst h2
      by_cases h3 : n = m
      · rw [if_pos h3] at h0; exact absurd rfl h0
      · rw [if_neg h3]
        have e1 : ((n : Int) != (m : Int)) = true := bne_iff_ne.2 (by omega)
        clear h0
        go_enter Try.func13, Try.ntmps13
        go_wp2_with fail
        with_reducible refine CA.mono ?_
        rintro e w' ⟨rfl, rfl⟩
        go_wp2_with fail
        with_reducible refine CB.mono ?_
        rintro e w' ⟨rfl, rfl⟩
        go_wp2_with fail
        go_ret3
        exact ⟨rfl, rfl⟩
    · rw [if_pos h2]
      have e1 : ((k2 : Int) != 0) = true := bne_iff_ne.2 (by omega)
      clear h0
      go_enter Try.func13, Try.ntmps13
      go_wp2_with fail
      with_reducible refine CA.mono ?_
      rintro e w' ⟨rfl, rfl⟩
      go_wp2_with fail
      with_reducible refine CB.mono ?_
      rintro e w' ⟨rfl, rfl⟩
      go_wp2_with fail
      go_ret3
      exact ⟨rfl, rfl⟩
  · rw [if_pos h1]
    have e1 : ((k1 : Int) != 0) = true := bne_iff_ne.2 (by omega)
    clear CB h0
    go_enter Try.func13, Try.ntmps13
    go_wp2_with fail
    with_reducible refine CA.mono ?_
    rintro e w' ⟨rfl, rfl⟩
    go_wp2_with fail
    go_ret3
    exact ⟨rfl, rfl⟩

set_option maxRecDepth 100000 in
set_option maxHeartbeats 2000000 in
/-- slices.Equal of two rows of the same numbers. -/
theorem Equal_ints (a b : Option Addr) (c1 c2 : Nat) (l : List Nat) (w : World) (hl : l.length ≤ 1099511627776)
    (h1 : ∀ j (hj : j < l.length), ∃ g, a = some ⟨g, 0, none⟩ ∧ w.cell? ⟨g, j, none⟩ = some (.int .i64 (l[j] : Int))) (h2 : ∀ j (hj : j < l.length), ∃ g, b = some ⟨g, 0, none⟩ ∧ w.cell? ⟨g, j, none⟩ = some (.int .i64 (l[j] : Int))) :
    Calls Try.prog 5 #[.slice a l.length c1, .slice b l.length c2] w fun e w' => e = .returned (.bool true) ∧ ∃ q, w' = w.drewN q := by
  have H1 := Lib.hid h1; have H2 := Lib.hid h2; clear h1 h2
  obtain ⟨n, hn⟩ : ∃ n, l.length = n := ⟨_, rfl⟩
  rw [hn] at hl ⊢
  have HN := Lib.hid hn; clear hn
  go_enter Try.func5, Try.ntmps5
  go_wp2_with fail
  go_loopw [13] (fun x wr => ∃ k : Nat, k ≤ n ∧ x = .int .i64 k ∧ ∃ j, wr = w.drewN j) (fun x _ => n - (intOf x).toNat)
  case atStart => exact ⟨0, Nat.zero_le _, rfl, 0, rfl⟩
  case round =>
    obtain ⟨k, hk, rfl, hj⟩ := hrel
    by_cases hlt : k < n
    · have hk' : k < l.length := by rw [HN.out]; exact hlt
      obtain ⟨A, rfl, g1⟩ := H1.out k hk'
      obtain ⟨B, rfl, g2⟩ := H2.out k hk'
      generalize l[k] = x at *
      obtain ⟨j, rfl⟩ := hj
      go_wp2_with fail
      go_region
      all_goals
        go_wp2_with fail
        go_roundw
        case rel => exact ⟨k + 1, hlt, by go_num, j + 1, rfl⟩
        case measure => simp [intOf]; omega
    · obtain rfl : k = n := by omega
      go_wp2_with fail
      go_ret
      exact ⟨rfl, hj⟩

theorem own_ints {w : World} {B : Nat} {T : TypeId} {v : Value} {l : List Nat} (h : w.ownsRow B T 1 v l.length (iv l)) : ∃ a c, v = .slice a l.length c ∧ ∀ j (hj : j < l.length), ∃ g, a = some ⟨g, 0, none⟩ ∧ w.cell? ⟨g, j, none⟩ = some (.int .i64 (l[j] : Int)) := by
  by_cases h0 : l.length = 0
  · rcases h.2 with ⟨rfl, -⟩ | ⟨g, cap, cur, rfl, -⟩
    · exact ⟨none, 0, by rw [h0], fun j hj => by omega⟩
    · exact ⟨_, cap, rfl, fun j hj => by omega⟩
  · obtain ⟨g, c, rfl, -⟩ := own_some h h0
    exact ⟨_, c, rfl, fun j hj => ⟨g, rfl, iv_cells h rfl j hj⟩⟩

end Go.Proofs.Ytnbdceigenndfaa
