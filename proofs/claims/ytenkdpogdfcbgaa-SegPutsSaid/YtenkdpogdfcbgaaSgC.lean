import Derived.Test.YtenkdpogdfcbgaaSgL
import Derived.Test.YtenkdpogdfcbgaaShelf
import Derived.Lib.AppendZerosOnto
import Derived.Lib.AppendZeros
/- The walks of slices.Grow and slices.Concat at rows of records, seg.used, seg.look, seg.Clean. -/
namespace Go.Proofs.Ytenkdpogdfcbgaa
open Go.RowKit

/-- A slice of slices, whole. -/
structure SSl (w : World) (a : Option Addr) (n c : Nat) (l : List Rl) : Prop where
  cl : ∀ x, a = some x → ∀ j u, (sv l)[j]? = some u → w.cell? (x.add j) = some u
  len : l.length = n
  nil : a = none → n = 0 ∧ c = 0
theorem SSl.keep {w w' : World} {a : Option Addr} {n c : Nat} {l : List Rl} (h : SSl w a n c l) (hb : Below w.heap.size w w') : SSl w' a n c l := ⟨fun x hx j u hu => by
  have h1 := h.cl x hx j u hu
  rw [hb.cell (World.block_lt_of_cell? w _ h1)]
  exact h1, h.len, h.nil⟩
theorem SSl.cells {w : World} {x : Addr} {n c : Nat} {l : List Rl} (h : SSl w (some x) n c l) : ∀ j u, (sv l)[j]? = some u → w.cell? (x.add j) = some u := h.cl x rfl
theorem ssl_len (l : List Rl) : (sv l).length = l.length * 1 := by rw [sv_length, Nat.mul_one]

set_option maxRecDepth 100000 in
set_option maxHeartbeats 2000000 in
theorem Grow_S (n : Nat) (hn : n ≤ 1099511627776) (w : World) :
    Calls Try.prog 174 #[.slice none 0 0, .int .i64 n] w fun e w' => ∃ v, e = .returned v ∧ w'.ownsRow w.heap.size 45 1 v 0 [] ∧ Below w.heap.size w w' := by
  obtain ⟨i0, hi, hz0, hz1, hz2⟩ := info_parts Try.infoRecs
  by_cases h0 : n = 0
  · subst h0
    go_enter Try.func174, Try.ntmps174
    go_wp2_with fail
    go_ret
    exact ⟨_, rfl, World.ownsRow_nil _ _ _ _, Below.refl _ _⟩
  · have hz := fun ty => Lib.run_append_nil_zeros w 26 3 ty 45 i0 (.slice none 0 0) .i64 .i64 Try.underlying26 Try.underlying3 hi hz0 n (by omega) (by rw [hz1]; decide) (by omega) (by rw [hz2]; omega)
    have hge := grownCap_ge w n 0 45
    have hle := grownCap_le_maxLen w n 0 45 (by unfold maxLen; omega)
    have hcs : (Builtin.zeroCells (Value.slice none 0 0).cells n ++ Builtin.zeroCells (Value.slice none 0 0).cells (grownCap w n 0 45 - n)).size = grownCap w n 0 45 * 1 := by
      rw [Array.size_append, size_zeroCells, size_zeroCells]
      show n * 1 + _ * 1 = _
      omega
    generalize grownCap w n 0 45 = G at *
    generalize Builtin.zeroCells (Value.slice none 0 0).cells n ++ Builtin.zeroCells (Value.slice none 0 0).cells (G - n) = cs at *
    have HF : Hid ((w.drew.alloc (.cells cs 45)).ownsRow w.heap.size 45 1 (.slice (some ⟨w.heap.size, 0, none⟩) 0 G) 0 [] ∧ Below w.heap.size w (w.drew.alloc (.cells cs 45))) :=
      Lib.hid ⟨World.ownsRow_made w.drew cs G (Nat.le_refl _) hle hcs, ((Below.refl _ w).drew).alloc (Nat.le_refl _) _⟩
    have hn0 : decide ((0 : Int) < (n : Int)) = true := decide_eq_true (by omega)
    clear hcs hle
    go_enter Try.func174, Try.ntmps174
    go_wp2_with (at_builtin; refine Lib.wpList_append_run _ rfl _ _ _ _ rfl _ _ rfl rfl _ _ (hz _) ?_)
    go_ret
    exact ⟨_, rfl, HF.out⟩

set_option maxRecDepth 100000 in
set_option maxHeartbeats 4000000 in
theorem Concat2_S (b c n1 c1 n2 c2 : Nat) (a1 a2 : Option Addr) (t1 t2 : List Rl) (w : World) (hb : b < w.heap.size) (hc1 : w.cell? ⟨b, 0, none⟩ = some (.slice a1 n1 c1)) (hc2 : w.cell? ⟨b, 1, none⟩ = some (.slice a2 n2 c2))
    (h1 : SSl w a1 n1 c1 t1) (h2 : SSl w a2 n2 c2 t2) (hn1 : n1 ≤ 1000000) (hn2 : n2 ≤ 1000000) :
    Calls Try.prog 114 #[.slice (some ⟨b, 0, none⟩) 2 c] w fun e w' => ∃ v, e = .returned v ∧ w'.ownsRow w.heap.size 45 1 v (n1 + n2) (sv (t1 ++ t2)) ∧ Below w.heap.size w w' := by
  obtain ⟨i0, hi, hz0, hz1, hz2⟩ := info_parts Try.infoRecs
  have H1 := Lib.hid h1; have H2 := Lib.hid h2; have HB := Lib.hid hb
  have HC1 := Lib.hid hc1; have HC2 := Lib.hid hc2
  have G1 := fun w => Grow_S (n1 + n2) (by omega) w
  obtain ⟨S, hS⟩ : ∃ S : Int, ((n1 + n2 : Nat) : Int) = S := ⟨_, rfl⟩
  rw [hS] at G1
  have HS : Hid ((n1 : Int) + (n2 : Int) = S) := Lib.hid (by omega)
  clear hS
  have b1 : n1 + n2 ≤ maxLen := by unfold maxLen; omega
  have b2 : 0 + n1 ≤ maxLen ∧ (0 + n1) * 24 ≤ 140737488355328 ∧ (n1 + n2) * 24 ≤ 140737488355328 := by unfold maxLen; omega
  have HBB := Lib.hid b1; have HBC := Lib.hid b2
  clear h1 h2 hb b1 b2
  go_enter Try.func114, Try.ntmps114
  go_wp2_with fail
  go_loop [3, 11] (fun x i => (x = .int .i64 0 ∧ i = .int .i64 0) ∨ (x = .int .i64 n1 ∧ i = .int .i64 1) ∨ (x = .int .i64 S ∧ i = .int .i64 2)) (fun _ i => 2 - (intOf i).toNat)
  case atStart => exact Or.inl ⟨rfl, rfl⟩
  case round =>
    rcases hrel with ⟨rfl, rfl⟩ | ⟨rfl, rfl⟩ | ⟨rfl, rfl⟩
    · go_wp2_with fail
      go_round
      case rel => exact Or.inr (Or.inl ⟨by go_num, by go_num⟩)
      case measure => simp [intOf]
    · go_wp2_with fail
      go_round
      case rel => exact Or.inr (Or.inr ⟨by rw [← HS.out], by go_num⟩)
      case measure => simp [intOf]
    · have hS0 : ¬ S < 0 := by have := HS.out; omega
      clear hc1 hc2
      go_wp2_with fail
      with_reducible refine (G1 _).mono ?_
      rintro e w1 ⟨v1, rfl, hown1, hb1⟩
      have HO1 := Lib.hid hown1; have HB1 := Lib.hid hb1
      clear hown1 hb1 G1
      go_wp2_with fail
      go_loopw [6, 27] (fun v i wr => Hid (Below w.heap.size w wr) ∧ ((i = .int .i64 0 ∧ Hid (wr.ownsRow w.heap.size 45 1 v 0 [])) ∨ (i = .int .i64 1 ∧ Hid (wr.ownsRow w.heap.size 45 1 v n1 (sv t1))) ∨ (i = .int .i64 2 ∧ Hid (wr.ownsRow w.heap.size 45 1 v (n1 + n2) (sv (t1 ++ t2)))))) (fun _ i _ => 2 - (intOf i).toNat)
      case atStart => exact ⟨HB1, Or.inl ⟨rfl, HO1⟩⟩
      case round =>
        obtain ⟨hB, ⟨rfl, hO⟩ | ⟨rfl, hO⟩ | ⟨rfl, hO⟩⟩ := hrel
        · have g1 : wr.cell? ⟨b, 0, none⟩ = some (.slice a1 n1 c1) := by rw [hB.out.cell (p := ⟨b, 0, none⟩) HB.out]; exact HC1.out
          have hsz := hB.out.size
          rcases a1 with _ | x1
          · obtain ⟨rfl, rfl⟩ := H1.out.nil rfl
            have ht : t1 = [] := List.length_eq_zero_iff.1 H1.out.len
            have HT : Hid (t1 = []) := Lib.hid ht
            clear ht
            go_wp2_with (at_builtin; refine wpList_append_own_none rfl _ _ _ rfl w.heap.size 45 i0 1 Try.underlying26 hi _ 0 [] rfl hO.out rfl ?_)
            go_roundw
            case rel => exact ⟨hB, Or.inr (Or.inl ⟨by go_num, Lib.hid (by rw [HT.out]; exact hO.out)⟩)⟩
            case measure => simp [intOf]
          · have hcl := Lib.hid (H1.out.keep hB.out).cells
            have hll : Hid ((sv t1).length = n1 * 1) := Lib.hid (by rw [ssl_len, H1.out.len])
            go_wp2_with (at_builtin; refine wpList_append_own _ rfl _ _ _ rfl w.heap.size 45 i0 (.slice none 0 0) 1 24 Try.underlying26 hi hz0 hz1 hz2 rfl (by decide) _ 0 [] rfl hO.out x1 n1 c1 (sv t1) rfl hll.out hcl.out (sv_one t1) HBC.out.1 HBC.out.2.1 hsz ?_)
            intro v' w' q1 q2 _
            have HO' : Hid (w'.ownsRow w.heap.size 45 1 v' n1 (sv t1)) := Lib.hid (by simpa using q1)
            have HB' : Hid (Below w.heap.size w w') := Lib.hid (own_grown hO.out hB.out (Nat.le_refl _) hsz q2)
            clear q1 q2
            go_wp2_with fail
            go_roundw
            case rel => exact ⟨HB', Or.inr (Or.inl ⟨by go_num, HO'⟩)⟩
            case measure => simp [intOf]
        · have g1 : wr.cell? ⟨b, 1, none⟩ = some (.slice a2 n2 c2) := by rw [hB.out.cell (p := ⟨b, 1, none⟩) HB.out]; exact HC2.out
          have hsz := hB.out.size
          rcases a2 with _ | x2
          · obtain ⟨rfl, rfl⟩ := H2.out.nil rfl
            have HT : Hid (t2 = []) := Lib.hid (List.length_eq_zero_iff.1 H2.out.len)
            go_wp2_with (at_builtin; refine wpList_append_own_none rfl _ _ _ rfl w.heap.size 45 i0 1 Try.underlying26 hi _ n1 (sv t1) rfl hO.out rfl ?_)
            go_roundw
            case rel => exact ⟨hB, Or.inr (Or.inr ⟨by go_num, Lib.hid (by rw [HT.out, List.append_nil]; exact hO.out)⟩)⟩
            case measure => simp [intOf]
          · have hcl := Lib.hid (H2.out.keep hB.out).cells
            have hll : Hid ((sv t2).length = n2 * 1) := Lib.hid (by rw [ssl_len, H2.out.len])
            go_wp2_with (at_builtin; refine wpList_append_own _ rfl _ _ _ rfl w.heap.size 45 i0 (.slice none 0 0) 1 24 Try.underlying26 hi hz0 hz1 hz2 rfl (by decide) _ n1 (sv t1) rfl hO.out x2 n2 c2 (sv t2) rfl hll.out hcl.out (sv_one t2) HBB.out HBC.out.2.2 hsz ?_)
            intro v' w' q1 q2 _
            have HO' : Hid (w'.ownsRow w.heap.size 45 1 v' (n1 + n2) (sv (t1 ++ t2))) := Lib.hid (by rw [sv_app]; exact q1)
            have HB' : Hid (Below w.heap.size w w') := Lib.hid (own_grown hO.out hB.out (Nat.le_refl _) hsz q2)
            clear q1 q2
            go_wp2_with fail
            go_roundw
            case rel => exact ⟨HB', Or.inr (Or.inr ⟨by go_num, HO'⟩)⟩
            case measure => simp [intOf]
        · go_wp2_with fail
          go_ret
          exact ⟨_, rfl, hO.out, hB.out⟩

end Go.Proofs.Ytenkdpogdfcbgaa

namespace Go.Proofs.Ytenkdpogdfcbgaa.Sg
open Go.Proofs.Ytenkdpogdfcbgaa

theorem live_app (b : List Bg.It) (s t tl : List R) : liveR b (s ++ t) tl = liveR b s (t ++ tl) ++ liveR b t tl := by
  induction s with
  | nil => rfl
  | cons r s ih =>
    rw [List.cons_append, liveR, liveR, ih, List.append_assoc]
    split <;> rfl
theorem flg_get {b : List Bg.It} {s tl : List R} {k : Nat} {r : R} (h : s[k]? = some r) : (flg b s tl)[k]? = some (okB b r && !seenB b (s.drop (k + 1) ++ tl) r.id) := by
  induction s generalizing k with
  | nil => simp at h
  | cons x s ih =>
    cases k with
    | zero =>
      obtain rfl : x = r := by simpa using h
      rfl
    | succ k =>
      rw [flg, List.getElem?_cons_succ, ih (by simpa using h)]
      rfl
theorem flgs_get {b : List Bg.It} {l : List (List R)} {q : Nat} {s : List R} (h : l[q]? = some s) : (flgs b l)[q]? = some (flg b s (l.drop (q + 1)).flatten) := by
  induction l generalizing q with
  | nil => simp at h
  | cons x l ih =>
    cases q with
    | zero =>
      obtain rfl : x = s := by simpa using h
      rfl
    | succ q =>
      rw [flgs, List.getElem?_cons_succ, ih (by simpa using h)]
      rfl
theorem lives_get {b : List Bg.It} {l : List (List R)} {q : Nat} {s : List R} (h : l[q]? = some s) : (lives b l)[q]? = some (liveR b s (l.drop (q + 1)).flatten) := by
  induction l generalizing q with
  | nil => simp at h
  | cons x l ih =>
    cases q with
    | zero =>
      obtain rfl : x = s := by simpa using h
      rfl
    | succ q =>
      rw [lives, List.getElem?_cons_succ, ih (by simpa using h)]
      rfl
theorem live_step {b : List Bg.It} {s tl : List R} {k : Nat} {r : R} (h : s[k]? = some r) : liveR b (s.take (k + 1)) (s.drop (k + 1) ++ tl) = liveR b (s.take k) (s.drop k ++ tl) ++ if (okB b r && !seenB b (s.drop (k + 1) ++ tl) r.id) = true then [r] else [] := by
  obtain ⟨hk, rfl⟩ := List.getElem?_eq_some_iff.1 h
  rw [List.take_succ_eq_append_getElem hk, live_app]
  have hd : s.drop k = s[k] :: s.drop (k + 1) := List.drop_eq_getElem_cons hk
  rw [hd]
  show liveR b (s.take k) (s[k] :: (s.drop (k + 1) ++ tl)) ++ (if okB b s[k] && !seenB b ([] ++ (s.drop (k + 1) ++ tl)) s[k].id then [s[k]] else []) = _
  rfl
theorem live_le (b : List Bg.It) (s tl : List R) : full (liveR b s tl) ≤ full s := by
  induction s with
  | nil => exact Nat.le_refl _
  | cons r s ih =>
    rw [liveR, full_cons]
    split
    · rw [full_cons]; omega
    · omega
theorem full_take (s : List R) (k : Nat) : full (s.take k) ≤ full s := by
  have := full_app (s.take k) (s.drop k)
  rw [List.take_append_drop] at this
  omega
theorem used_get {b : List Bg.It} {l : List (List R)} {q : Nat} {s : List R} (h : l[q]? = some s) : (usedL b l)[q]? = some (full (liveR b s (l.drop (q + 1)).flatten)) := by
  unfold usedL
  rw [List.getElem?_map, lives_get h]
  rfl
theorem used_take {b : List Bg.It} {l : List (List R)} {q : Nat} {s : List R} (h : l[q]? = some s) : (usedL b l).take (q + 1) = (usedL b l).take q ++ [full (liveR b s (l.drop (q + 1)).flatten)] := by
  have h1 := used_get (b := b) h
  obtain ⟨h2, h3⟩ := List.getElem?_eq_some_iff.1 h1
  rw [List.take_succ_eq_append_getElem h2, h3]

end Go.Proofs.Ytenkdpogdfcbgaa.Sg

namespace Go.Proofs.Ytenkdpogdfcbgaa
open Go.RowKit

set_option maxRecDepth 100000 in
set_option maxHeartbeats 8000000 in
theorem used_E (a : Option Addr) (n c base : Nat) (rs : List Rl) (l : List (List Sg.R)) (g base2 : Nat) (zs : List Rl) (bl : List Bg.It) (w : World) (hS : SgW w base a n c rs l) (hG : Sg.Good l) (hL : LvW w base2 g n n zs (Sg.flgs bl l)) :
    Calls Try.prog 111 #[.slice a n c, .slice (some ⟨g, 0, none⟩) n n] w fun e w' => ∃ b d, e = .returned (.slice b n d) ∧ w'.ownsRow w.heap.size 3 1 (.slice b n d) n (iv (Sg.usedL bl l)) ∧ Below w.heap.size w w' := by
  obtain ⟨i0, hi0, hz0, hz1, hz2⟩ := info_parts Try.infoInt
  have hn16 : n ≤ 16 := by rw [← hS.len]; exact hG.len
  have HS := Lib.hid hS; have HG := Lib.hid hG; have HL := Lib.hid hL
  have hle : (n : Int) ≤ (n : Int) := Int.le_refl _
  clear hS hG hL
  go_enter Try.func111, Try.ntmps111
  go_wp2_with fail
  go_loopw [5, 13] (fun v x wr => ∃ (k : Nat) (b5 : Option Addr) (d5 : Nat), k ≤ n ∧ x = .int .i64 k ∧ v = .slice b5 k d5 ∧ Hid (Below w.heap.size w wr) ∧ Hid (wr.ownsRow w.heap.size 3 1 (.slice b5 k d5) k (iv ((Sg.usedL bl l).take k)))) (fun _ x _ => n - (intOf x).toNat)
  case atStart => exact ⟨0, none, 0, Nat.zero_le _, rfl, rfl, Lib.hid (Below.refl _ _), Lib.hid (World.ownsRow_nil _ _ _ _)⟩
  case round =>
    obtain ⟨k, b5, d5, hk, rfl, rfl, HB, HR⟩ := hrel
    by_cases hlt : k < n
    · obtain ⟨ga, r, s, rfl, hg, -, c0w, hr, hls, ho⟩ := HS.out.at hlt
      obtain ⟨r2, f2, y0w, hr2, hf2, ho2⟩ := HL.out.at hlt
      rw [Sg.flgs_get hls] at hf2
      obtain rfl := Option.some.inj hf2
      have hsk := HG.out.seg s (List.mem_of_getElem? hls)
      have hs25 := Sg.sok_short hsk
      have HTK := Lib.hid (Sg.used_take (b := bl) hls)
      generalize (l.drop (k + 1)).flatten = tl at *
      have hrn : r.n ≤ 25 := by rw [← own_len4 ho]; exact hs25
      have HSL := Lib.hid (own_len4 ho)
      have HO := Lib.hid ho; have HO2 := Lib.hid ho2; have HSK := Lib.hid hsk
      have hr2n : r2.n = r.n := by
        have h1 := ho2.1
        rw [bv_length, Sg.flg_length, own_len4 ho] at h1
        omega
      have c0 : wr.cell? ⟨ga, k, none⟩ = some (.slice r.a r.n r.c) := (HB.out.cell hg).trans c0w
      have HYW := Lib.hid y0w
      obtain ⟨ra, rn, rc⟩ := r
      obtain ⟨ua, un, uc⟩ := r2
      dsimp only at c0 hrn HSL HO HO2 hr2n HYW
      obtain rfl : un = rn := hr2n
      have HZB := Lib.hid HB.out.size
      have hrc := (own_cap ho).1
      clear hr hls ho hr2 ho2 hsk hs25 c0w y0w hg hf2
      generalize wr = W1 at *
      go_wp2_with fail
      clear c0
      go_loopw [8, 20] (fun v x wr => ∃ j : Nat, j ≤ un ∧ x = .int .i64 j ∧ v = .int .i64 (Sg.full (Sg.liveR bl (s.take j) (s.drop j ++ tl)) : Nat) ∧ Hid (Below W1.heap.size W1 wr)) (fun _ x _ => un - (intOf x).toNat)
      case atStart => exact ⟨0, Nat.zero_le _, rfl, rfl, Lib.hid (Below.refl _ _)⟩
      case round =>
        obtain ⟨j, hj, rfl, rfl, HB2⟩ := hrel
        by_cases hjl : j < un
        · have hjs : j < s.length := by rw [HSL.out]; exact hjl
          have HB3 := Lib.hid (HB.out.trans (HB2.out.mono HZB.out))
          obtain ⟨g2, rfl, hg2, d0, d1, d2, d3⟩ := ev_at (own_keep HO.out HB3.out) hjs
          have y0 : wr.cell? ⟨g, k, none⟩ = some (.slice ua un uc) := (HB3.out.cell (World.block_lt_of_cell? w _ HYW.out)).trans HYW.out
          obtain ⟨gu, cap, hv, -, -⟩ := HO2.out.form (by omega)
          cases hv
          have HFJ := Lib.hid (Sg.flg_get (b := bl) (tl := tl) (List.getElem?_eq_getElem hjs))
          have HST := Lib.hid (Sg.live_step (b := bl) (tl := tl) (List.getElem?_eq_getElem hjs))
          have u0 : wr.cell? ⟨gu, j, none⟩ = some (.bool (Sg.okB bl s[j] && !Sg.seenB bl (s.drop (j + 1) ++ tl) s[j].id)) := by
            rw [World.ownsRow.cellAt (own_keep HO2.out HB3.out) j (by omega)]
            unfold bv
            rw [List.getElem?_map, HFJ.out]
            rfl
          have ht64 := (HSK.out.one s[j] (List.getElem_mem hjs)).2
          generalize (Sg.okB bl s[j] && !Sg.seenB bl (s.drop (j + 1) ++ tl) s[j].id) = fl at *
          have HSZ : Hid (Sg.sz s[j] = 8 + s[j].tx.size) := Lib.hid rfl
          have HL1 : Hid (Sg.full (Sg.liveR bl (s.take j) (s.drop j ++ tl)) ≤ 200) := Lib.hid (Nat.le_trans (Sg.live_le _ _ _) (Nat.le_trans (Sg.full_take s j) HSK.out.room))
          generalize s[j] = r at *
          obtain ⟨⟨f1, f2, f3⟩, f4⟩ := r
          dsimp only at d0 d1 d2 d3 ht64 HSZ
          have hb := (Below.refl wr.heap.size wr).alloc (Nat.le_refl _) (.cells #[.bool f1, .int .i64 f2, .int .i64 f3, .string f4] 36)
          have HBA := Lib.hid (HB2.out.trans (hb.mono HB2.out.size))
          have K1 := size_E f1 f2 f3 f4 (wr.alloc (.cells #[.bool f1, .int .i64 f2, .int .i64 f3, .string f4] 36)) ht64
          have HXA := Lib.hid (bxs_new wr 36 #[.bool f1, .int .i64 f2, .int .i64 f3, .string f4] [.bool f1, .int .i64 f2, .int .i64 f3, .string f4] rfl)
          have hgu : gu < wr.heap.size := World.block_lt_of_cell? wr _ u0
          have hgg : g < wr.heap.size := World.block_lt_of_cell? wr _ y0
          clear hg2 hb
          have HE : Hid (Sg.full (Sg.liveR bl (s.take (j + 1)) (s.drop (j + 1) ++ tl)) = Sg.full (Sg.liveR bl (s.take j) (s.drop j ++ tl)) + if fl = true then 8 + f4.size else 0) := Lib.hid (by
            rw [HST.out, Sg.full_app]
            split
            · rw [Sg.full_cons, Sg.full_nil, HSZ.out]; rfl
            · rfl)
          generalize Sg.full (Sg.liveR bl (s.take j) (s.drop j ++ tl)) = F at *
          cases fl with
          | false =>
            go_wp2_with fail
            go_roundw
            case rel => exact ⟨j + 1, hjl, by go_num, by rw [HE.out]; rfl, HBA⟩
            case measure => simp [intOf]; omega
          | true =>
            have hF := HL1.out
            have x0 := HXA.out.c 0 _ rfl; have x1 := HXA.out.c 1 _ rfl; have x2 := HXA.out.c 2 _ rfl; have x3 := HXA.out.c 3 _ rfl
            have hw : wrap64 ((F : Int) + (8 + (f4.size : Int))) = ((F + (8 + f4.size) : Nat) : Int) := by rw [IntWalk.wrap64_in _ ⟨by omega, by omega⟩]; omega
            go_wp2_with fail
            with_reducible refine K1.mono ?_
            rintro e w2 ⟨rfl, hb2⟩
            have HB4 := Lib.hid (HBA.out.trans (hb2.mono HBA.out.size))
            clear hb2 K1 x0 x1 x2 x3 d0 d1 d2 d3 y0 u0
            go_wp2_with fail
            go_roundw
            case rel => exact ⟨j + 1, hjl, by go_num, by rw [HE.out]; first | rfl | (rw [hw]; rfl), HB4⟩
            case measure => simp [intOf]; omega
        · obtain rfl : j = un := by omega
          have HLE : Hid (Sg.liveR bl (s.take j) (s.drop j ++ tl) = Sg.liveR bl s tl) := Lib.hid (by
            rw [List.take_of_length_le (by rw [HSL.out]; exact Nat.le_refl _), List.drop_eq_nil_of_le (by rw [HSL.out]; exact Nat.le_refl _)]
            rfl)
          have HB3 := Lib.hid (HB.out.trans (HB2.out.mono HZB.out))
          have HR3 := Lib.hid (own_keep HR.out HB2.out)
          have HTK2 : Hid ((Sg.usedL bl l).take (k + 1) = (Sg.usedL bl l).take k ++ [Sg.full (Sg.liveR bl (s.take j) (s.drop j ++ tl))]) := Lib.hid (by rw [HLE.out]; exact HTK.out)
          generalize Sg.full (Sg.liveR bl (s.take j) (s.drop j ++ tl)) = F at *
          have HRA := Lib.hid (HR3.out.alloc (.cells #[.int .i64 (F : Int)] 3))
          have H3 : Hid (∀ j x, [Value.int .i64 (F : Int)][j]? = some x → (wr.alloc (.cells #[.int .i64 (F : Int)] 3)).cell? ((⟨wr.heap.size, 0, none⟩ : Addr).add j) = some x) := Lib.hid fun j u hu => by
            rw [addr_lit, Nat.zero_add]
            exact cell_new wr (k := j) (by simpa using hu)
          have H4 : Hid (∀ x ∈ [Value.int .i64 (F : Int)], x.oneCell' = true) := Lib.hid (by intro x hx; simp at hx; subst hx; rfl)
          have H5 : Hid (k + 1 ≤ maxLen ∧ (k + 1) * 8 ≤ 140737488355328) := Lib.hid ⟨by unfold maxLen; omega, by omega⟩
          have H6 : Hid (w.heap.size ≤ (wr.alloc (.cells #[.int .i64 (F : Int)] 3)).heap.size) := Lib.hid (by rw [World.size_alloc]; have := HB3.out.size; omega)
          go_wp2_with (at_builtin; refine wpList_append_lies _ rfl _ _ _ rfl w.heap.size 3 i0 (.int .i64 0) 1 8 Try.underlying23 hi0 hz0 hz1 hz2 rfl (by decide) (.slice b5 k d5) k _ rfl HRA.out ⟨wr.heap.size, 0, none⟩ 1 1 [.int .i64 (F : Int)] rfl rfl H3.out H4.out (by decide) H5.out.1 H5.out.2 H6.out _ rfl ?_)
          intro g6 cap6 w6 q1 q2 q3 q4
          have HBE : Hid (Below w.heap.size w w6) := Lib.hid ((HB3.out.alloc HB3.out.size _).grown q2 H6.out (fun k e => row_base HRA.out k e))
          have HRE : Hid (w6.ownsRow w.heap.size 3 1 (.slice (some ⟨g6, 0, none⟩) (k + 1) cap6) (k + 1) (iv ((Sg.usedL bl l).take (k + 1)))) := Lib.hid (by rw [HTK2.out, iv_snoc]; exact q1)
          clear q1 q2 q3 q4 HRA H3 H4 H5 H6
          go_wp2_with fail
          go_roundw
          case rel => exact ⟨k + 1, _, _, hlt, by go_num, rfl, HBE, HRE⟩
          case measure => simp [intOf]; omega
    · obtain rfl : k = n := by omega
      have hte : (Sg.usedL bl l).take k = Sg.usedL bl l := List.take_of_length_le (by rw [Sg.used_length, HS.out.len]; exact Nat.le_refl _)
      go_wp2_with fail
      go_ret
      exact ⟨_, _, rfl, by have := HR.out; rw [hte] at this; exact this, HB.out⟩

end Go.Proofs.Ytenkdpogdfcbgaa
