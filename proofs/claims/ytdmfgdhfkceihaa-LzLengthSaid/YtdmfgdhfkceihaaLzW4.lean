/- The walk of lz.Parse: the tokens of a text, collected. -/
import Derived.Test.YtdmfgdhfkceihaaLzW3
namespace Go.Proofs.Ytdmfgdhfkceihaa
open Go.RowKit Go.Shelf

attribute [local go_sem] Oper.semAt_some

theorem Try.infoTok : (Try.prog.info? 33).map (fun i => (i.zero, i.size, i.bytes)) = some (some (.agg #[.int .i64 0, .int .i64 0, .int .i64 0]), 3, 24) := by kernel_rfl

/-- Tokens as values. -/
def kv : List Lz.Tk → List Value
  | [] => []
  | t :: l => .int .i64 t.d :: .int .i64 t.n :: .int .i64 t.b :: kv l

theorem kv_app (l m : List Lz.Tk) : kv (l ++ m) = kv l ++ kv m := by
  induction l with
  | nil => rfl
  | cons t l ih => rw [List.cons_append, kv, ih]; rfl

theorem kv_length (l : List Lz.Tk) : (kv l).length = l.length * 3 := by
  induction l with
  | nil => rfl
  | cons t l ih => rw [kv, List.length_cons, List.length_cons, List.length_cons, ih, List.length_cons]; omega

theorem kv_get {l : List Lz.Tk} {j : Nat} {t : Lz.Tk} (h : l[j]? = some t) : (kv l)[j * 3]? = some (.int .i64 t.d) ∧ (kv l)[j * 3 + 1]? = some (.int .i64 t.n) ∧ (kv l)[j * 3 + 2]? = some (.int .i64 t.b) := by
  induction l generalizing j with
  | nil => simp at h
  | cons x l ih =>
    cases j with
    | zero =>
      obtain rfl : x = t := by simpa using h
      exact ⟨rfl, rfl, rfl⟩
    | succ j =>
      have := ih (j := j) (by simpa using h)
      rw [show (j + 1) * 3 = j * 3 + 1 + 1 + 1 from by omega]
      exact this

theorem cells_triple (w : World) (T : TypeId) (x y z : Value) : ∀ j u, [x, y, z][j]? = some u → (w.alloc (.cells #[x, y, z] T)).cell? ((⟨w.heap.size, 0, none⟩ : Addr).add j) = some u := by
  intro j u h
  rw [addr_lit0]
  match j, h with
  | 0, h => cases h; exact cell_new w (k := 0) rfl
  | 1, h => cases h; exact cell_new w (k := 1) rfl
  | 2, h => cases h; exact cell_new w (k := 2) rfl
  | j + 3, h => simp at h

/-- A box of a token's three cells. -/
def KBoxed (W : World) (B : Nat) (T : TypeId) (t : Lz.Tk) : Prop := W.heap[B]? = some (.cells #[.int .i64 t.d, .int .i64 t.n, .int .i64 t.b] T (0, 0))

theorem KBoxed.lt {W : World} {B : Nat} {T : TypeId} {t : Lz.Tk} (h : KBoxed W B T t) : B < W.heap.size := (Array.getElem?_eq_some_iff.1 h).1
theorem KBoxed.cells {W : World} {B : Nat} {T : TypeId} {t : Lz.Tk} (h : KBoxed W B T t) : W.cell? ⟨B, 0, none⟩ = some (.int .i64 t.d) ∧ W.cell? ⟨B, 1, none⟩ = some (.int .i64 t.n) ∧ W.cell? ⟨B, 2, none⟩ = some (.int .i64 t.b) := by
  have h' : W.heap[B]? = _ := h
  exact ⟨by simp [World.cell?, h'], by simp [World.cell?, h'], by simp [World.cell?, h']⟩
theorem kboxed_own {β : Type} (B : Nat) (T : TypeId) (t : Lz.Tk) : Own (fun (_ : β) W => KBoxed W B T t) := fun s X Y row hs hg hrow =>
  (hg.block B hs.lt (fun e' => by obtain ⟨o, ho, hc⟩ := hrow B e'.symm; rw [show X.heap[B]? = _ from hs] at ho; cases ho; cases hc)).trans hs

theorem KpB.of2 {n₀ B : Nat} {X Y : World} (h : Below X.heap.size X Y) (h2 : n₀ ≤ X.heap.size) : KpB n₀ B X Y := ⟨h.mono h2, fun hb => h.block B hb, fun hb => h.block (B + 1) hb⟩

theorem each_stops (n n₀ B : Nat) (s : ByteArray) (win : Nat) (hn : 1 ≤ n) (hs : s.size ≤ 600) (hw1 : 1 ≤ win) (hw : win ≤ 256) (w : World) (c1 : Boxed w B 9 (.string s)) (c2 : Boxed w (B + 1) 3 (.int .i64 win)) :
    SeqStopsK Fence.wide n Try.prog 36 #[.pointer (some ⟨B, 0, none⟩), .pointer (some ⟨B + 1, 0, none⟩)] (fun t : Lz.Tk => #[Value.agg #[.int .i64 t.d, .int .i64 t.n, .int .i64 t.b]]) (KpB n₀ B) (fun ys => ys = Lz.parse s.data.toList win) (fun pre => pre <+: Lz.parse s.data.toList win) (Lz.parse s.data.toList win).length w :=
  fun l J Jx W hW hJ _ hY h0 => each1_in n l n₀ B s win hn hs hw1 hw J Jx W hJ hY ((hW.block B c1.lt).trans c1) ((hW.block (B + 1) c2.lt).trans c2) h0

set_option maxRecDepth 100000 in
set_option maxHeartbeats 4000000 in
theorem Parse_ok (s : ByteArray) (win : Nat) (w : World) (hs : s.size ≤ 600) (hw1 : 1 ≤ win) (hw : win ≤ 256) :
    Calls Try.prog 14 #[.string s, .int .i64 win] w fun e W' => ∃ v, e = .returned (.tuple #[v, .int .i64 0]) ∧ W'.ownsRow w.heap.size 33 3 v (Lz.parse s.data.toList win).length (kv (Lz.parse s.data.toList win)) ∧ Below w.heap.size w W' := by
  obtain ⟨i0, hi, hz0, hz1, hz2⟩ := info_parts Try.infoTok
  have hL : (s.data.toList).length = s.size := by simp
  have hlen : (Lz.parse s.data.toList win).length ≤ 600 := by
    have := Lz.rest_len (s := s.data.toList) (w := win) s.data.toList.length 0 (by omega)
    unfold Lz.parse; omega
  have L1 := longest_ok s 0 win w hs (Nat.zero_le _) hw1 hw
  have L2 := (callsIn_wide (n := 5 - 1)).2 L1
  clear L1
  refine (callsIn_wide (n := 5)).1 ?_
  refine callsIn_of_wp_marks Try.func14 rfl trivial ?_ rfl
  simp only [Try.ntmps14, List.size_toArray, List.length_cons, List.length_nil, Nat.reduceAdd, Nat.reduceSub, Array.replicate_succ, Array.replicate_zero, List.push_toArray, List.append_toArray, List.nil_append, List.cons_append]
  generalize (Mt.best s.data.toList 0 (min win 0)).1 = x1 at *
  generalize (Mt.best s.data.toList 0 (min win 0)).2 = x2 at *
  gi_wp2
  refine ⟨trivial, ?_⟩
  gi_at_call 26
  refine L2.mono ?_
  rintro e w2 ⟨rfl, kk, hw2⟩
  have HB2 : Hid (Below w.heap.size w w2) := Lib.hid (by rw [hw2]; exact below_drewN (Below.refl _ _) _)
  have hs3 : w2.heap.size = w.heap.size := by rw [hw2]; rfl
  have HS3 := Lib.hid hs3
  clear hw2 L2 hs3
  gi_wp2
  refine ⟨trivial, ?_⟩
  gi_at_call 27
  refine (each_in s win _ _).mono ?_
  rintro e w' ⟨rfl, rfl⟩
  gi_wp2
  have bO := ((Boxed.new w2 30 (.slice none 0 0)).alloc (.cells #[.string s] 9)).alloc (.cells #[.int .i64 win] 3)
  have bS := (Boxed.new (w2.alloc (.cells #[.slice none 0 0] 30)) 9 (.string s)).alloc (.cells #[.int .i64 win] 3)
  have bI := Boxed.new ((w2.alloc (.cells #[.slice none 0 0] 30)).alloc (.cells #[.string s] 9)) 3 (.int .i64 win)
  simp only [World.size_alloc] at bS bI
  have hB0 : Below w2.heap.size w2 (((w2.alloc (.cells #[.slice none 0 0] 30)).alloc (.cells #[.string s] 9)).alloc (.cells #[.int .i64 win] 3)) := (((Below.refl _ w2).alloc (Nat.le_refl _) _).alloc (by simp) _).alloc (by simp; omega) _
  have hsz : (((w2.alloc (.cells #[.slice none 0 0] 30)).alloc (.cells #[.string s] 9)).alloc (.cells #[.int .i64 win] 3)).heap.size = w2.heap.size + 3 := by simp
  obtain ⟨W0, hW0⟩ : ∃ W0, ((w2.alloc (.cells #[.slice none 0 0] 30)).alloc (.cells #[.string s] 9)).alloc (.cells #[.int .i64 win] 3) = W0 := ⟨_, rfl⟩
  rw [hW0] at bO bS bI hB0 hsz ⊢
  clear hW0
  refine wpIn_rangeFunc_ownH rfl (by omega) (gf := 36) (lb := #[.pointer (some ⟨w2.heap.size + 1, 0, none⟩), .pointer (some ⟨w2.heap.size + 1 + 1, 0, none⟩)]) rfl trivial (enters_of Try.func36 (by kernel_rfl) rfl)
    (each_stops (5 - 1) w2.heap.size (w2.heap.size + 1) s win (by omega) hs hw1 hw W0 bS bI) KpB.t (fun W l o o' h1 h2 h3 h4 => ⟨belowK_b (w := W0) (by omega) W l o o' h1 h2 h3 h4, fun _ => World.putObj_heap_other (by omega), fun _ => World.putObj_heap_other (by omega)⟩) (Below.refl _ _) (fun _ => rfl)
    (fun pre W => ((∃ v, Boxed W w2.heap.size 30 v ∧ W.ownsRow w2.heap.size 33 3 v pre.length (kv pre) ∧ True) ∧ (Boxed W (w2.heap.size + 1) 9 (.string s) ∧ Boxed W (w2.heap.size + 1 + 1) 3 (.int .i64 win))) ∧ Below w2.heap.size w2 W)
    (fun _ _ _ => False)
    (OwnFrom.and (OwnFrom.and (Own.from (holdsRow_own w2.heap.size w2.heap.size 30 33 3 (fun pre => pre.length) (fun pre => kv pre) (fun pre v => True)) _) (OwnFrom.and (Own.from (boxed_own _ _ _) _) (Own.from (boxed_own _ _ _) _))) (ownFrom_below (Nat.le_refl _) (by omega)))
    (fun _ _ _ _ _ hs _ _ => hs)
    ⟨⟨⟨_, bO, World.ownsRow_nil _ _ _ _, trivial⟩, bS, bI⟩, hB0⟩
    (fun x a' W => ∃ Bx, w2.heap.size + 2 < Bx ∧ KBoxed W Bx 33 x ∧ a' = { tmps := #[.string s, .int .i64 win, undef, undef, .slice none 0 0, .int .i64 0, .int .i64 x1, .int .i64 x2, .int .i64 0, .pointer (some ⟨w2.heap.size, 0, none⟩), .pointer (some ⟨Bx, 0, none⟩), .tuple #[.int .i64 x1, .int .i64 x2, .int .i64 0], .string s, .int .i64 win, .tuple #[.int .i64 x1, .int .i64 x2, .int .i64 0], .int .i64 x1, .int .i64 x2, .int .i64 0, .int .i64 0, .bool false, undef, .string s, .int .i64 win, .func (.func 36) #[] #[.pointer (some ⟨w2.heap.size + 1, 0, none⟩), .pointer (some ⟨w2.heap.size + 1 + 1, 0, none⟩)], .agg #[.int .i64 x.d, .int .i64 x.n, .int .i64 x.b], undef, undef, undef, undef, undef], defers := [] })
    (fun x a' _ X Y row hs hg hr => by obtain ⟨Bx, h1, h2, h3⟩ := hs; exact ⟨Bx, h1, kboxed_own (β := Unit) Bx 33 x () X Y row h2 hg (fun r e => (hr r e).2), h3⟩)
    ?assign ?body ?done ?stop
  case assign =>
    rintro l pre x W K ⟨⟨⟨v, hv, hr, _⟩, q1, q2⟩, hB1⟩ hK
    gi_wp2
    exact hK _ _ ((KeepsOthers.alloc _ _).from _) (KpB.of2 ((Below.refl _ W).alloc (Nat.le_refl _) _) hB1.size) ⟨⟨⟨v, hv.alloc _, hr.alloc _, trivial⟩, q1.alloc _, q2.alloc _⟩, hB1.alloc hB1.size _⟩ ⟨W.heap.size, q2.lt, World.alloc_heap_new W _, rfl⟩
  case body =>
    rintro l pre x a' W hl ⟨r, hr⟩ ⟨⟨⟨v, hv, hrow, _⟩, q1, q2⟩, hB⟩ ⟨Bx, hBx, bX, rfl⟩ hlt
    have hc := hv.cell
    have hf := hv.frozen
    obtain ⟨k0, k1, k2⟩ := bX.cells
    have hsW := hB.size
    have hp1 : pre.length + 1 ≤ maxLen := by unfold maxLen; omega
    have hp2 : (pre.length + 1) * 24 ≤ 140737488355328 := by omega
    have hne1 := q1.not_row (by decide) hrow
    have hne2 := q2.not_row (by decide) hrow
    gi_wp2_with (gi_at_builtin; refine wpListIn_append_own _ rfl _ _ 30 rfl w2.heap.size 33 i0 (.agg #[.int .i64 0, .int .i64 0, .int .i64 0]) 3 24 Try.underlying30 hi hz0 hz1 hz2 rfl (by decide) _ _ _ rfl (hrow.alloc _) ⟨W.heap.size, 0, none⟩ 1 1 [.int .i64 x.d, .int .i64 x.n, .int .i64 x.b] rfl rfl (cells_triple _ _ _ _ _) (by simp [Value.oneCell']) hp1 hp2 (by rw [World.size_alloc]; omega) ?_; intro v' w1 hown' hgrow _; obtain ⟨g', cap', rfl⟩ := ownsRow_succ hown'; obtain ⟨hv1, hv2, hr2, hk2, hb2⟩ := hv.appended (by decide) hrow hB.size (Nat.le_refl _) hown' hgrow; have hc1 := hv1.cell; have hf1 := hv1.frozen)
    have z1 := (q1.alloc _).kept hgrow hne1
    have z2 := (q2.alloc _).kept hgrow hne2
    have y1 := z1.other (B' := w2.heap.size) (by omega) (.slice (some ⟨g', 0, none⟩) (pre.length + 1) cap')
    have y2 := z2.other (B' := w2.heap.size) (by omega) (.slice (some ⟨g', 0, none⟩) (pre.length + 1) cap')
    refine ⟨hk2.from _, ⟨hb2, fun _ => ?_, fun _ => ?_⟩, ⟨⟨_, hv2, ?_, trivial⟩, y1, y2⟩, hB.trans hb2⟩
    · exact Eq.trans y1 (Eq.symm q1)
    · exact Eq.trans y2 (Eq.symm q2)
    · rw [List.length_append, kv_app]; exact hr2
  case done =>
    rintro D ys W hD rfl ⟨⟨⟨v, hv, hrow, _⟩, _⟩, hB⟩ hK
    have hc := hv.cell
    gi_wp2
    refine ⟨by simp, .inl ⟨_, _, rfl, run_takeDeferred hK, ?_⟩⟩
    refine ⟨_, results_tmp2 rfl _ _ _, v, rfl, ?_, HB2.out.trans ?_⟩
    · rw [← HS3.out]; exact ownsRow_putObj hrow _ hK rfl
    · rw [← HS3.out]; exact hB.trans (belowK_b (w := w2) (Nat.le_refl _) W D _ _ (by omega) hK rfl rfl)
  case stop =>
    rintro D c pre W _ _ h _
    exact h.elim

/-- A text that is too long, a window that is none. -/
def ParseE (s : ByteArray) (win : Int) : Int := if 600 < s.size then 2 else if win < 1 ∨ 256 < win then 1 else 0

set_option maxRecDepth 100000 in
set_option maxHeartbeats 4000000 in
theorem Parse_bad (s : ByteArray) (win : Int) (w : World) (hs : s.size ≤ maxLen) (he : ParseE s win ≠ 0) :
    Calls Try.prog 14 #[.string s, .int .i64 win] w fun e W' => e = .returned (.tuple #[.slice none 0 0, .int .i64 (ParseE s win)]) ∧ Below w.heap.size w W' := by
  have L1 : Calls Try.prog 26 #[.string s, .int .i64 0, .int .i64 win] w fun e w' => e = .returned (.tuple #[.int .i64 0, .int .i64 0, .int .i64 (ParseE s win)]) ∧ w = w' := by
    unfold ParseE at he ⊢
    by_cases h1 : 600 < s.size
    · rw [if_pos h1]; exact longest_large s 0 win w h1 hs
    · rw [if_neg h1] at he ⊢
      by_cases h2 : win < 1 ∨ 256 < win
      · rw [if_pos h2]; exact longest_arg s 0 win w (by omega) (Or.inr (Or.inr h2))
      · rw [if_neg h2] at he; exact absurd rfl he
  have hb : (ParseE s win != 0) = true := bne_iff_ne.2 he
  generalize ParseE s win = E at *
  have L2 := (callsIn_wide (n := 5 - 1)).2 L1
  clear L1
  refine (callsIn_wide (n := 5)).1 ?_
  refine callsIn_of_wp_marks Try.func14 rfl trivial ?_ rfl
  simp only [Try.ntmps14, List.size_toArray, List.length_cons, List.length_nil, Nat.reduceAdd, Nat.reduceSub, Array.replicate_succ, Array.replicate_zero, List.push_toArray, List.append_toArray, List.nil_append, List.cons_append]
  gi_wp2
  refine ⟨trivial, ?_⟩
  gi_at_call 26
  refine L2.mono ?_
  rintro e w2 ⟨rfl, rfl⟩
  gi_wp2
  exact ⟨_, results_tmp2 rfl _ _ _, rfl, Below.refl _ _⟩

end Go.Proofs.Ytdmfgdhfkceihaa
