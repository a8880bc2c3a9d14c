/- States in a row: what is told of the seven states that VolOwn makes. -/
import Derived.Test.YtenkdpogdfcbgaaOwnC
import Derived.Test.YtenkdpogdfcbgaaOwnS
namespace Go.Proofs.Ytenkdpogdfcbgaa
open Go.RowKit

theorem Try.infoState : (Try.prog.info? 53).map (fun i => (i.zero, i.size, i.bytes)) = some (some (.agg #[.slice none 0 0, .slice none 0 0]), 2, 48) := by kernel_rfl

/-- A state as it lies there. -/
structure Sx where
  a : Option Addr
  n : Nat
  c : Nat
  b : Option Addr
  m : Nat
  d : Nat
  rs : List Rw

def Sx.W (x : Sx) (w : World) (base : Nat) (s : Vo.St) : Prop := StW w base x.a x.n x.c x.b x.m x.d x.rs s
def Sx.In (x : Sx) (w : World) (lo hi : Nat) (s : Vo.St) : Prop := StIn w lo hi x.a x.n x.c x.b x.m x.d x.rs s
/-- What is lost when it is spoilt. -/
def Sx.sp (x : Sx) : List Value := .slice x.a x.n x.c :: x.rs.map Rw.sl ++ [.slice x.b x.m x.d]

theorem own_types {w : World} {b1 b2 : Nat} {e1 e2 : TypeId} {s1 s2 : Nat} {v1 v2 : Value} {n1 n2 : Nat} {xs1 xs2 : List Value} (h1 : w.ownsRow b1 e1 s1 v1 n1 xs1) (h2 : w.ownsRow b2 e2 s2 v2 n2 xs2) (hne : e1 ≠ e2) : ∀ k, v1.ownBlock = some k → v2.ownBlock ≠ some k := fun k k1 k2 => by
  rcases h1.2 with ⟨rfl, -⟩ | ⟨g, cap, cur, rfl, -, hh, -⟩
  · cases k1
  · rcases h2.2 with ⟨rfl, -⟩ | ⟨g', cap', cur', rfl, -, hh', -⟩
    · cases k2
    · cases k1
      have e : g' = g := Option.some.inj k2
      subst e
      rw [hh] at hh'
      injection hh' with h3
      injection h3 with h4 h5
      exact hne h5

/-- States as values. -/
def xv : List Sx → List Value
  | [] => []
  | t :: l => .slice t.a t.n t.c :: .slice t.b t.m t.d :: xv l
def xsp : List Sx → List Value
  | [] => []
  | t :: l => t.sp ++ xsp l

theorem xv_app (l m : List Sx) : xv (l ++ m) = xv l ++ xv m := by
  induction l with
  | nil => rfl
  | cons t l ih => rw [List.cons_append, xv, ih]; rfl
theorem xsp_app (l m : List Sx) : xsp (l ++ m) = xsp l ++ xsp m := by
  induction l with
  | nil => rfl
  | cons t l ih => rw [List.cons_append, xsp, ih, xsp, List.append_assoc]
theorem xsp_mem {l : List Sx} {v : Value} (h : v ∈ xsp l) : ∃ (i : Nat) (x : Sx), l[i]? = some x ∧ v ∈ x.sp := by
  induction l with
  | nil => cases h
  | cons t l ih =>
    rw [xsp] at h
    rcases List.mem_append.1 h with h | h
    · exact ⟨0, t, rfl, h⟩
    · obtain ⟨i, x, h1, h2⟩ := ih h
      exact ⟨i + 1, x, h1, h2⟩
theorem xv_length (l : List Sx) : (xv l).length = l.length * 2 := by
  induction l with
  | nil => rfl
  | cons t l ih => rw [xv, List.length_cons, List.length_cons, ih, List.length_cons]; omega
theorem xv_one (l : List Sx) : ∀ u ∈ xv l, u.oneCell' = true := by
  induction l with
  | nil => intro u hu; cases hu
  | cons t l ih =>
    intro u hu
    rw [xv] at hu
    rcases List.mem_cons.1 hu with rfl | hu
    · rfl
    rcases List.mem_cons.1 hu with rfl | hu
    · rfl
    exact ih u hu
theorem xv_get {l : List Sx} {j : Nat} {t : Sx} (h : l[j]? = some t) : (xv l)[j * 2]? = some (.slice t.a t.n t.c) ∧ (xv l)[j * 2 + 1]? = some (.slice t.b t.m t.d) := by
  induction l generalizing j with
  | nil => simp at h
  | cons x l ih =>
    cases j with
    | zero =>
      obtain rfl : x = t := by simpa using h
      exact ⟨rfl, rfl⟩
    | succ j =>
      have := ih (j := j) (by simpa using h)
      rw [show (j + 1) * 2 = j * 2 + 1 + 1 from by omega]
      exact this

/-- The state at a place of a row. -/
theorem xv_at {w : World} {base n m c k : Nat} {e : TypeId} {a : Option Addr} {rs : List Sx} {x : Sx} (h : w.ownsRow base e 2 (.slice a n c) m (xv rs)) (hk : rs[k]? = some x) :
    ∃ g, a = some ⟨g, 0, none⟩ ∧ g < w.heap.size ∧ w.cell? ⟨g, k * 2, none⟩ = some (.slice x.a x.n x.c) ∧ w.cell? ⟨g, k * 2 + 1, none⟩ = some (.slice x.b x.m x.d) := by
  have hl := h.1
  rw [xv_length] at hl
  have hk2 := (List.getElem?_eq_some_iff.1 hk).1
  obtain ⟨g, cap, hv, h1, h2⟩ := h.form (by omega)
  cases hv
  have hg := xv_get hk
  exact ⟨g, rfl, h2, by rw [h.cellAt _ (by omega), hg.1], by rw [h.cellAt _ (by omega), hg.2]⟩

theorem SpTo.trans {w w' w'' : World} {vs us : List Value} (h : SpTo w w' vs) (g : SpTo w' w'' us) : SpTo w w'' (vs ++ us) :=
  ⟨g.os.trans h.os, g.tape.trans h.tape, g.output.trans h.output, Nat.le_trans h.size g.size, fun k hk hv => (g.block k (Nat.lt_of_lt_of_le hk h.size) (fun v hm => hv v (by simp [hm]))).trans (h.block k hk fun v hm => hv v (by simp [hm]))⟩
theorem SpTo.begin {w W W' : World} {vs : List Value} (hb : Below w.heap.size w W) (h : SpTo W W' vs) : SpTo w W' vs := by
  have := ((SpTo.refl w []).below hb).trans h
  rwa [List.nil_append] at this

/-- Every block of these rows lies between two. -/
def Betw (lo hi : Nat) (vs : List Value) : Prop := ∀ v ∈ vs, ∀ k, v.ownBlock = some k → lo ≤ k ∧ k < hi

theorem Betw.app {lo hi : Nat} {vs us : List Value} (h : Betw lo hi vs) (g : Betw lo hi us) : Betw lo hi (vs ++ us) := fun v hv => by
  rcases List.mem_append.1 hv with hv | hv
  · exact h v hv
  · exact g v hv
theorem Betw.wide {lo hi lo' hi' : Nat} {vs : List Value} (h : Betw lo hi vs) (h1 : lo' ≤ lo) (h2 : hi ≤ hi') : Betw lo' hi' vs := fun v hv k hk => by
  have := h v hv k hk
  omega
theorem Sx.In.betw {w : World} {x : Sx} {lo hi : Nat} {s : Vo.St} (h : x.In w lo hi s) : Betw lo hi x.sp := fun v hv k hk => h.2 v (by
  unfold sls
  unfold Sx.sp at hv
  rcases List.mem_append.1 hv with hv | hv
  · rcases List.mem_cons.1 hv with rfl | hv
    · simp
    · exact List.mem_cons_of_mem _ (List.mem_cons_of_mem _ (List.mem_map.2 (by simpa using hv)))
  · rw [List.mem_singleton.1 hv]; simp) k hk
theorem own_betw {w : World} {base n size : Nat} {e : TypeId} {v : Value} {xs : List Value} (h : w.ownsRow base e size v n xs) : Betw base w.heap.size [v] := fun u hu k hk => by
  rw [List.mem_singleton] at hu
  subst hu
  exact ⟨row_base h k hk, own_block_lt h k hk⟩

/-- What lies apart from what has turned stands. -/
theorem SpTo.row {w W : World} {lo hi lo' hi' : Nat} {vs : List Value} (h : SpTo w W vs) (hv : Betw lo hi vs) {base n size : Nat} {e : TypeId} {v : Value} {xs : List Value} (ho : w.ownsRow base e size v n xs) (hb : Betw lo' hi' [v]) (hr : hi ≤ lo' ∨ hi' ≤ lo) : W.ownsRow base e size v n xs :=
  h.own ho fun k hk u hu e => by
    have h1 := hv u hu k e
    have h2 := hb v (by simp) k hk
    omega
theorem SpTo.box {w W : World} {lo hi : Nat} {vs : List Value} (h : SpTo w W vs) (hv : Betw lo hi vs) {B : Nat} {cs : List Value} (hb : Bxs w B cs) (hr : hi ≤ B ∨ B < lo) : Bxs W B cs :=
  h.bxs hb fun u hu e => by
    have h1 := hv u hu B e
    omega
theorem Sx.In.st {w W : World} {lo hi lo' hi' : Nat} {vs : List Value} {x : Sx} {s : Vo.St} (hx : x.In w lo' hi' s) (h : SpTo w W vs) (hv : Betw lo hi vs) (hr : hi ≤ lo' ∨ hi' ≤ lo) : x.W W lo' s :=
  hx.1.sp h fun v hm k hk u hu e => by
    have h1 := hv u hu k e
    have h2 := hx.2 v hm k hk
    omega
theorem Sx.W.st {w W : World} {lo hi base : Nat} {vs : List Value} {x : Sx} {s : Vo.St} (hx : x.W w base s) (h : SpTo w W vs) (hv : Betw lo hi vs) (hr : hi ≤ base) : x.W W base s :=
  Sx.In.st (lo' := base) (hi' := w.heap.size) (StW.lies hx) h hv (Or.inl hr)
theorem SpTo.low {w W W' : World} {vs : List Value} {lo hi : Nat} (hb : Below w.heap.size w W) (h : SpTo W W' vs) (hv : Betw lo hi vs) (hl : w.heap.size ≤ lo) : Below w.heap.size w W' :=
  ⟨h.os.trans hb.os, h.tape.trans hb.tape, h.output.trans hb.output, Nat.le_trans hb.size h.size, fun k hk => (h.block k (Nat.lt_of_lt_of_le hk hb.size) fun v hm e => by
    have := hv v hm k e
    omega).trans (hb.block k hk)⟩

/-- A state that stands in a range of blocks. -/
structure Sy where
  x : Sx
  s : Vo.St
  lo : Nat
  hi : Nat

/-- States in a row of ranges. -/
def Rng (w : World) (ys : List Sy) : Prop := (∀ y ∈ ys, y.x.In w y.lo y.hi y.s) ∧ ys.Pairwise fun y z => y.hi ≤ z.lo

theorem Rng.keep {w w' : World} {ys : List Sy} (h : Rng w ys) (hb : Below w.heap.size w w') : Rng w' ys := ⟨fun y hy => StIn.keep (h.1 y hy) hb, h.2⟩

/-- The first k of them. -/
def fst (ys : List Sy) (k : Nat) : List Sx := (ys.take k).map Sy.x
theorem fst_succ {ys : List Sy} {k : Nat} {y : Sy} (h : ys[k]? = some y) : fst ys (k + 1) = fst ys k ++ [y.x] := by
  obtain ⟨h1, rfl⟩ := List.getElem?_eq_some_iff.1 h
  unfold fst
  rw [List.take_succ_eq_append_getElem h1, List.map_append]
  rfl
theorem fst_mem {ys : List Sy} {k : Nat} {v : Value} (h : v ∈ xsp (fst ys k)) : ∃ (i : Nat) (y : Sy), i < k ∧ ys[i]? = some y ∧ v ∈ y.x.sp := by
  obtain ⟨i, x, h1, h2⟩ := xsp_mem h
  unfold fst at h1
  rw [List.getElem?_map, List.getElem?_take] at h1
  by_cases hi : i < k
  · rw [if_pos hi] at h1
    obtain ⟨y, hy, rfl⟩ := Option.map_eq_some_iff.1 h1
    exact ⟨i, y, hi, hy, h2⟩
  · rw [if_neg hi] at h1
    cases h1
theorem Rng.betw {w : World} {ys : List Sy} {lo hi : Nat} (h : Rng w ys) (hb : ∀ y ∈ ys, lo ≤ y.lo ∧ y.hi ≤ hi) (k : Nat) : Betw lo hi (xsp (fst ys k)) := fun v hv => by
  obtain ⟨i, y, -, hy, hm⟩ := fst_mem hv
  have hy2 := List.mem_of_getElem? hy
  exact (h.1 y hy2).betw.wide (hb y hy2).1 (hb y hy2).2 v hm

/-- The next state stands when those before it were spoilt. -/
theorem Rng.next {w W : World} {ys : List Sy} {pre : List Value} {k lo hi : Nat} {y : Sy} (h : Rng w ys) (hs : SpTo w W (pre ++ xsp (fst ys k))) (hp : Betw lo hi pre) (hl : ∀ y ∈ ys, hi ≤ y.lo) (hk : ys[k]? = some y) : y.x.W W y.lo y.s := by
  have hy := h.1 y (List.mem_of_getElem? hk)
  refine hy.1.sp hs fun v hm b hb u hu e => ?_
  have h2 := hy.2 v hm b hb
  rcases List.mem_append.1 hu with hu | hu
  · have h1 := hp u hu b e
    have := hl y (List.mem_of_getElem? hk)
    omega
  · obtain ⟨i, z, hi, hz, hm2⟩ := fst_mem hu
    have h1 := (h.1 z (List.mem_of_getElem? hz)).betw u hm2 b e
    obtain ⟨q1, rfl⟩ := List.getElem?_eq_some_iff.1 hz
    obtain ⟨q2, rfl⟩ := List.getElem?_eq_some_iff.1 hk
    have := List.pairwise_iff_getElem.1 h.2 i k q1 q2 hi
    omega

theorem SpTo.next {w W W' W'' : World} {ys : List Sy} {pre : List Value} {k : Nat} {y : Sy} (h : SpTo w W (pre ++ xsp (fst ys k))) (hb : Below W.heap.size W W') (hs : SpTo W' W'' y.x.sp) (hk : ys[k]? = some y) : SpTo w W'' (pre ++ xsp (fst ys (k + 1))) := by
  have := (h.below hb).trans hs
  rwa [fst_succ hk, xsp_app, xsp, xsp, List.append_nil, ← List.append_assoc]

/-- A state stands while a row of states grows. -/
theorem Sx.W.grow {w w' : World} {x : Sx} {base : Nat} {s : Vo.St} (h : x.W w base s) {b n : Nat} {v : Value} {xs : List Value} (ho : w.ownsRow b 53 2 v n xs) (hg : w.grownBy w' v.ownBlock) : x.W w' base s := by
  refine StW.kept h hg (fun u hu k hk e => ?_) (fun u hu k hk => (StW.lt h u hu k hk).2)
  unfold sls at hu
  rcases List.mem_cons.1 hu with rfl | hu
  · exact own_types h.bag ho (by decide) k hk e
  rcases List.mem_cons.1 hu with rfl | hu
  · exact own_types h.row ho (by decide) k hk e
  obtain ⟨r, hr, rfl⟩ := List.mem_map.1 hu
  obtain ⟨i, hi, rfl⟩ := List.getElem_of_mem hr
  obtain ⟨-, h2, -⟩ := h.vol i x.rs[i] (s.vols[i]'(by rw [h.vlen, ← h.rlen]; exact hi)) (List.getElem?_eq_getElem hi) (List.getElem?_eq_getElem _)
  exact own_types h2 ho (by decide) k hk e

end Go.Proofs.Ytenkdpogdfcbgaa
