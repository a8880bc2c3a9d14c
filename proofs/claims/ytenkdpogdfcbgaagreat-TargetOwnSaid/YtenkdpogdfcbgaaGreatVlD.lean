import Derived.Test.YtenkdpogdfcbgaaGreatVoP
import Derived.Test.YtenkdpogdfcbgaaGreatItD
import Derived.Test.YtenkdpogdfcbgaaGreatUse
import Derived.Test.YtenkdpogdfcbgaaGreatBgW6
import Derived.Lib.LazyBuf
import Derived.Lib.SliceRun
import Derived.Deep.OwnRows
import Derived.Laws.IdiomCopy
import Derived.Deep.RegionLaw
import Derived.Lib.Overlaps
import Derived.Lib.AppendZerosOnto
import Derived.Shelf.RegionOpenPlain
import Derived.Test.YtenkdpogdfcbgaaGreatShelf
import Derived.Deep.RegionHeld3
/- Rows of ids and of volumes, as cells; a state that lies there. -/
namespace Go.Proofs.YtenkdpogdfcbgaaGreat
open Go.RowKit

theorem Tryz.infoId : (Tryz.prog.info? 81).map (fun i => (i.zero, i.size, i.bytes)) = some (some (.agg #[.bool false, .int .i64 0, .int .i64 0]), 3, 24) := by kernel_rfl
theorem Tryz.infoVol : (Tryz.prog.info? 78).map (fun i => (i.zero, i.size, i.bytes)) = some (some (.agg #[.string ⟨#[]⟩, .slice none 0 0]), 2, 40) := by kernel_rfl

/-- Ids as values. -/
def dv : List Bg.Id → List Value
  | [] => []
  | t :: l => .bool t.is :: .int .i64 t.sum :: .int .i64 t.n :: dv l

/-- A volume as it lies there: its name, its slice. -/
structure Rw where
  name : ByteArray
  a : Option Addr
  n : Nat
  c : Nat

def Rw.sl (r : Rw) : Value := .slice r.a r.n r.c

/-- Volumes as values. -/
def rv : List Rw → List Value
  | [] => []
  | t :: l => .string t.name :: .slice t.a t.n t.c :: rv l

theorem dv_app (l m : List Bg.Id) : dv (l ++ m) = dv l ++ dv m := by
  induction l with
  | nil => rfl
  | cons t l ih => rw [List.cons_append, dv, ih]; rfl
theorem rv_app (l m : List Rw) : rv (l ++ m) = rv l ++ rv m := by
  induction l with
  | nil => rfl
  | cons t l ih => rw [List.cons_append, rv, ih]; rfl

theorem dv_length (l : List Bg.Id) : (dv l).length = l.length * 3 := by
  induction l with
  | nil => rfl
  | cons t l ih => rw [dv, List.length_cons, List.length_cons, List.length_cons, ih, List.length_cons]; omega
theorem rv_length (l : List Rw) : (rv l).length = l.length * 2 := by
  induction l with
  | nil => rfl
  | cons t l ih => rw [rv, List.length_cons, List.length_cons, ih, List.length_cons]; omega

theorem dv_one (l : List Bg.Id) : ∀ u ∈ dv l, u.oneCell' = true := by
  induction l with
  | nil => intro u hu; cases hu
  | cons t l ih =>
    intro u hu
    rw [dv] at hu
    rcases List.mem_cons.1 hu with rfl | hu
    · rfl
    rcases List.mem_cons.1 hu with rfl | hu
    · rfl
    rcases List.mem_cons.1 hu with rfl | hu
    · rfl
    exact ih u hu
theorem rv_one (l : List Rw) : ∀ u ∈ rv l, u.oneCell' = true := by
  induction l with
  | nil => intro u hu; cases hu
  | cons t l ih =>
    intro u hu
    rw [rv] at hu
    rcases List.mem_cons.1 hu with rfl | hu
    · rfl
    rcases List.mem_cons.1 hu with rfl | hu
    · rfl
    exact ih u hu

theorem dv_get {l : List Bg.Id} {j : Nat} {t : Bg.Id} (h : l[j]? = some t) : (dv l)[j * 3]? = some (.bool t.is) ∧ (dv l)[j * 3 + 1]? = some (.int .i64 t.sum) ∧ (dv l)[j * 3 + 2]? = some (.int .i64 t.n) := by
  induction l generalizing j with
  | nil => simp at h
  | cons x l ih =>
    cases j with
    | zero =>
      obtain rfl : x = t := by simpa using h
      exact ⟨rfl, rfl, rfl⟩
    | succ j =>
      have := ih (j := j) (by simpa using h)
      rw [show (j + 1) * 3 = j * 3 + 1 + 1 + 1 from by omega]
      exact this
theorem rv_get {l : List Rw} {j : Nat} {t : Rw} (h : l[j]? = some t) : (rv l)[j * 2]? = some (.string t.name) ∧ (rv l)[j * 2 + 1]? = some (.slice t.a t.n t.c) := by
  induction l generalizing j with
  | nil => simp at h
  | cons x l ih =>
    cases j with
    | zero =>
      obtain rfl : x = t := by simpa using h
      exact ⟨rfl, rfl⟩
    | succ j =>
      have := ih (j := j) (by simpa using h)
      rw [show (j + 1) * 2 = j * 2 + 1 + 1 from by omega]
      exact this

theorem rv_drop (l : List Rw) (k : Nat) : rv (l.drop k) = (rv l).drop (k * 2) := by
  induction k generalizing l with
  | zero => rfl
  | succ k ih =>
    cases l with
    | nil => simp [rv]
    | cons t l => rw [List.drop_succ_cons, ih, rv, show (k + 1) * 2 = k * 2 + 1 + 1 from by omega, List.drop_succ_cons, List.drop_succ_cons]
theorem rv_take (l : List Rw) (k : Nat) : rv (l.take k) = (rv l).take (k * 2) := by
  induction k generalizing l with
  | zero => simp [rv]
  | succ k ih =>
    cases l with
    | nil => simp [rv]
    | cons t l => rw [List.take_succ_cons, rv, ih, rv, show (k + 1) * 2 = k * 2 + 1 + 1 from by omega, List.take_succ_cons, List.take_succ_cons]

theorem dv_set {l : List Bg.Id} {k : Nat} (t : Bg.Id) (hk : k < l.length) : dv (l.set k t) = (((dv l).set (k * 3) (.bool t.is)).set (k * 3 + 1) (.int .i64 t.sum)).set (k * 3 + 2) (.int .i64 t.n) := by
  induction l generalizing k with
  | nil => simp at hk
  | cons x l ih =>
    cases k with
    | zero => rfl
    | succ k =>
      rw [List.set_cons_succ, dv, dv, ih (by simpa using hk), show (k + 1) * 3 = k * 3 + 1 + 1 + 1 from by omega]
      rfl

theorem dv_rep (n : Nat) : dv (List.replicate n Bg.noId) = (List.replicate n [Value.bool false, .int .i64 0, .int .i64 0]).flatten := by
  induction n with
  | zero => rfl
  | succ n ih => rw [List.replicate_succ, List.replicate_succ, dv, ih]; rfl

/-- Ids that lie there, in a row of some call's own. -/
def DSl (w : World) (v : Value) (n : Nat) (l : List Bg.Id) : Prop := w.ownsRow 0 81 3 v n (dv l) ∧ l.length = n

theorem DSl.keep {w w' : World} {v : Value} {n : Nat} {l : List Bg.Id} (h : DSl w v n l) (hb : Below w.heap.size w w') : DSl w' v n l := ⟨own_keep h.1 hb, h.2⟩

/-- No two blocks are one. -/
def Apart (l : List Value) : Prop := l.Pairwise fun u v => ∀ k, u.ownBlock = some k → v.ownBlock ≠ some k

/-- A state that lies there, from block 'base' on, in rows that share nothing. -/
structure StW (w : World) (base : Nat) (a : Option Addr) (n c : Nat) (b : Option Addr) (m d : Nat) (rs : List Rw) (s : Vo.St) : Prop where
  bag : w.ownsRow base 75 4 (.slice a n c) n (tv s.bag)
  len : s.bag.length = n
  row : w.ownsRow base 78 2 (.slice b m d) m (rv rs)
  rlen : rs.length = m
  vlen : s.vols.length = m
  vol : ∀ (i : Nat) (r : Rw) (v : Vo.Vl), rs[i]? = some r → s.vols[i]? = some v → r.name = v.name ∧ w.ownsRow base 81 3 (.slice r.a r.n r.c) r.n (dv v.ids) ∧ v.ids.length = r.n
  apart : Apart (.slice a n c :: .slice b m d :: rs.map Rw.sl)

theorem own_base {w : World} {base base' : Nat} {e : TypeId} {size : Nat} {v : Value} {n : Nat} {xs : List Value} (h : w.ownsRow base e size v n xs) (hb : base' ≤ base) : w.ownsRow base' e size v n xs := own_low h hb

theorem StW.keep {w w' : World} {base : Nat} {a b : Option Addr} {n c m d : Nat} {rs : List Rw} {s : Vo.St} (h : StW w base a n c b m d rs s) (hb : Below w.heap.size w w') : StW w' base a n c b m d rs s :=
  ⟨own_keep h.bag hb, h.len, own_keep h.row hb, h.rlen, h.vlen, fun i r v hr hv => ⟨(h.vol i r v hr hv).1, own_keep (h.vol i r v hr hv).2.1 hb, (h.vol i r v hr hv).2.2⟩, h.apart⟩

theorem StW.low {w : World} {base base' : Nat} {a b : Option Addr} {n c m d : Nat} {rs : List Rw} {s : Vo.St} (h : StW w base a n c b m d rs s) (hb : base' ≤ base) : StW w base' a n c b m d rs s :=
  ⟨own_low h.bag hb, h.len, own_low h.row hb, h.rlen, h.vlen, fun i r v hr hv => ⟨(h.vol i r v hr hv).1, own_low (h.vol i r v hr hv).2.1 hb, (h.vol i r v hr hv).2.2⟩, h.apart⟩

theorem stW0 (w : World) (base : Nat) : StW w base none 0 0 none 0 0 [] Vo.st0 :=
  ⟨World.ownsRow_nil _ _ _ _, rfl, World.ownsRow_nil _ _ _ _, rfl, rfl, fun i r v hr => by simp at hr, by
    unfold Apart
    simp [Value.ownBlock]⟩

theorem StW.isl {w : World} {base : Nat} {a b : Option Addr} {n c m d : Nat} {rs : List Rw} {s : Vo.St} (h : StW w base a n c b m d rs s) : ISl w a n c s.bag := by
  obtain ⟨a', n', he, hS⟩ := isl_own h.bag h.len
  cases he
  exact hS

/-- The form of the row of volumes, where there is one. -/
theorem StW.form {w : World} {base : Nat} {a b : Option Addr} {n c m d : Nat} {rs : List Rw} {s : Vo.St} (h : StW w base a n c b m d rs s) (hm : 0 < m) : ∃ g, b = some ⟨g, 0, none⟩ ∧ base ≤ g ∧ g < w.heap.size := by
  obtain ⟨g, cap, hv, h1, h2⟩ := h.row.form hm
  cases hv
  exact ⟨g, rfl, h1, h2⟩

/-- What stands at volume i. -/
theorem StW.at {w : World} {base : Nat} {g n c m d i : Nat} {x : Option Addr} {rs : List Rw} {s : Vo.St} (h : StW w base x n c (some ⟨g, 0, none⟩) m d rs s) (hi : i < m) :
    ∃ r v, rs[i]? = some r ∧ s.vols[i]? = some v ∧ w.cell? ⟨g, i * 2, none⟩ = some (.string v.name) ∧ w.cell? ⟨g, i * 2 + 1, none⟩ = some (.slice r.a r.n r.c) ∧ w.ownsRow base 81 3 (.slice r.a r.n r.c) r.n (dv v.ids) ∧ v.ids.length = r.n := by
  have h1 : i < rs.length := by rw [h.rlen]; exact hi
  have h2 : i < s.vols.length := by rw [h.vlen]; exact hi
  obtain ⟨e, ho, hl⟩ := h.vol i rs[i] s.vols[i] (List.getElem?_eq_getElem h1) (List.getElem?_eq_getElem h2)
  have hg := rv_get (List.getElem?_eq_getElem h1)
  exact ⟨rs[i], s.vols[i], List.getElem?_eq_getElem h1, List.getElem?_eq_getElem h2, by rw [h.row.cellAt _ (by omega), hg.1, e], by rw [h.row.cellAt _ (by omega), hg.2], ho, hl⟩

end Go.Proofs.YtenkdpogdfcbgaaGreat

/- Volumes that lie there; the walks of slices.IndexFunc at volumes, and of vol.find. -/
namespace Go.Proofs.YtenkdpogdfcbgaaGreat
open Go.RowKit

/-- The volume at a place. -/
theorem rv_at {w : World} {base n m c k : Nat} {e : TypeId} {a : Option Addr} {rs : List Rw} (h : w.ownsRow base e 2 (.slice a n c) m (rv rs)) (hk : k < rs.length) :
    ∃ g, a = some ⟨g, 0, none⟩ ∧ g < w.heap.size ∧ w.cell? ⟨g, k * 2, none⟩ = some (.string rs[k].name) ∧ w.cell? ⟨g, k * 2 + 1, none⟩ = some (.slice rs[k].a rs[k].n rs[k].c) := by
  have hl := h.1
  rw [rv_length] at hl
  obtain ⟨g, cap, hv, h1, h2⟩ := h.form (by omega)
  cases hv
  have hg := rv_get (List.getElem?_eq_getElem hk)
  exact ⟨g, rfl, h2, by rw [h.cellAt _ (by omega), hg.1], by rw [h.cellAt _ (by omega), hg.2]⟩

theorem own_cap {w : World} {base n m c : Nat} {e : TypeId} {size : Nat} {a : Option Addr} {xs : List Value} (h : w.ownsRow base e size (.slice a n c) m xs) : n ≤ c ∧ c ≤ maxLen ∧ n = m := by
  rcases h.2 with ⟨hv, h0⟩ | ⟨g, cap, cur, hv, -, -, h1, h2, -⟩
  · cases hv; exact ⟨Nat.le_refl _, Nat.zero_le _, h0.symm⟩
  · cases hv; exact ⟨h1, h2, rfl⟩

/-- A predicate's function value: what it answers of the volumes, wherever it is asked behind the beginning. -/
def PredV (w : World) (g : FuncId) (lb : Array Value) (p : ByteArray → Bool) : Prop :=
  ∀ (W : World) (z : ByteArray) (va : Option Addr) (vn vc : Nat), Below w.heap.size w W → Calls Tryz.prog g (#[.agg #[.string z, .slice va vn vc]] ++ lb) W fun e w' => e = .returned (.bool (p z)) ∧ Below w.heap.size w w'

/-- Where the first volume is whose name is such, or -1. -/
def idxV (p : ByteArray → Bool) (rs : List Rw) : Int := match rs.findIdx? (fun r => p r.name) with | some i => (i : Int) | none => -1

theorem idxV_hit {p : ByteArray → Bool} {rs : List Rw} {k : Nat} (hk : k < rs.length) (h : p rs[k].name = true) (hb : ∀ j (hj : j < k), p (rs[j]'(by omega)).name = false) : idxV p rs = (k : Int) := by
  have : rs.findIdx? (fun r => p r.name) = some k := by
    rw [List.findIdx?_eq_some_iff_getElem]
    exact ⟨hk, h, fun j hj hh => by rw [hb j hj] at hh; cases hh⟩
  unfold idxV
  rw [this]

theorem idxV_miss {p : ByteArray → Bool} {rs : List Rw} (hb : ∀ j (hj : j < rs.length), p rs[j].name = false) : idxV p rs = -1 := by
  have : rs.findIdx? (fun r => p r.name) = none := by
    rw [List.findIdx?_eq_none_iff]
    intro x hx
    obtain ⟨j, hj, rfl⟩ := List.getElem_of_mem hx
    exact hb j hj
  unfold idxV
  rw [this]

set_option maxHeartbeats 2000000 in
theorem IndexFunc_V (a : Option Addr) (n c base : Nat) (rs : List Rw) (g : FuncId) (lb : Array Value) (p : ByteArray → Bool) (w : World) (hn : n ≤ 1099511627776)
    (eg : ∀ args w, (callFunc g args).run Tryz.prog w = .ok (.enter g args) w) (hT : w.ownsRow base 78 2 (.slice a n c) n (rv rs)) (hl : rs.length = n) (hp : PredV w g lb p) :
    Calls Tryz.prog 102 #[.slice a n c, .func (.func g) #[] lb] w fun e w' => e = .returned (.int .i64 (idxV p rs)) ∧ Below w.heap.size w w' := by
  have HT := Lib.hid hT; have HP := Lib.hid hp; have HL := Lib.hid hl
  clear hT hp hl
  go_enter Tryz.func102, Tryz.ntmps102
  go_wp2_with fail
  go_loopg [5, 8] n (fun gg _ s8 wr => ∃ kk : Nat, kk ≤ n ∧ n - kk ≤ gg ∧ s8 = .int .i64 kk ∧ Hid (Below w.heap.size w wr) ∧ Hid (∀ j (_ : j < kk) (hj : j < rs.length), p rs[j].name = false))
  case atStart => exact ⟨0, Nat.zero_le _, by omega, rfl, Lib.hid (Below.refl _ w), Lib.hid fun j hj => absurd hj (Nat.not_lt_zero _)⟩
  case round =>
    obtain ⟨kk, hkk, hg, rfl, BW, A⟩ := hrel
    by_cases hlt : kk < n
    · have hk' : kk < rs.length := by rw [HL.out]; exact hlt
      obtain ⟨X, rfl, hX, c1, c2⟩ := rv_at (own_keep HT.out BW.out) hk'
      have hcall := HP.out wr rs[kk].name rs[kk].a rs[kk].n rs[kk].c BW.out
      have HE : Hid (p rs[kk].name = p rs[kk].name) := Lib.hid rfl
      have HR : Hid (∀ z, z = rs[kk].name → p rs[kk].name = p z) := Lib.hid fun z hz => by rw [hz]
      obtain ⟨z, hz⟩ : ∃ z, z = rs[kk].name := ⟨_, rfl⟩
      have HZ := Lib.hid (HR.out z hz)
      rw [← hz] at hcall c1
      clear HE HR hz
      generalize rs[kk].a = va at *
      generalize rs[kk].n = vn at *
      generalize rs[kk].c = vc at *
      cases hq : p z with
      | true =>
        rw [hq] at hcall
        have HQ := Lib.hid hq
        clear hq
        go_wp2_with (go_at_fn g; refine hcall.mono ?_; rintro e w' ⟨rfl, hb'⟩)
        go_ret
        refine ⟨?_, hb'⟩
        rw [idxV_hit hk' (by rw [HZ.out]; exact HQ.out) (fun j hj => A.out j hj (by omega))]
        rfl
      | false =>
        rw [hq] at hcall
        have HQ := Lib.hid hq
        clear hq
        go_wp2_with (go_at_fn g; refine hcall.mono ?_; rintro e w' ⟨rfl, hb'⟩)
        go_roundg (n - (kk + 1))
        case measure => omega
        case rel =>
          refine ⟨kk + 1, by omega, by omega, by go_num, Lib.hid hb', Lib.hid fun j hj hj' => ?_⟩
          by_cases e : j = kk
          · subst e
            rw [HZ.out]; exact HQ.out
          · exact A.out j (by omega) hj'
    · obtain rfl : kk = n := by omega
      go_wp2_with fail
      go_ret
      refine ⟨?_, BW.out⟩
      rw [idxV_miss (fun j hj => A.out j (by rw [← HL.out]; exact hj) hj)]
      rfl

theorem eg_vfind : ∀ args w, (callFunc 103 args).run Tryz.prog w = .ok (.enter 103 args) w := enters_of Tryz.func103 (by kernel_rfl) rfl

def sameN (s z : ByteArray) : Bool := z.toList == s.toList

theorem pred_vfind (w : World) (B : Nat) (s : ByteArray) (hB : B < w.heap.size) (hc : w.cell? ⟨B, 0, none⟩ = some (.string s)) : PredV w 103 #[.pointer (some ⟨B, 0, none⟩)] (sameN s) := fun W z va vn vc hb => by
  have hc' := (hb.cell (p := ⟨B, 0, none⟩) hB).trans hc
  have hBW : B < W.heap.size := Nat.lt_of_lt_of_le hB hb.size
  have HB := Lib.hid hb
  clear hb hc hB
  show Calls Tryz.prog 103 #[.agg #[.string z, .slice va vn vc], .pointer (some ⟨B, 0, none⟩)] W _
  go_enter Tryz.func103, Tryz.ntmps103
  go_wp2_with fail
  go_ret
  exact ⟨rfl, HB.out.alloc HB.out.size _⟩

/-- What vol.find answers. -/
def Vo.findI (vs : List Vo.Vl) (name : ByteArray) : Int := match Vo.find vs name with | some i => (i : Int) | none => -1

theorem findI_rows {rs : List Rw} {vs : List Vo.Vl} {name : ByteArray} (hl : rs.length = vs.length) (h : ∀ (i : Nat) (r : Rw) (v : Vo.Vl), rs[i]? = some r → vs[i]? = some v → r.name = v.name) : idxV (sameN name) rs = Vo.findI vs name := by
  have e : rs.findIdx? (fun r => sameN name r.name) = vs.findIdx? (Vo.called name) := by
    cases hf : vs.findIdx? (Vo.called name) with
    | none =>
      rw [List.findIdx?_eq_none_iff] at hf ⊢
      intro x hx
      obtain ⟨j, hj, rfl⟩ := List.getElem_of_mem hx
      have := hf (vs[j]'(by omega)) (List.getElem_mem _)
      rw [h j _ _ (List.getElem?_eq_getElem hj) (List.getElem?_eq_getElem (by omega))]
      exact this
    | some i =>
      rw [List.findIdx?_eq_some_iff_getElem] at hf ⊢
      obtain ⟨hi, h1, h2⟩ := hf
      refine ⟨by omega, ?_, fun j hj => ?_⟩
      · rw [h i _ _ (List.getElem?_eq_getElem (by omega)) (List.getElem?_eq_getElem hi)]
        exact h1
      · rw [h j _ _ (List.getElem?_eq_getElem (by omega)) (List.getElem?_eq_getElem (by omega))]
        exact h2 j hj
  unfold idxV Vo.findI Vo.find
  rw [e]

set_option maxHeartbeats 1000000 in
theorem find_V (a b : Option Addr) (n c m d base : Nat) (rs : List Rw) (s : Vo.St) (name : ByteArray) (w : World) (hS : StW w base a n c b m d rs s) (hm : m ≤ 64) :
    Calls Tryz.prog 84 #[.agg #[.slice a n c, .slice b m d], .string name] w fun e w' => e = .returned (.int .i64 (Vo.findI s.vols name)) ∧ Below w.heap.size w w' := by
  have hB : Below w.heap.size w ((w.alloc (.cells #[.slice a n c, .slice b m d] 33)).alloc (.cells #[.string name] 9)) := ((Below.refl _ w).alloc (Nat.le_refl _) _).alloc (by rw [World.size_alloc]; omega) _
  have I1 := IndexFunc_V b m d base rs _ #[.pointer (some ⟨w.heap.size + 1, 0, none⟩)] (sameN name) ((w.alloc (.cells #[.slice a n c, .slice b m d] 33)).alloc (.cells #[.string name] 9)) (by omega) eg_vfind (own_keep hS.row hB) hS.rlen (pred_vfind _ (w.heap.size + 1) name (by rw [World.size_alloc, World.size_alloc]; omega) (by
    have h := cell_new (w.alloc (.cells #[.slice a n c, .slice b m d] 33)) (T := 9) (xs := #[.string name]) (k := 0) (v := .string name) rfl
    rw [World.size_alloc] at h
    exact h))
  rw [findI_rows (hS.rlen.trans hS.vlen.symm) (fun i r v hr hv => (hS.vol i r v hr hv).1)] at I1
  have HB := Lib.hid hB
  clear hB hS
  generalize Vo.findI s.vols name = r at *
  go_enter Tryz.func84, Tryz.ntmps84
  go_wp2_with fail
  with_reducible refine I1.mono ?_
  rintro e w' ⟨rfl, hb⟩
  go_wp2_with fail
  go_ret
  exact ⟨rfl, HB.out.trans (hb.mono HB.out.size)⟩

end Go.Proofs.YtenkdpogdfcbgaaGreat

/- The walk of slices.Delete of one volume. -/
namespace Go.Proofs.YtenkdpogdfcbgaaGreat
open Go.RowKit

theorem vol_ones (z : ByteArray) (a : Option Addr) (n c : Nat) : ∀ u ∈ [Value.string z, .slice a n c], u.oneCell' = true := by
  intro u hu
  simp at hu
  rcases hu with rfl | rfl <;> rfl

/-- 'clear' of one item. -/
theorem run_clear_vol (w : World) (ty : TypeId) (b o c : Nat) (h0 : ∀ j, j < 2 → (w.cell? ⟨b, o + j, none⟩).isSome = true) (f0 : ∀ j, j < 2 → w.frozen? ⟨b, o + j, none⟩ = false) :
    (Builtin.clear_ #[31] ty #[.slice (some ⟨b, o, none⟩) 1 c]).run Tryz.prog w = .ok (.tuple #[]) (w.setCells b o [.string ⟨#[]⟩, .slice none 0 0]) := by
  have hst := run_storeCells_cells (P := Tryz.prog) b o [.string ⟨#[]⟩, .slice none 0 0] 0 w (by
    intro j hj
    rw [Nat.add_zero]
    exact h0 j hj) (by
    intro j hj
    rw [Nat.add_zero]
    exact f0 j hj) (vol_ones ⟨#[]⟩ none 0 0)
  simp only [Nat.add_zero] at hst
  have hzc : (Builtin.zeroCells (Value.agg #[.string ⟨#[]⟩, .slice none 0 0]).cells 1).toList = [.string ⟨#[]⟩, .slice none 0 0] := by
    simp [Builtin.zeroCells, Value.cells, List.range_succ, Array.toList_map, Array.toList_range]
  simp [Builtin.clear_, run_underlying Tryz.underlying31, hzc, hst]

theorem rowIs_own2 {w : World} {base g n cap : Nat} {e : TypeId} {xs : List Value} (h : w.ownsRow base e 2 (.slice (some ⟨g, 0, none⟩) n cap) n xs) : ∃ f, w.rowIs g e (cap * 2) f ∧ (∀ j, j < n * 2 → xs[j]? = some (f j)) ∧ base ≤ g ∧ n ≤ cap ∧ cap ≤ maxLen := by
  rcases h.2 with ⟨h', _⟩ | ⟨g', cap', cur, h', hb, hg, hnc, hcm, hsz, htake⟩
  · cases h'
  · cases h'
    refine ⟨fun j => cur.getD j default, ⟨cur, hg, hsz, fun j hj => ?_⟩, fun j hj => ?_, hb, hnc, hcm⟩
    · simp [Array.getD, hsz, hj]
    · have hj2 : j < cur.size := by rw [hsz]; omega
      rw [← htake, List.getElem?_take, if_pos hj]
      simp [Array.getD, hj2]

theorem own_rowIs2 {w : World} {base g n cap : Nat} {e : TypeId} {xs : List Value} {f : Nat → Value} (h : w.rowIs g e (cap * 2) f) (hx : xs.length = n * 2) (hf : ∀ j, j < n * 2 → xs[j]? = some (f j)) (hb : base ≤ g) (hnc : n ≤ cap) (hcm : cap ≤ maxLen) : w.ownsRow base e 2 (.slice (some ⟨g, 0, none⟩) n cap) n xs := by
  obtain ⟨cur, hg, hsz, hc⟩ := h
  refine ⟨hx, Or.inr ⟨g, cap, cur, rfl, hb, hg, hnc, hcm, hsz, ?_⟩⟩
  apply List.ext_getElem?
  intro j
  by_cases hj : j < n * 2
  · rw [List.getElem?_take, if_pos hj, hf j hj, Array.getElem?_toList, hc j (by omega)]
  · rw [List.getElem?_eq_none (by rw [List.length_take]; omega), List.getElem?_eq_none (by omega)]

set_option maxRecDepth 100000 in
set_option maxHeartbeats 4000000 in
theorem Delete_V (g cap n i m base : Nat) (ts : List Rw) (w : World) (hown : w.ownsRow base 78 2 (.slice (some ⟨g, 0, none⟩) n cap) n (rv ts)) (hn : n = i + 1 + m) (_hn2 : n ≤ 1000000) :
    Calls Tryz.prog 86 #[.slice (some ⟨g, 0, none⟩) n cap, .int .i64 i, .int .i64 ((i : Int) + 1)] w fun e w' =>
      e = .returned (.slice (some ⟨g, 0, none⟩) (i + m) cap) ∧ w'.ownsRow base 78 2 (.slice (some ⟨g, 0, none⟩) (i + m) cap) (i + m) (rv (ts.take i ++ ts.drop (i + 1))) ∧ w.grownBy w' (some g) := by
  obtain ⟨i0, hi0, hz0, hz1, hz2⟩ := info_parts Tryz.infoVol
  obtain ⟨f, hrow, hf, hbg, hnc, hcm⟩ := rowIs_own2 hown
  have hlen : ts.length = n := by have := hown.1; rw [rv_length] at this; omega
  unfold maxLen at hcm
  obtain ⟨news, hnews⟩ : ∃ news, news = rv (ts.drop (i + 1)) := ⟨_, rfl⟩
  have hnl : news.length = m * 2 := by rw [hnews, rv_length, List.length_drop]; omega
  have hrowd : w.drew.rowIs g 78 (cap * 2) f := hrow
  have hcell : ∀ j, j < cap * 2 → w.drew.cell? ⟨g, j, none⟩ = some (f j) := fun j hj => by
    obtain ⟨cur, h1, h2, h3⟩ := hrow
    have := cell_of_row w g j cur _ (0, 0) h1
    show w.cell? _ = _
    rw [this, h3 j hj]
  have hfz : ∀ j, w.drew.frozen? ⟨g, j, none⟩ = false := fun j => hown.frozenAt j
  obtain ⟨A, hA, hsrc⟩ : ∃ A : Addr, (if cap = i + 1 then some (⟨g, 0, none⟩ : Addr) else some ⟨g, (i + 1) * 2, none⟩) = some A ∧ Hid (∀ t u, news[t]? = some u → w.drew.cell? (A.add t) = some u) := by
    by_cases h : cap = i + 1
    · refine ⟨⟨g, 0, none⟩, by simp [h], Lib.hid fun t u hu => ?_⟩
      have h0 : news.length = 0 := by rw [hnl]; omega
      rw [List.length_eq_zero_iff.1 h0] at hu
      simp at hu
    · refine ⟨⟨g, (i + 1) * 2, none⟩, by simp [h], Lib.hid fun t u hu => ?_⟩
      have ht : t < m * 2 := by
        have := (List.getElem?_eq_some_iff.1 hu).1
        rwa [hnl] at this
      rw [hnews, rv_drop, List.getElem?_drop, hf _ (by omega)] at hu
      rw [addr_lit, hcell _ (by omega)]
      exact hu
  have s1 : Hid (news.length = m * 2) := Lib.hid hnl
  have s2 : Hid (∀ u ∈ news, u.oneCell' = true) := Lib.hid (by rw [hnews]; exact rv_one _)
  have s3 : Hid (∀ t, t < news.length → (w.drew.cell? ⟨g, 0 + i * 2 + t, none⟩).isSome = true ∧ w.drew.frozen? ⟨g, 0 + i * 2 + t, none⟩ = false) := Lib.hid (by
    intro t ht
    rw [hnl] at ht
    rw [Nat.zero_add]
    exact ⟨by rw [hcell _ (by omega)]; rfl, hfz _⟩)
  obtain ⟨W1, hW1⟩ : ∃ W1, W1 = w.drew.setCells g (0 + i * 2) news := ⟨_, rfl⟩
  have hr1 := rowIs_setCells news (0 + i * 2) w.drew f hrowd
  rw [← hW1] at hr1
  have hcl : ∀ ty, (Builtin.clear_ #[31] ty #[.slice (some ⟨g, (i + m) * 2, none⟩) 1 (cap - (i + m))]).run Tryz.prog W1 = .ok (.tuple #[]) (W1.setCells g ((i + m) * 2) [.string ⟨#[]⟩, .slice none 0 0]) := fun ty => by
    obtain ⟨cur, h1, h2, h3⟩ := hr1
    exact run_clear_vol W1 ty g ((i + m) * 2) _ (fun j hj => by rw [cell_of_row W1 g _ cur _ (0, 0) h1, h3 _ (by omega)]; rfl) (fun j _ => by rw [hW1, World.frozen?_setCells]; exact hfz _)
  have hr2 := rowIs_setCells [.string ⟨#[]⟩, .slice none 0 0] ((i + m) * 2) W1 _ hr1
  have HF : Hid ((W1.setCells g ((i + m) * 2) [.string ⟨#[]⟩, .slice none 0 0]).ownsRow base 78 2 (.slice (some ⟨g, 0, none⟩) (i + m) cap) (i + m) (rv (ts.take i ++ ts.drop (i + 1))) ∧ w.grownBy (W1.setCells g ((i + m) * 2) [.string ⟨#[]⟩, .slice none 0 0]) (some g)) := Lib.hid ⟨own_rowIs2 hr2 (by rw [rv_length, List.length_append, List.length_take, List.length_drop]; omega) (fun j hj => by
      rw [if_neg (by omega)]
      rw [rv_app, ← hnews]
      have hl1 : (rv (ts.take i)).length = i * 2 := by rw [rv_length, List.length_take]; omega
      by_cases h : j < i * 2
      · rw [if_neg (by omega), List.getElem?_append_left (by omega), rv_take, List.getElem?_take, if_pos h, hf j (by omega)]
      · rw [if_pos (by omega), List.getElem?_append_right (by omega), hl1, Nat.zero_add, List.getElem?_eq_getElem (by omega)]
        simp) hbg (by omega) (by unfold maxLen; omega), by
      rw [hW1]
      exact ((below_grown (Below.refl _ w).drew (some g)).trans (setCells_grown _ g _ _)).trans (setCells_grown _ g _ _)⟩
  have hW : Hid (W1 = w.drew.setCells g (0 + i * 2) news) := Lib.hid hW1
  have hic : i ≤ cap := by omega
  have hjc : i + 1 ≤ cap := by omega
  have hmn : n - (i + 1) = m := by omega
  have h1n : n - (i + m) = 1 := by omega
  have hin : (i : Int) + 1 ≤ (n : Int) := by omega
  have h0i : (0 : Int) ≤ (i : Int) + 1 := by omega
  have hne : ((i : Int) == (i : Int) + 1) = false := beq_eq_false_iff_ne.2 (by omega)
  have him : (i : Int) + (m : Int) ≤ (n : Int) := by omega
  have t1 : ((i : Int) + 1).toNat = i + 1 := by omega
  have hcc : cap - (i + 1) + (i + 1) = cap := by omega
  clear hW1 hr1 hr2 hrow hrowd hcell hfz hnews hnl hf hown hlen hn
  go_enter Tryz.func86, Tryz.ntmps86
  go_wp2_with fail
  go_region_law (refine step_append_room rfl (.tmp 22) (.tmp 25) 31 rfl 78 i0 2 Tryz.underlying31 hi0 hz1 g 0 i cap (by simp [Act.eval, Act.put]) A m (cap - (i + 1)) news (by simp [Act.eval, Act.put]) s1.out hsrc.out s2.out (by omega) s3.out ?_; rw [← hW.out])
  go_wp2_with fail
  go_ret
  exact ⟨rfl, HF.out⟩

end Go.Proofs.YtenkdpogdfcbgaaGreat

/- The walk of slices.Insert at volumes. -/
namespace Go.Proofs.YtenkdpogdfcbgaaGreat
open Go.RowKit

section
variable {P : Program}
theorem run_copy_cells2 (w : World) (dT sT ty elem : TypeId) (b o dLen dCap : Nat) (a : Addr) (sLen sCap m : Nat) (cs : List Value)
    (hu : P.underlying dT = some (.slice elem)) (hs : (P.info? elem).map (·.size) = some 2) (hm : m = Nat.min sLen dLen) (hn : cs.length = m * 2)
    (hsrc : ∀ j v, cs[j]? = some v → w.cell? (a.add j) = some v) (hc : ∀ j, j < cs.length → (w.cell? ⟨b, o + j, none⟩).isSome = true) (hf : ∀ j, j < cs.length → w.frozen? ⟨b, o + j, none⟩ = false) (h1 : ∀ v ∈ cs, v.oneCell' = true) :
    (Builtin.copy_ #[dT, sT] ty #[.slice (some ⟨b, o, none⟩) dLen dCap, .slice (some a) sLen sCap]).run P w = .ok (goInt m) (w.setCells b o cs) := by
  have hl := run_loadCells_list (P := P) w a cs hsrc
  rw [hn] at hl
  have hst := run_storeCells_cells (P := P) b o cs 0 w (by simpa using hc) (by simpa using hf) h1
  cases hq : P.info? elem with
  | none => simp [hq] at hs
  | some i =>
    have hi : i.size = 2 := by simpa [hq] using hs
    simp [Builtin.copy_, run_underlying hu, Builtin.lenOf, Builtin.firstCells, sizeOf, typeInfo, hq, hi, ← hm, hl, hst]

end

set_option maxRecDepth 100000 in
set_option maxHeartbeats 8000000 in
/-- There is room. -/
theorem InsertV_room (g c n i base vb : Nat) (z : ByteArray) (va : Option Addr) (vn vc : Nat) (ts : List Rw) (w : World) (hown : w.ownsRow base 78 2 (.slice (some ⟨g, 0, none⟩) n c) n (rv ts)) (hi : i < n) (hn : n ≤ 64) (hroom : n + 1 ≤ c)
    (hvb : vb ≠ g) (hv : w.rowIs vb 78 2 (fun j => [Value.string z, .slice va vn vc].getD j (.string ⟨#[]⟩))) :
    Calls Tryz.prog 101 #[.slice (some ⟨g, 0, none⟩) n c, .int .i64 i, .slice (some ⟨vb, 0, none⟩) 1 1] w fun e w' =>
      ∃ a' c', e = .returned (.slice a' (n + 1) c') ∧ w'.ownsRow base 78 2 (.slice a' (n + 1) c') (n + 1) (rv (ts.take i ++ ⟨z, va, vn, vc⟩ :: ts.drop i)) ∧ w.grownBy w' (some g) ∧ (∀ j, (Value.slice a' (n + 1) c').ownBlock = some j → some g = some j ∨ j = w.heap.size) := by
  obtain ⟨f, hrow, hf, hbg, hnc, hcm⟩ := rowIs_own2 hown
  have hlen : ts.length = n := by have := hown.1; rw [rv_length] at this; omega
  unfold maxLen at hcm
  obtain ⟨i0, hi0, hz0, hz1, hz2⟩ := info_parts Tryz.infoVol
  have hsz : (Tryz.prog.info? 78).map (·.size) = some 2 := by rw [hi0]; simp [hz1]
  obtain ⟨D, hD⟩ : ∃ D, D = rv (ts.drop i) := ⟨_, rfl⟩
  have hDl : D.length = (n - i) * 2 := by rw [hD, rv_length, List.length_drop, hlen]
  have hD1 : ∀ u ∈ D, u.oneCell' = true := by rw [hD]; exact rv_one _
  have hDf : ∀ j u, D[j]? = some u → f (i * 2 + j) = u := fun j u hu => by
    have hj : j < (n - i) * 2 := by rw [← hDl]; exact (List.getElem?_eq_some_iff.1 hu).1
    rw [hD, rv_drop, List.getElem?_drop, hf _ (by omega)] at hu
    exact Option.some.inj hu
  have hov : ∀ lb cb, (callFunc 111 #[.slice (some ⟨vb, 0, none⟩) 1 1, .slice (some ⟨g, (i + 1) * 2, none⟩) lb cb]).run Tryz.prog w = .ok (.value (.bool false)) w := fun lb cb => by
    rw [run_callFunc_extern Tryz.func111 (by kernel_rfl) (by kernel_rfl) (by kernel_rfl) (e := Extern.SlicesOverlaps.overlaps #[31, 31] #[4]) (by kernel_rfl),
      Lib.run_overlaps_apart w 31 4 78 Tryz.underlying31 2 Tryz.sizeOf78 ⟨vb, 0, none⟩ ⟨g, (i + 1) * 2, none⟩ 1 1 lb cb hvb _ _ _ _ (rowIs_shape hv) (rowIs_shape hrow) (by omega) (rowIs_frozen hv _) (rowIs_frozen hv _)]
    rfl
  have hcp1 : ∀ ty dc sc, (Builtin.copy_ #[31, 31] ty #[.slice (some ⟨g, (i + 1) * 2, none⟩) (n - i) dc, .slice (some ⟨g, i * 2, none⟩) (n + 1 - i) sc]).run Tryz.prog w.drew = .ok (goInt ((n - i : Nat) : Int)) (w.drew.setCells g ((i + 1) * 2) D) := fun ty dc sc =>
    run_copy_cells2 w.drew _ _ ty 78 g ((i + 1) * 2) (n - i) dc ⟨g, i * 2, none⟩ (n + 1 - i) sc (n - i) D Tryz.underlying31 hsz (by simp only [Nat.min_def]; split <;> omega) hDl
      (fun j v hj => by rw [addr_lit, rowIs_cell (rowIs_drew hrow) (by have := (List.getElem?_eq_some_iff.1 hj).1; omega), hDf j v hj])
      (fun j hj => by rw [rowIs_cell (rowIs_drew hrow) (by omega)]; rfl) (fun j hj => rowIs_frozen (rowIs_drew hrow) _) hD1
  obtain ⟨W1, hW1⟩ : ∃ W1, W1 = w.drew.setCells g ((i + 1) * 2) D := ⟨_, rfl⟩
  have hr1 := rowIs_setCells D ((i + 1) * 2) w.drew f (rowIs_drew hrow)
  rw [← hW1] at hr1 hcp1
  have hvw : vb < w.heap.size := by
    obtain ⟨cur, h1, -⟩ := hv
    rcases Nat.lt_or_ge vb w.heap.size with h | h
    · exact h
    · rw [Array.getElem?_eq_none h] at h1; cases h1
  have hv1 : ∀ j, W1.cell? ⟨vb, j, none⟩ = w.cell? ⟨vb, j, none⟩ := fun j => by
    rw [hW1, World.cell?_setCells_out g _ _ _ _ (fun h _ => absurd h hvb)]
    rfl
  have hcp2 : ∀ (W : World), (∀ x, W.cell? x = W1.cell? x) → (∀ x, W.frozen? x = W1.frozen? x) → ∀ ty dc, (Builtin.copy_ #[31, 31] ty #[.slice (some ⟨g, i * 2, none⟩) (n + 1 - i) dc, .slice (some ⟨vb, 0, none⟩) 1 1]).run Tryz.prog W = .ok (goInt ((1 : Nat) : Int)) (W.setCells g (i * 2) [.string z, .slice va vn vc]) := fun W hWc hWf ty dc =>
    run_copy_cells2 W _ _ ty 78 g (i * 2) (n + 1 - i) dc ⟨vb, 0, none⟩ 1 1 1 [.string z, .slice va vn vc] Tryz.underlying31 hsz (by simp only [Nat.min_def]; split <;> omega) rfl
      (fun j v hj => by
        rw [addr_lit, Nat.zero_add, hWc, hv1]
        rcases j with _ | _ | j
        · rw [rowIs_cell hv (by omega)]; exact hj
        · rw [rowIs_cell hv (by omega)]; exact hj
        · simp at hj)
      (fun j hj => by
        have hj' : j < 2 := hj
        rw [hWc, rowIs_cell hr1 (by omega)]; rfl)
      (fun j hj => by rw [hWf]; exact rowIs_frozen hr1 _) (vol_ones z va vn vc)
  have hr2 := rowIs_setCells [.string z, .slice va vn vc] (i * 2) W1 _ hr1
  have HF : Hid ((W1.setCells g (i * 2) [.string z, .slice va vn vc]).ownsRow base 78 2 (.slice (some ⟨g, 0, none⟩) (n + 1) c) (n + 1) (rv (ts.take i ++ ⟨z, va, vn, vc⟩ :: ts.drop i)) ∧ w.grownBy (W1.setCells g (i * 2) [.string z, .slice va vn vc]) (some g)) := Lib.hid ⟨own_rowIs2 hr2 (by rw [rv_length, List.length_append, List.length_cons, List.length_take, List.length_drop]; omega) (fun j hj => by
      have hl1 : (rv (ts.take i)).length = i * 2 := by rw [rv_length, List.length_take]; omega
      rw [rv_app]
      by_cases h : j < i * 2
      · rw [List.getElem?_append_left (by omega), rv_take, List.getElem?_take, if_pos h, hf j (by omega)]
        rw [if_neg (by simp only [List.length_cons, List.length_nil]; omega), if_neg (by omega)]
      · rw [List.getElem?_append_right (by omega), hl1]
        rw [rv]
        by_cases h2 : j < i * 2 + 2
        · rw [if_pos ⟨by omega, by simp only [List.length_cons, List.length_nil]; omega⟩]
          obtain rfl | rfl : j = i * 2 ∨ j = i * 2 + 1 := by omega
          · rw [Nat.sub_self]; rfl
          · rw [show i * 2 + 1 - i * 2 = 1 by omega]; rfl
        · rw [if_neg (by simp only [List.length_cons, List.length_nil]; omega), if_pos (by omega)]
          obtain ⟨m, rfl⟩ : ∃ m, j = i * 2 + 2 + m := ⟨j - (i * 2 + 2), by omega⟩
          rw [show i * 2 + 2 + m - i * 2 = m + 2 by omega, show i * 2 + 2 + m - (i + 1) * 2 = m by omega]
          rw [List.getElem?_cons_succ, List.getElem?_cons_succ, ← hD, List.getElem?_eq_getElem (by omega)]
          simp) hbg hroom (by unfold maxLen; omega), by
      have h1 : w.grownBy w.drew (some g) := below_grown (Below.refl _ w).drew _
      rw [hW1]
      exact (h1.trans (setCells_grown _ g _ _)).trans (setCells_grown _ g _ _)⟩
  have HW := Lib.hid hW1
  have hz1 : ¬ ((i : Int) = (n : Int)) := by omega
  have hw1 : IntKind.i64.wrap ((i : Int) + 1) = (i : Int) + 1 := by rw [IntKind.wrap_i64]; omega
  have hb1 : (0 : Int) ≤ (i : Int) + 1 := by omega
  have hin : i ≤ n := by omega
  have htn : ((i : Int) + 1).toNat = i + 1 := by omega
  have hb2 : ¬ (c = i + 1) := by omega
  have hb3 : (i : Int) + 1 ≤ (n : Int) + 1 := by omega
  have hb4 : ¬ (c = i) := by omega
  have hb5 : (i : Int) ≤ (n : Int) + 1 := by omega
  have mixed : Tryz.prog.follows Departure.mixedOrders = true := by kernel_rfl
  clear hW1 hr1 hr2 hrow hv hv1 hvw hf hown hlen hD hDl hD1 hDf
  go_enter Tryz.func101, Tryz.ntmps101
  go_wp2_with (simp only [hov])
  go_region_law_o (refine step_copy_run2 rfl _ _ 31 31 rfl (.slice (some ⟨g, (i + 1) * 2, none⟩) (n - i) (c - (i + 1))) (.slice (some ⟨g, i * 2, none⟩) (n + 1 - i) (c - i)) (by simp [Act.eval, Act.put]) (by simp [Act.eval, Act.put]) (hcp1 _ _ _) ?_)
  go_wp2_with (at_builtin; refine wpList_copy_run2 _ rfl _ _ 31 31 rfl _ _ rfl rfl (hcp2 _ (fun _ => rfl) (fun _ => rfl) _ _) ?_)
  go_ret
  exact ⟨_, _, rfl, HF.out.1, HF.out.2, fun j hj => Or.inl hj⟩

set_option maxRecDepth 100000 in
set_option maxHeartbeats 8000000 in
/-- There is no room. -/
theorem InsertV_grow (g n i base vb : Nat) (z : ByteArray) (va : Option Addr) (vn vc : Nat) (ts : List Rw) (w : World) (hown : w.ownsRow base 78 2 (.slice (some ⟨g, 0, none⟩) n n) n (rv ts)) (hi : i < n) (hn : n ≤ 64) (hbw : base ≤ w.heap.size)
    (hv : w.rowIs vb 78 2 (fun j => [Value.string z, .slice va vn vc].getD j (.string ⟨#[]⟩))) :
    Calls Tryz.prog 101 #[.slice (some ⟨g, 0, none⟩) n n, .int .i64 i, .slice (some ⟨vb, 0, none⟩) 1 1] w fun e w' =>
      ∃ a' c', e = .returned (.slice a' (n + 1) c') ∧ w'.ownsRow base 78 2 (.slice a' (n + 1) c') (n + 1) (rv (ts.take i ++ ⟨z, va, vn, vc⟩ :: ts.drop i)) ∧ w.grownBy w' (some g) ∧ (∀ j, (Value.slice a' (n + 1) c').ownBlock = some j → some g = some j ∨ j = w.heap.size) := by
  obtain ⟨f, hrow, hf, hbg, hnc, hcm⟩ := rowIs_own2 hown
  have hlen : ts.length = n := by have := hown.1; rw [rv_length] at this; omega
  unfold maxLen at hcm
  obtain ⟨i0, hi0, hz0, hz1, hz2⟩ := info_parts Tryz.infoVol
  have hsz : (Tryz.prog.info? 78).map (·.size) = some 2 := by rw [hi0]; simp [hz1]
  have hgw : g < w.heap.size := own_block_lt hown g rfl
  obtain ⟨D, hD⟩ : ∃ D, D = rv (ts.drop i) := ⟨_, rfl⟩
  have hDl : D.length = (n - i) * 2 := by rw [hD, rv_length, List.length_drop, hlen]
  have hD1 : ∀ u ∈ D, u.oneCell' = true := by rw [hD]; exact rv_one _
  have hDf : ∀ j u, D[j]? = some u → f (i * 2 + j) = u := fun j u hu => by
    have hj : j < (n - i) * 2 := by rw [← hDl]; exact (List.getElem?_eq_some_iff.1 hu).1
    rw [hD, rv_drop, List.getElem?_drop, hf _ (by omega)] at hu
    exact Option.some.inj hu
  have hvw : vb < w.heap.size := by
    obtain ⟨cur, h1, -⟩ := hv
    rcases Nat.lt_or_ge vb w.heap.size with h | h
    · exact h
    · rw [Array.getElem?_eq_none h] at h1; cases h1
  have hTl : (rv (ts.take i)).length = i * 2 := by rw [rv_length, List.length_take]; omega
  have hold : (Builtin.firstCells i0.size i (.slice (some ⟨g, 0, none⟩) i n)).run Tryz.prog w.drew = .ok (rv (ts.take i)).toArray w.drew := by
    rw [hz1]
    refine run_firstCells_some w.drew 2 i ⟨g, 0, none⟩ i n (rv (ts.take i)) hTl (fun j v hj => ?_)
    have hj2 : j < i * 2 := by rw [← hTl]; exact (List.getElem?_eq_some_iff.1 hj).1
    rw [addr_lit, Nat.zero_add, rowIs_cell (rowIs_drew hrow) (by omega)]
    rw [rv_take, List.getElem?_take, if_pos hj2, hf j (by omega)] at hj
    exact hj
  obtain ⟨G, hG⟩ : ∃ G, G = grownCap w (n + 1) n 78 := ⟨_, rfl⟩
  have hGn : n + 1 ≤ G := by rw [hG]; exact grownCap_ge w _ _ _
  have hG63 : G ≤ maxLen := by rw [hG]; exact grownCap_le_maxLen w (n + 1) n 78 (by unfold maxLen; omega)
  obtain ⟨ROW, hROW⟩ : ∃ ROW : Array Value, ROW = (rv (ts.take i)).toArray ++ Builtin.zeroCells (Value.agg #[.string ⟨#[]⟩, .slice none 0 0]).cells (n + 1 - i) ++ Builtin.zeroCells (Value.agg #[.string ⟨#[]⟩, .slice none 0 0]).cells (G - (n + 1)) := ⟨_, rfl⟩
  have hrz : ∀ ty, (Builtin.append_ #[31, 3] ty #[.slice (some ⟨g, 0, none⟩) i n, .int .i64 ((n : Int) + 1 - (i : Int))]).run Tryz.prog w =
      .ok (.slice (some ⟨w.heap.size, 0, none⟩) (n + 1) G) (w.drew.alloc (.cells ROW 78)) := fun ty => by
    have h := Lib.run_append_grow_zeros w 31 3 ty 78 i0 _ .i64 .i64 Tryz.underlying31 Tryz.underlying3 hi0 hz0 (some ⟨g, 0, none⟩) i n (rv (ts.take i)) hold (n + 1 - i) (by omega) (by omega) (by omega) (by omega) (by rw [hz2]; omega) (by
      rw [hz2, show i + (n + 1 - i) = n + 1 by omega]
      exact growslice_fits (by omega) (by omega))
    rw [show i + (n + 1 - i) = n + 1 by omega, ← hG, ← hROW] at h
    rw [show (n : Int) + 1 - (i : Int) = ((n + 1 - i : Nat) : Int) by omega]
    exact h
  have hRs : ROW.size = G * 2 := by
    rw [hROW, Array.size_append, Array.size_append, size_zeroCells, size_zeroCells, List.size_toArray, hTl]
    show i * 2 + (n + 1 - i) * 2 + (G - (n + 1)) * 2 = G * 2
    omega
  have hRt : ∀ j, j < i * 2 → ROW.getD j default = f j := fun j hj => by
    have h1 : ROW[j]? = (rv (ts.take i))[j]? := by
      rw [hROW, Array.getElem?_append_left (by rw [Array.size_append, size_zeroCells, List.size_toArray, hTl]; omega), Array.getElem?_append_left (by rw [List.size_toArray, hTl]; exact hj), List.getElem?_toArray]
    rw [rv_take, List.getElem?_take, if_pos hj, hf j (by omega)] at h1
    rw [Array.getD_eq_getD_getElem?, h1]
    rfl
  obtain ⟨W1, hW1⟩ : ∃ W1, W1 = w.drew.alloc (.cells ROW 78) := ⟨_, rfl⟩
  obtain ⟨N, hN⟩ : ∃ N, N = w.heap.size := ⟨_, rfl⟩
  have hrow1 : W1.rowIs N 78 (G * 2) (fun j => ROW.getD j default) := ⟨ROW, by
    rw [hW1, hN]
    show (w.heap.push _)[w.heap.size]? = _
    rw [Array.getElem?_push, if_pos rfl], hRs, fun j hj => by
      show ROW[j]? = some (ROW.getD j default)
      rw [Array.getD_eq_getD_getElem?, Array.getElem?_eq_getElem (by omega)]
      rfl⟩
  have hold1 : ∀ b j, b < N → W1.cell? ⟨b, j, none⟩ = w.cell? ⟨b, j, none⟩ := fun b j hb => by
    rw [hW1, World.cell?_alloc_past _ _ _ (by show b < w.heap.size; omega)]
    rfl
  have hgr1 : w.grownBy W1 (some g) := by
    rw [hW1]
    exact below_grown (((Below.refl _ w).drew).alloc (Nat.le_refl _) _) _
  have hcpA : ∀ (W : World), (∀ x, W.cell? x = W1.cell? x) → (∀ x, W.frozen? x = W1.frozen? x) → ∀ ty dc, (Builtin.copy_ #[31, 31] ty #[.slice (some ⟨N, i * 2, none⟩) (n + 1 - i) dc, .slice (some ⟨vb, 0, none⟩) 1 1]).run Tryz.prog W = .ok (goInt ((1 : Nat) : Int)) (W.setCells N (i * 2) [.string z, .slice va vn vc]) := fun W hWc hWf ty dc =>
    run_copy_cells2 W _ _ ty 78 N (i * 2) (n + 1 - i) dc ⟨vb, 0, none⟩ 1 1 1 [.string z, .slice va vn vc] Tryz.underlying31 hsz (by simp only [Nat.min_def]; split <;> omega) rfl
      (fun j v hj => by
        rw [addr_lit, Nat.zero_add, hWc, hold1 _ _ (by omega)]
        rcases j with _ | _ | j
        · rw [rowIs_cell hv (by omega)]; exact hj
        · rw [rowIs_cell hv (by omega)]; exact hj
        · simp at hj)
      (fun j hj => by
        have hj' : j < 2 := hj
        rw [hWc, rowIs_cell hrow1 (by omega)]; rfl)
      (fun j hj => by rw [hWf]; exact rowIs_frozen hrow1 _) (vol_ones z va vn vc)
  have hr2 := rowIs_setCells [.string z, .slice va vn vc] (i * 2) W1 _ hrow1
  obtain ⟨W2, hW2⟩ : ∃ W2, W2 = W1.setCells N (i * 2) [.string z, .slice va vn vc] := ⟨_, rfl⟩
  rw [← hW2] at hr2
  have hcpB : ∀ (W : World), (∀ x, W.cell? x = W2.cell? x) → (∀ x, W.frozen? x = W2.frozen? x) → ∀ ty dc sc, (Builtin.copy_ #[31, 31] ty #[.slice (some ⟨N, (i + 1) * 2, none⟩) (n - i) dc, .slice (some ⟨g, i * 2, none⟩) (n - i) sc]).run Tryz.prog W = .ok (goInt ((n - i : Nat) : Int)) (W.setCells N ((i + 1) * 2) D) := fun W hWc hWf ty dc sc =>
    run_copy_cells2 W _ _ ty 78 N ((i + 1) * 2) (n - i) dc ⟨g, i * 2, none⟩ (n - i) sc (n - i) D Tryz.underlying31 hsz (by simp only [Nat.min_def]; split <;> omega) hDl
      (fun j v hj => by
        rw [addr_lit, hWc, hW2, World.cell?_setCells_out N _ _ _ _ (fun h _ => by have h' : g = N := h; omega), hold1 _ _ (by omega), rowIs_cell hrow (by have := (List.getElem?_eq_some_iff.1 hj).1; omega), hDf j v hj])
      (fun j hj => by rw [hWc, rowIs_cell hr2 (by omega)]; rfl) (fun j hj => by rw [hWf]; exact rowIs_frozen hr2 _) hD1
  have hr3 := rowIs_setCells D ((i + 1) * 2) W2.drew _ (rowIs_drew hr2)
  obtain ⟨W3, hW3⟩ : ∃ W3, W3 = W2.drew.setCells N ((i + 1) * 2) D := ⟨_, rfl⟩
  rw [← hW3] at hr3
  have hgN : some g ≠ some N := by intro e; cases e; omega
  have HF : Hid (W3.ownsRow base 78 2 (.slice (some ⟨N, 0, none⟩) (n + 1) G) (n + 1) (rv (ts.take i ++ ⟨z, va, vn, vc⟩ :: ts.drop i)) ∧ w.grownBy W3 (some g)) := Lib.hid ⟨own_rowIs2 hr3 (by rw [rv_length, List.length_append, List.length_cons, List.length_take, List.length_drop]; omega) (fun j hj => by
      rw [rv_app]
      by_cases h : j < i * 2
      · rw [List.getElem?_append_left (by omega), rv_take, List.getElem?_take, if_pos h, hf j (by omega)]
        rw [if_neg (by omega), if_neg (by omega), hRt j h]
      · rw [List.getElem?_append_right (by omega), hTl]
        rw [rv]
        by_cases h2 : j < i * 2 + 2
        · rw [if_neg (by omega), if_pos ⟨by omega, by simp only [List.length_cons, List.length_nil]; omega⟩]
          obtain rfl | rfl : j = i * 2 ∨ j = i * 2 + 1 := by omega
          · rw [Nat.sub_self]; rfl
          · rw [show i * 2 + 1 - i * 2 = 1 by omega]; rfl
        · rw [if_pos (by omega)]
          obtain ⟨m, rfl⟩ : ∃ m, j = i * 2 + 2 + m := ⟨j - (i * 2 + 2), by omega⟩
          rw [show i * 2 + 2 + m - i * 2 = m + 2 by omega, show i * 2 + 2 + m - (i + 1) * 2 = m by omega]
          rw [List.getElem?_cons_succ, List.getElem?_cons_succ, ← hD, List.getElem?_eq_getElem (by omega)]
          simp) (by omega) hGn hG63, by
      rw [hW3, hW2]
      have h1 := setCells_grown W1 N [.string z, .slice va vn vc] (i * 2)
      have h2 := (h1.trans (below_grown (Below.refl _ _).drew _)).trans (setCells_grown _ N D ((i + 1) * 2))
      refine ⟨h2.os.trans hgr1.os, h2.tape.trans hgr1.tape, h2.output.trans hgr1.output, Nat.le_trans hgr1.size h2.size, fun b hb hne => ?_⟩
      rw [h2.block b (Nat.lt_of_lt_of_le hb hgr1.size) (by intro e; cases e; omega)]
      exact hgr1.block b hb hne⟩
  have hz1' : ¬ ((i : Int) = (n : Int)) := by omega
  have hw1 : IntKind.i64.wrap ((i : Int) + 1) = (i : Int) + 1 := by rw [IntKind.wrap_i64]; omega
  have hb1 : (0 : Int) ≤ (i : Int) + 1 := by omega
  have hin : i ≤ n := by omega
  have htn : ((i : Int) + 1).toNat = i + 1 := by omega
  have hb2 : ¬ (G = i + 1) := by omega
  have hb3 : (i : Int) + 1 ≤ (n : Int) + 1 := by omega
  have hb4 : ¬ (G = i) := by omega
  have hb5 : (i : Int) ≤ (n : Int) + 1 := by omega
  have hb6 : ¬ (n = i) := by omega
  have hb7 : (i : Int) ≤ (n : Int) := by omega
  have mixed : Tryz.prog.follows Departure.mixedOrders = true := by kernel_rfl
  have HW1 : Hid (W1 = w.drew.alloc (.cells ROW 78) ∧ W2 = W1.setCells N (i * 2) [.string z, .slice va vn vc] ∧ W3 = W2.drew.setCells N ((i + 1) * 2) D) := Lib.hid ⟨hW1, hW2, hW3⟩
  rw [← hW1] at hrz
  subst hN
  clear hW1 hW2 hW3 hr2 hr3 hrow1 hrow hv hold1 hold hvw hf hown hlen hD hDl hD1 hDf hROW hRs hRt hG hTl hgr1 hgN
  go_enter Tryz.func101, Tryz.ntmps101
  go_wp2_with (first
    | (at_builtin; refine Lib.wpList_append_run _ rfl _ _ _ _ rfl _ _ rfl rfl _ _ (hrz _) ?_)
    | (at_builtin; refine wpList_copy_run2 _ rfl _ _ 31 31 rfl _ _ rfl rfl (hcpA _ (fun _ => rfl) (fun _ => rfl) _ _) ?_))
  go_region_law_o (refine step_copy_run2 rfl _ _ 31 31 rfl (.slice (some ⟨w.heap.size, (i + 1) * 2, none⟩) (n - i) (G - (i + 1))) (.slice (some ⟨g, i * 2, none⟩) (n - i) (n - i)) (by simp [Act.eval, Act.put]) (by simp [Act.eval, Act.put]) (hcpB _ (fun _ => by rw [HW1.out.2.1]; rfl) (fun _ => by rw [HW1.out.2.1]; rfl) _ _ _) ?_)
  go_wp2_with fail
  go_ret
  obtain ⟨h1, h2, h3⟩ := HW1.out
  refine ⟨_, _, rfl, ?_⟩
  have h := HF.out
  rw [h3, h2] at h
  exact ⟨h.1, h.2, fun j hj => Or.inr (Option.some.inj hj).symm⟩

set_option maxRecDepth 100000 in
set_option maxHeartbeats 8000000 in
/-- At the end. -/
theorem InsertV_end (a : Option Addr) (n c base vb : Nat) (z : ByteArray) (va : Option Addr) (vn vc : Nat) (ts : List Rw) (w : World) (hown : w.ownsRow base 78 2 (.slice a n c) n (rv ts)) (hn : n ≤ 64) (hbw : base ≤ w.heap.size)
    (hv : w.rowIs vb 78 2 (fun j => [Value.string z, .slice va vn vc].getD j (.string ⟨#[]⟩))) :
    Calls Tryz.prog 101 #[.slice a n c, .int .i64 n, .slice (some ⟨vb, 0, none⟩) 1 1] w fun e w' =>
      ∃ a' c', e = .returned (.slice a' (n + 1) c') ∧ w'.ownsRow base 78 2 (.slice a' (n + 1) c') (n + 1) (rv (ts ++ [⟨z, va, vn, vc⟩])) ∧ w.grownBy w' (Value.slice a n c).ownBlock ∧ (∀ j, (Value.slice a' (n + 1) c').ownBlock = some j → (Value.slice a n c).ownBlock = some j ∨ j = w.heap.size) := by
  obtain ⟨i0, hi, hz0, hz1, hz2⟩ := info_parts Tryz.infoVol
  have HO := Lib.hid hown
  have hlen : ts.length = n := by have := hown.1; rw [rv_length] at this; omega
  have H3 : Hid (∀ j u, [Value.string z, .slice va vn vc][j]? = some u → w.cell? ((⟨vb, 0, none⟩ : Addr).add j) = some u) := Lib.hid fun j u hj => by
    rw [addr_lit, Nat.zero_add]
    rcases j with _ | _ | j
    · rw [rowIs_cell hv (by omega)]; exact hj
    · rw [rowIs_cell hv (by omega)]; exact hj
    · simp at hj
  have H5 : Hid (n + 1 ≤ maxLen ∧ (n + 1) * 40 ≤ 140737488355328) := Lib.hid ⟨by unfold maxLen; omega, by omega⟩
  have HS := Lib.hid hbw
  have HLL := Lib.hid hlen
  have hnc : n ≤ c := by
    exact (own_cap hown).1
  clear hown hv hbw hlen
  go_enter Tryz.func101, Tryz.ntmps101
  cases a with
  | none =>
    go_wp2_with (at_builtin; refine wpList_append_lies _ rfl _ _ _ rfl base 78 i0 (.agg #[.string ⟨#[]⟩, .slice none 0 0]) 2 40 Tryz.underlying31 hi hz0 hz1 hz2 rfl (by decide) _ n (rv ts) rfl HO.out ⟨vb, 0, none⟩ 1 1 [.string z, .slice va vn vc] rfl rfl H3.out (vol_ones z va vn vc) (by decide) H5.out.1 H5.out.2 HS.out _ rfl ?_)
    all_goals
      intro g' cap' w' q1 q2 q3 _
      have HF := Lib.hid q1
      have HG := Lib.hid q2
      have HK := Lib.hid q3
      clear q1 q2 q3
      go_wp2_with fail
      go_ret
      exact ⟨_, _, rfl, by rw [rv_app]; exact HF.out, HG.out, fun j hj => by
        obtain rfl : g' = j := Option.some.inj hj
        exact HK.out⟩
  | some x0 =>
    obtain ⟨g, o, zz⟩ := x0
    go_wp2_with (at_builtin; refine wpList_append_lies _ rfl _ _ _ rfl base 78 i0 (.agg #[.string ⟨#[]⟩, .slice none 0 0]) 2 40 Tryz.underlying31 hi hz0 hz1 hz2 rfl (by decide) _ n (rv ts) rfl HO.out ⟨vb, 0, none⟩ 1 1 [.string z, .slice va vn vc] rfl rfl H3.out (vol_ones z va vn vc) (by decide) H5.out.1 H5.out.2 HS.out _ rfl ?_)
    all_goals
      intro g' cap' w' q1 q2 q3 _
      have HF := Lib.hid q1
      have HG := Lib.hid q2
      have HK := Lib.hid q3
      clear q1 q2 q3
      go_wp2_with fail
      go_ret
      exact ⟨_, _, rfl, by rw [rv_app]; exact HF.out, HG.out, fun j hj => by
        obtain rfl : g' = j := Option.some.inj hj
        exact HK.out⟩

theorem Insert_V (a : Option Addr) (n c i base vb : Nat) (z : ByteArray) (va : Option Addr) (vn vc : Nat) (ts : List Rw) (w : World) (hown : w.ownsRow base 78 2 (.slice a n c) n (rv ts)) (hi : i ≤ n) (hn : n ≤ 64) (hbw : base ≤ w.heap.size)
    (hvb : ∀ k, (Value.slice a n c).ownBlock = some k → vb ≠ k) (hv : w.rowIs vb 78 2 (fun j => [Value.string z, .slice va vn vc].getD j (.string ⟨#[]⟩))) :
    Calls Tryz.prog 101 #[.slice a n c, .int .i64 i, .slice (some ⟨vb, 0, none⟩) 1 1] w fun e w' =>
      ∃ a' c', e = .returned (.slice a' (n + 1) c') ∧ w'.ownsRow base 78 2 (.slice a' (n + 1) c') (n + 1) (rv (ts.take i ++ ⟨z, va, vn, vc⟩ :: ts.drop i)) ∧ w.grownBy w' (Value.slice a n c).ownBlock ∧ (∀ j, (Value.slice a' (n + 1) c').ownBlock = some j → (Value.slice a n c).ownBlock = some j ∨ j = w.heap.size) := by
  have hlen : ts.length = n := by have := hown.1; rw [rv_length] at this; omega
  by_cases h : i = n
  · subst h
    have := InsertV_end a i c base vb z va vn vc ts w hown hn hbw hv
    rw [List.take_of_length_le (by omega), List.drop_of_length_le (by omega)]
    exact this
  · obtain ⟨g, rfl⟩ : ∃ g, a = some ⟨g, 0, none⟩ := by
      rcases hown.2 with ⟨-, h0⟩ | ⟨g, cap', cur, h, -⟩
      · omega
      · cases h; exact ⟨g, rfl⟩
    obtain ⟨f, -, -, -, hnc, -⟩ := rowIs_own2 hown
    by_cases hc : n + 1 ≤ c
    · exact InsertV_room g c n i base vb z va vn vc ts w hown (by omega) hn hc (hvb g rfl) hv
    · obtain rfl : c = n := by omega
      exact InsertV_grow g c i base vb z va vn vc ts w hown (by omega) hn hbw hv

end Go.Proofs.YtenkdpogdfcbgaaGreat

/- The walks of vol.add's order and of slices.BinarySearchFunc at volumes. -/
namespace Go.Proofs.YtenkdpogdfcbgaaGreat
open Go.RowKit

set_option maxHeartbeats 1000000 in
theorem cmpV_I (z z' : ByteArray) (va va' : Option Addr) (vn vc vn' vc' : Nat) (w : World) :
    Calls Tryz.prog 99 #[.agg #[.string z, .slice va vn vc], .agg #[.string z', .slice va' vn' vc']] w fun e w' => e = .returned (.int .i64 (Vo.cmpN z z')) ∧ Below w.heap.size w w' := by
  have HB : Hid (Below w.heap.size w ((w.alloc (.cells #[.string z, .slice va vn vc] 78)).alloc (.cells #[.string z', .slice va' vn' vc'] 78))) :=
    Lib.hid (((Below.refl _ w).alloc (Nat.le_refl _) _).alloc (by rw [World.size_alloc]; omega) _)
  have HC := fun w => Tryz.strings_Compare z z' w
  unfold Vo.cmpN
  go_enter Tryz.func99, Tryz.ntmps99
  go_wp2_with fail
  with_reducible refine (HC _).mono ?_
  rintro e w' ⟨rfl, rfl⟩
  go_wp2_with fail
  go_ret
  exact ⟨rfl, HB.out⟩

/-- Cells of a box of the call's own, and of a volume; what stands below. -/
abbrev S4 (w : World) (B b o : Nat) (v0 v1 u0 u1 : Value) (V : World) : Prop :=
  V.cell? ⟨B, 0, none⟩ = some v0 ∧ V.cell? ⟨B, 1, none⟩ = some v1 ∧ V.cell? ⟨b, o, none⟩ = some u0 ∧ V.cell? ⟨b, o + 1, none⟩ = some u1 ∧ Below w.heap.size w V

theorem S4.on {w : World} {B b o : Nat} {v0 v1 u0 u1 : Value} {V V' : World} (h : S4 w B b o v0 v1 u0 u1 V) (hb : Below V.heap.size V V') : S4 w B b o v0 v1 u0 u1 V' := by
  obtain ⟨a0, a1, b0, b1, hB⟩ := h
  have k : ∀ {p : Addr} {x : Value}, V.cell? p = some x → V'.cell? p = some x := fun h => by rw [hb.cell (World.block_lt_of_cell? V _ h)]; exact h
  exact ⟨k a0, k a1, k b0, k b1, hB.trans (hb.mono hB.size)⟩

theorem S4.drew {w : World} {B b o : Nat} {v0 v1 u0 u1 : Value} {V : World} (h : S4 w B b o v0 v1 u0 u1 V) : S4 w B b o v0 v1 u0 u1 V.drew := h.on (Below.refl _ V).drew

set_option maxRecDepth 100000 in
set_option maxHeartbeats 4000000 in
theorem Search_V (z : ByteArray) (va : Option Addr) (vn vc : Nat) (a : Option Addr) (n c base : Nat) (rs : List Rw) (w : World) (hT : w.ownsRow base 78 2 (.slice a n c) n (rv rs)) (hl : rs.length = n) (hn : n ≤ 64) (hi : rs.Pairwise fun s t => Vo.cmpN s.name t.name < 0) :
    Calls Tryz.prog 98 #[.slice a n c, .agg #[.string z, .slice va vn vc], .func (.func 99) #[] #[]] w fun e w' =>
      ∃ (k : Nat) (b : Bool), e = .returned (.tuple #[.int .i64 k, .bool b]) ∧ k ≤ n ∧ (∀ m (hm : m < rs.length), m < k → Vo.cmpN rs[m].name z < 0) ∧ (∀ m (hm : m < rs.length), k ≤ m → 0 ≤ Vo.cmpN rs[m].name z) ∧ Below w.heap.size w w' := by
  have HT := Lib.hid hT; have HI := Lib.hid hi; have HLN := Lib.hid hl
  have hB0 : Below w.heap.size w (w.alloc (.cells #[.string z, .slice va vn vc] 78)) := (Below.refl _ w).alloc (Nat.le_refl _) _
  have HB0 := Lib.hid hB0
  have HN : Hid (∀ V, Below (w.alloc (.cells #[.string z, .slice va vn vc] 78)).heap.size (w.alloc (.cells #[.string z, .slice va vn vc] 78)) V → V.cell? ⟨w.heap.size, 0, none⟩ = some (.string z) ∧ V.cell? ⟨w.heap.size, 1, none⟩ = some (.slice va vn vc)) := Lib.hid fun V hb => by
    have k : ∀ {p : Addr} {v : Value}, (w.alloc (.cells #[.string z, .slice va vn vc] 78)).cell? p = some v → V.cell? p = some v := fun h => by rw [hb.cell (World.block_lt_of_cell? _ _ h)]; exact h
    exact ⟨k (cell_new w (k := 0) rfl), k (cell_new w (k := 1) rfl)⟩
  clear hT hi hB0 hl
  go_enter Tryz.func98, Tryz.ntmps98
  go_wp2_with fail
  go_loopw [9, 10] (fun vi vj wr => ∃ i j : Nat, i ≤ j ∧ j ≤ n ∧ vi = .int .i64 i ∧ vj = .int .i64 j ∧ Hid (∀ m (hm : m < rs.length), m < i → Vo.cmpN rs[m].name z < 0) ∧ Hid (∀ m (hm : m < rs.length), j ≤ m → 0 ≤ Vo.cmpN rs[m].name z) ∧ Hid (Below (w.alloc (.cells #[.string z, .slice va vn vc] 78)).heap.size (w.alloc (.cells #[.string z, .slice va vn vc] 78)) wr)) (fun vi vj _ => (intOf vj).toNat - (intOf vi).toNat)
  case atStart => exact ⟨0, n, Nat.zero_le _, Nat.le_refl _, rfl, rfl, Lib.hid fun m hm h => absurd h (Nat.not_lt_zero _), Lib.hid fun m hm h => absurd hm (by rw [HLN.out]; omega), Lib.hid (Below.refl _ _)⟩
  case round =>
    obtain ⟨i, j, hij, hj, rfl, rfl, hA, hC, hB⟩ := hrel
    have BW := Lib.hid (HB0.out.trans (hB.out.mono HB0.out.size))
    obtain ⟨k0, k1⟩ := HN.out wr hB.out
    by_cases hlt : i < j
    · obtain ⟨h, hh⟩ : ∃ h, (i + j) / 2 = h := ⟨_, rfl⟩
      have h1 : i ≤ h := by omega
      have h2 : h < j := by omega
      have hk' : h < rs.length := by rw [HLN.out]; omega
      obtain ⟨X, rfl, hX, c1, c2⟩ := rv_at (own_keep HT.out BW.out) hk'
      have K1 := fun w => cmpV_I rs[h].name z rs[h].a va rs[h].n rs[h].c vn vc w
      have eh : ((i : Int) + (j : Int)) / 2 = (h : Int) := by omega
      have HL : Hid (Vo.cmpN rs[h].name z < 0 → ∀ m (hm : m < rs.length), m < h + 1 → Vo.cmpN rs[m].name z < 0) := Lib.hid fun hlt m hm hmh => by
        by_cases e : m = h
        · subst e; exact hlt
        · exact Vo.cmp_trans ((List.pairwise_iff_getElem.1 HI.out) m h hm hk' (by omega)) hlt
      have HR : Hid (0 ≤ Vo.cmpN rs[h].name z → ∀ m (hm : m < rs.length), h ≤ m → 0 ≤ Vo.cmpN rs[m].name z) := Lib.hid fun hge m hm hmh => by
        by_cases e : m = h
        · subst e; exact hge
        · have h7 := (List.pairwise_iff_getElem.1 HI.out) h m hk' hm (by omega)
          rcases Int.lt_or_le (Vo.cmpN rs[m].name z) 0 with h9 | h9
          · have := Vo.cmp_trans h7 h9; omega
          · exact h9
      clear hh
      generalize rs[h].name = f1 at *
      generalize rs[h].a = f2 at *
      generalize rs[h].n = f3 at *
      generalize rs[h].c = f4 at *
      generalize Vo.cmpN f1 z = d at *
      have HS : Hid (S4 w w.heap.size X (h * 2) (.string z) (.slice va vn vc) (.string f1) (.slice f2 f3 f4) wr) := Lib.hid ⟨k0, k1, c1, c2, BW.out⟩
      have e1 : (0 : Int) ≤ (h : Int) := by omega
      have e2 : (h : Int) < (n : Int) := by omega
      have e3 : h < n := by omega
      by_cases hp : d < 0
      · have HL' := Lib.hid (HL.out hp)
        clear HL HR
        go_wp2_with fail
        go_region_held3 (fun V => V.cell? ⟨w.heap.size, 0, none⟩ = some (.string z) ∧ V.cell? ⟨w.heap.size, 1, none⟩ = some (.slice va vn vc) ∧ V.cell? ⟨X, h * 2, none⟩ = some (.string f1) ∧ V.cell? ⟨X, h * 2 + 1, none⟩ = some (.slice f2 f3 f4) ∧ Below w.heap.size w V)
          (first | with_reducible exact HSS.out | with_reducible exact S4.drew HS.out | with_reducible exact HS.out)
          ((go_at_call 99; with_reducible refine (K1 _).mono ?_; rintro e ws ⟨rfl, hbs⟩; have HSS := Lib.hid (S4.on (S4.drew HS.out) hbs)))
        have HB' := Lib.hid (hB.out.trans ((show Below wr.heap.size wr ws from (Below.refl _ wr).drew.trans hbs).mono hB.out.size))
        clear hbs K1
        go_wp2_with fail
        go_roundw
        case rel => exact ⟨h + 1, j, h2, hj, by go_num, rfl, HL', hC, HB'⟩
        case measure => simp [intOf]; omega
      · have hd : 0 ≤ d := by omega
        have HR' := Lib.hid (HR.out (by omega))
        clear HL HR hp
        go_wp2_with fail
        go_region_held3 (fun V => V.cell? ⟨w.heap.size, 0, none⟩ = some (.string z) ∧ V.cell? ⟨w.heap.size, 1, none⟩ = some (.slice va vn vc) ∧ V.cell? ⟨X, h * 2, none⟩ = some (.string f1) ∧ V.cell? ⟨X, h * 2 + 1, none⟩ = some (.slice f2 f3 f4) ∧ Below w.heap.size w V)
          (first | with_reducible exact HSS.out | with_reducible exact S4.drew HS.out | with_reducible exact HS.out)
          ((go_at_call 99; with_reducible refine (K1 _).mono ?_; rintro e ws ⟨rfl, hbs⟩; have HSS := Lib.hid (S4.on (S4.drew HS.out) hbs)))
        have HB' := Lib.hid (hB.out.trans ((show Below wr.heap.size wr ws from (Below.refl _ wr).drew.trans hbs).mono hB.out.size))
        clear hbs K1
        go_wp2_with fail
        go_roundw
        case rel => exact ⟨i, h, h1, by omega, rfl, rfl, hA, HR', HB'⟩
        case measure => simp [intOf]; omega
    · obtain rfl : i = j := by omega
      by_cases hin : i < n
      · have hk' : i < rs.length := by rw [HLN.out]; omega
        obtain ⟨X, rfl, hX, c1, c2⟩ := rv_at (own_keep HT.out BW.out) hk'
        have K1 := fun w => cmpV_I rs[i].name z rs[i].a va rs[i].n rs[i].c vn vc w
        generalize rs[i].name = f1 at *
        generalize rs[i].a = f2 at *
        generalize rs[i].n = f3 at *
        generalize rs[i].c = f4 at *
        generalize Vo.cmpN f1 z = d at *
        have HS : Hid (S4 w w.heap.size X (i * 2) (.string z) (.slice va vn vc) (.string f1) (.slice f2 f3 f4) wr) := Lib.hid ⟨k0, k1, c1, c2, BW.out⟩
        have e1 : (0 : Int) ≤ (i : Int) := by omega
        have e2 : (i : Int) < (n : Int) := by omega
        go_wp2_with fail
        go_region_held3 (fun V => V.cell? ⟨w.heap.size, 0, none⟩ = some (.string z) ∧ V.cell? ⟨w.heap.size, 1, none⟩ = some (.slice va vn vc) ∧ V.cell? ⟨X, i * 2, none⟩ = some (.string f1) ∧ V.cell? ⟨X, i * 2 + 1, none⟩ = some (.slice f2 f3 f4) ∧ Below w.heap.size w V)
          (first | with_reducible exact HSS.out | with_reducible exact S4.drew HS.out | with_reducible exact HS.out)
          ((go_at_call 99; with_reducible refine (K1 _).mono ?_; rintro e ws ⟨rfl, hbs⟩; have HSS := Lib.hid (S4.on (S4.drew HS.out) hbs)))
        go_wp2_with fail
        go_ret2
        exact ⟨i, _, rfl, hj, hA.out, hC.out, HSS.out.2.2.2.2⟩
      · clear k0 k1
        have e4 : ¬ ((i : Int) < (n : Int)) := by omega
        go_wp2_with fail
        go_quiet (fail)
        go_wp2_with fail
        go_ret2
        exact ⟨i, _, rfl, hj, hA.out, hC.out, below_drewN BW.out _⟩

end Go.Proofs.YtenkdpogdfcbgaaGreat
