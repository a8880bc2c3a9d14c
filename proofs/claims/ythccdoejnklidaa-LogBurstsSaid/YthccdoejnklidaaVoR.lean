import Derived.Test.YthccdoejnklidaaVoP
import Derived.Test.YthccdoejnklidaaItD
import Derived.Test.YthccdoejnklidaaBx
import Derived.Test.YthccdoejnklidaaBgW8
/- Rows of ids and of volumes, as cells; a state that lies there. -/
namespace Go.Proofs.Ythccdoejnklidaa
open Go.RowKit

theorem Try.infoId : (Try.prog.info? 68).map (fun i => (i.zero, i.size, i.bytes)) = some (some (.agg #[.bool false, .int .i64 0, .int .i64 0]), 3, 24) := by kernel_rfl
theorem Try.infoVol : (Try.prog.info? 65).map (fun i => (i.zero, i.size, i.bytes)) = some (some (.agg #[.string ⟨#[]⟩, .slice none 0 0]), 2, 40) := by kernel_rfl

/-- Ids as values. -/
def dv : List Bg.Id → List Value
  | [] => []
  | t :: l => .bool t.is :: .int .i64 t.sum :: .int .i64 t.n :: dv l

/-- A volume as it lies there: its name, its slice. -/
structure Rw where
  name : ByteArray
  a : Option Addr
  n : Nat
  c : Nat

def Rw.sl (r : Rw) : Value := .slice r.a r.n r.c

/-- Volumes as values. -/
def rv : List Rw → List Value
  | [] => []
  | t :: l => .string t.name :: .slice t.a t.n t.c :: rv l

theorem dv_app (l m : List Bg.Id) : dv (l ++ m) = dv l ++ dv m := by
  induction l with
  | nil => rfl
  | cons t l ih => rw [List.cons_append, dv, ih]; rfl
theorem rv_app (l m : List Rw) : rv (l ++ m) = rv l ++ rv m := by
  induction l with
  | nil => rfl
  | cons t l ih => rw [List.cons_append, rv, ih]; rfl

theorem dv_length (l : List Bg.Id) : (dv l).length = l.length * 3 := by
  induction l with
  | nil => rfl
  | cons t l ih => rw [dv, List.length_cons, List.length_cons, List.length_cons, ih, List.length_cons]; omega
theorem rv_length (l : List Rw) : (rv l).length = l.length * 2 := by
  induction l with
  | nil => rfl
  | cons t l ih => rw [rv, List.length_cons, List.length_cons, ih, List.length_cons]; omega

theorem dv_one (l : List Bg.Id) : ∀ u ∈ dv l, u.oneCell' = true := by
  induction l with
  | nil => intro u hu; cases hu
  | cons t l ih =>
    intro u hu
    rw [dv] at hu
    rcases List.mem_cons.1 hu with rfl | hu
    · rfl
    rcases List.mem_cons.1 hu with rfl | hu
    · rfl
    rcases List.mem_cons.1 hu with rfl | hu
    · rfl
    exact ih u hu
theorem rv_one (l : List Rw) : ∀ u ∈ rv l, u.oneCell' = true := by
  induction l with
  | nil => intro u hu; cases hu
  | cons t l ih =>
    intro u hu
    rw [rv] at hu
    rcases List.mem_cons.1 hu with rfl | hu
    · rfl
    rcases List.mem_cons.1 hu with rfl | hu
    · rfl
    exact ih u hu

theorem dv_get {l : List Bg.Id} {j : Nat} {t : Bg.Id} (h : l[j]? = some t) : (dv l)[j * 3]? = some (.bool t.is) ∧ (dv l)[j * 3 + 1]? = some (.int .i64 t.sum) ∧ (dv l)[j * 3 + 2]? = some (.int .i64 t.n) := by
  induction l generalizing j with
  | nil => simp at h
  | cons x l ih =>
    cases j with
    | zero =>
      obtain rfl : x = t := by simpa using h
      exact ⟨rfl, rfl, rfl⟩
    | succ j =>
      have := ih (j := j) (by simpa using h)
      rw [show (j + 1) * 3 = j * 3 + 1 + 1 + 1 from by omega]
      exact this
theorem rv_get {l : List Rw} {j : Nat} {t : Rw} (h : l[j]? = some t) : (rv l)[j * 2]? = some (.string t.name) ∧ (rv l)[j * 2 + 1]? = some (.slice t.a t.n t.c) := by
  induction l generalizing j with
  | nil => simp at h
  | cons x l ih =>
    cases j with
    | zero =>
      obtain rfl : x = t := by simpa using h
      exact ⟨rfl, rfl⟩
    | succ j =>
      have := ih (j := j) (by simpa using h)
      rw [show (j + 1) * 2 = j * 2 + 1 + 1 from by omega]
      exact this

theorem rv_drop (l : List Rw) (k : Nat) : rv (l.drop k) = (rv l).drop (k * 2) := by
  induction k generalizing l with
  | zero => rfl
  | succ k ih =>
    cases l with
    | nil => simp [rv]
    | cons t l => rw [List.drop_succ_cons, ih, rv, show (k + 1) * 2 = k * 2 + 1 + 1 from by omega, List.drop_succ_cons, List.drop_succ_cons]
theorem rv_take (l : List Rw) (k : Nat) : rv (l.take k) = (rv l).take (k * 2) := by
  induction k generalizing l with
  | zero => simp [rv]
  | succ k ih =>
    cases l with
    | nil => simp [rv]
    | cons t l => rw [List.take_succ_cons, rv, ih, rv, show (k + 1) * 2 = k * 2 + 1 + 1 from by omega, List.take_succ_cons, List.take_succ_cons]

theorem dv_set {l : List Bg.Id} {k : Nat} (t : Bg.Id) (hk : k < l.length) : dv (l.set k t) = (((dv l).set (k * 3) (.bool t.is)).set (k * 3 + 1) (.int .i64 t.sum)).set (k * 3 + 2) (.int .i64 t.n) := by
  induction l generalizing k with
  | nil => simp at hk
  | cons x l ih =>
    cases k with
    | zero => rfl
    | succ k =>
      rw [List.set_cons_succ, dv, dv, ih (by simpa using hk), show (k + 1) * 3 = k * 3 + 1 + 1 + 1 from by omega]
      rfl

theorem dv_rep (n : Nat) : dv (List.replicate n Bg.noId) = (List.replicate n [Value.bool false, .int .i64 0, .int .i64 0]).flatten := by
  induction n with
  | zero => rfl
  | succ n ih => rw [List.replicate_succ, List.replicate_succ, dv, ih]; rfl

/-- Ids that lie there, in a row of some call's own. -/
def DSl (w : World) (v : Value) (n : Nat) (l : List Bg.Id) : Prop := w.ownsRow 0 68 3 v n (dv l) ∧ l.length = n

theorem DSl.keep {w w' : World} {v : Value} {n : Nat} {l : List Bg.Id} (h : DSl w v n l) (hb : Below w.heap.size w w') : DSl w' v n l := ⟨own_keep h.1 hb, h.2⟩

/-- No two blocks are one. -/
def Apart (l : List Value) : Prop := l.Pairwise fun u v => ∀ k, u.ownBlock = some k → v.ownBlock ≠ some k

/-- A state that lies there, from block 'base' on, in rows that share nothing. -/
structure StW (w : World) (base : Nat) (a : Option Addr) (n c : Nat) (b : Option Addr) (m d : Nat) (rs : List Rw) (s : Vo.St) : Prop where
  bag : w.ownsRow base 61 4 (.slice a n c) n (tv s.bag)
  len : s.bag.length = n
  row : w.ownsRow base 65 2 (.slice b m d) m (rv rs)
  rlen : rs.length = m
  vlen : s.vols.length = m
  vol : ∀ (i : Nat) (r : Rw) (v : Vo.Vl), rs[i]? = some r → s.vols[i]? = some v → r.name = v.name ∧ w.ownsRow base 68 3 (.slice r.a r.n r.c) r.n (dv v.ids) ∧ v.ids.length = r.n
  apart : Apart (.slice a n c :: .slice b m d :: rs.map Rw.sl)

theorem own_base {w : World} {base base' : Nat} {e : TypeId} {size : Nat} {v : Value} {n : Nat} {xs : List Value} (h : w.ownsRow base e size v n xs) (hb : base' ≤ base) : w.ownsRow base' e size v n xs := own_low h hb

theorem StW.keep {w w' : World} {base : Nat} {a b : Option Addr} {n c m d : Nat} {rs : List Rw} {s : Vo.St} (h : StW w base a n c b m d rs s) (hb : Below w.heap.size w w') : StW w' base a n c b m d rs s :=
  ⟨own_keep h.bag hb, h.len, own_keep h.row hb, h.rlen, h.vlen, fun i r v hr hv => ⟨(h.vol i r v hr hv).1, own_keep (h.vol i r v hr hv).2.1 hb, (h.vol i r v hr hv).2.2⟩, h.apart⟩

theorem StW.low {w : World} {base base' : Nat} {a b : Option Addr} {n c m d : Nat} {rs : List Rw} {s : Vo.St} (h : StW w base a n c b m d rs s) (hb : base' ≤ base) : StW w base' a n c b m d rs s :=
  ⟨own_low h.bag hb, h.len, own_low h.row hb, h.rlen, h.vlen, fun i r v hr hv => ⟨(h.vol i r v hr hv).1, own_low (h.vol i r v hr hv).2.1 hb, (h.vol i r v hr hv).2.2⟩, h.apart⟩

theorem stW0 (w : World) (base : Nat) : StW w base none 0 0 none 0 0 [] Vo.st0 :=
  ⟨World.ownsRow_nil _ _ _ _, rfl, World.ownsRow_nil _ _ _ _, rfl, rfl, fun i r v hr => by simp at hr, by
    unfold Apart
    simp [Value.ownBlock]⟩

theorem StW.isl {w : World} {base : Nat} {a b : Option Addr} {n c m d : Nat} {rs : List Rw} {s : Vo.St} (h : StW w base a n c b m d rs s) : ISl w a n c s.bag := by
  obtain ⟨a', n', he, hS⟩ := isl_own h.bag h.len
  cases he
  exact hS

/-- The form of the row of volumes, where there is one. -/
theorem StW.form {w : World} {base : Nat} {a b : Option Addr} {n c m d : Nat} {rs : List Rw} {s : Vo.St} (h : StW w base a n c b m d rs s) (hm : 0 < m) : ∃ g, b = some ⟨g, 0, none⟩ ∧ base ≤ g ∧ g < w.heap.size := by
  obtain ⟨g, cap, hv, h1, h2⟩ := h.row.form hm
  cases hv
  exact ⟨g, rfl, h1, h2⟩

/-- What stands at volume i. -/
theorem StW.at {w : World} {base : Nat} {g n c m d i : Nat} {x : Option Addr} {rs : List Rw} {s : Vo.St} (h : StW w base x n c (some ⟨g, 0, none⟩) m d rs s) (hi : i < m) :
    ∃ r v, rs[i]? = some r ∧ s.vols[i]? = some v ∧ w.cell? ⟨g, i * 2, none⟩ = some (.string v.name) ∧ w.cell? ⟨g, i * 2 + 1, none⟩ = some (.slice r.a r.n r.c) ∧ w.ownsRow base 68 3 (.slice r.a r.n r.c) r.n (dv v.ids) ∧ v.ids.length = r.n := by
  have h1 : i < rs.length := by rw [h.rlen]; exact hi
  have h2 : i < s.vols.length := by rw [h.vlen]; exact hi
  obtain ⟨e, ho, hl⟩ := h.vol i rs[i] s.vols[i] (List.getElem?_eq_getElem h1) (List.getElem?_eq_getElem h2)
  have hg := rv_get (List.getElem?_eq_getElem h1)
  exact ⟨rs[i], s.vols[i], List.getElem?_eq_getElem h1, List.getElem?_eq_getElem h2, by rw [h.row.cellAt _ (by omega), hg.1, e], by rw [h.row.cellAt _ (by omega), hg.2], ho, hl⟩

end Go.Proofs.Ythccdoejnklidaa

/- Volumes that lie there; the walks of slices.IndexFunc at volumes, and of vol.find. -/
namespace Go.Proofs.Ythccdoejnklidaa
open Go.RowKit

/-- The volume at a place. -/
theorem rv_at {w : World} {base n m c k : Nat} {e : TypeId} {a : Option Addr} {rs : List Rw} (h : w.ownsRow base e 2 (.slice a n c) m (rv rs)) (hk : k < rs.length) :
    ∃ g, a = some ⟨g, 0, none⟩ ∧ g < w.heap.size ∧ w.cell? ⟨g, k * 2, none⟩ = some (.string rs[k].name) ∧ w.cell? ⟨g, k * 2 + 1, none⟩ = some (.slice rs[k].a rs[k].n rs[k].c) := by
  have hl := h.1
  rw [rv_length] at hl
  obtain ⟨g, cap, hv, h1, h2⟩ := h.form (by omega)
  cases hv
  have hg := rv_get (List.getElem?_eq_getElem hk)
  exact ⟨g, rfl, h2, by rw [h.cellAt _ (by omega), hg.1], by rw [h.cellAt _ (by omega), hg.2]⟩

theorem own_cap {w : World} {base n m c : Nat} {e : TypeId} {size : Nat} {a : Option Addr} {xs : List Value} (h : w.ownsRow base e size (.slice a n c) m xs) : n ≤ c ∧ c ≤ maxLen ∧ n = m := by
  rcases h.2 with ⟨hv, h0⟩ | ⟨g, cap, cur, hv, -, -, h1, h2, -⟩
  · cases hv; exact ⟨Nat.le_refl _, Nat.zero_le _, h0.symm⟩
  · cases hv; exact ⟨h1, h2, rfl⟩

/-- A predicate's function value: what it answers of the volumes, wherever it is asked behind the beginning. -/
def PredV (w : World) (g : FuncId) (lb : Array Value) (p : ByteArray → Bool) : Prop :=
  ∀ (W : World) (z : ByteArray) (va : Option Addr) (vn vc : Nat), Below w.heap.size w W → Calls Try.prog g (#[.agg #[.string z, .slice va vn vc]] ++ lb) W fun e w' => e = .returned (.bool (p z)) ∧ Below w.heap.size w w'

/-- Where the first volume is whose name is such, or -1. -/
def idxV (p : ByteArray → Bool) (rs : List Rw) : Int := match rs.findIdx? (fun r => p r.name) with | some i => (i : Int) | none => -1

theorem idxV_hit {p : ByteArray → Bool} {rs : List Rw} {k : Nat} (hk : k < rs.length) (h : p rs[k].name = true) (hb : ∀ j (hj : j < k), p (rs[j]'(by omega)).name = false) : idxV p rs = (k : Int) := by
  have : rs.findIdx? (fun r => p r.name) = some k := by
    rw [List.findIdx?_eq_some_iff_getElem]
    exact ⟨hk, h, fun j hj hh => by rw [hb j hj] at hh; cases hh⟩
  unfold idxV
  rw [this]

theorem idxV_miss {p : ByteArray → Bool} {rs : List Rw} (hb : ∀ j (hj : j < rs.length), p rs[j].name = false) : idxV p rs = -1 := by
  have : rs.findIdx? (fun r => p r.name) = none := by
    rw [List.findIdx?_eq_none_iff]
    intro x hx
    obtain ⟨j, hj, rfl⟩ := List.getElem_of_mem hx
    exact hb j hj
  unfold idxV
  rw [this]

set_option maxHeartbeats 2000000 in
theorem IndexFunc_V (a : Option Addr) (n c base : Nat) (rs : List Rw) (g : FuncId) (lb : Array Value) (p : ByteArray → Bool) (w : World) (hn : n ≤ 1099511627776)
    (eg : ∀ args w, (callFunc g args).run Try.prog w = .ok (.enter g args) w) (hT : w.ownsRow base 65 2 (.slice a n c) n (rv rs)) (hl : rs.length = n) (hp : PredV w g lb p) :
    Calls Try.prog 60 #[.slice a n c, .func (.func g) #[] lb] w fun e w' => e = .returned (.int .i64 (idxV p rs)) ∧ Below w.heap.size w w' := by
  have HT := Lib.hid hT; have HP := Lib.hid hp; have HL := Lib.hid hl
  clear hT hp hl
  go_enter Try.func60, Try.ntmps60
  go_wp2_with fail
  go_loopg [5, 8] n (fun gg _ s8 wr => ∃ kk : Nat, kk ≤ n ∧ n - kk ≤ gg ∧ s8 = .int .i64 kk ∧ Hid (Below w.heap.size w wr) ∧ Hid (∀ j (_ : j < kk) (hj : j < rs.length), p rs[j].name = false))
  case atStart => exact ⟨0, Nat.zero_le _, by omega, rfl, Lib.hid (Below.refl _ w), Lib.hid fun j hj => absurd hj (Nat.not_lt_zero _)⟩
  case round =>
    obtain ⟨kk, hkk, hg, rfl, BW, A⟩ := hrel
    by_cases hlt : kk < n
    · have hk' : kk < rs.length := by rw [HL.out]; exact hlt
      obtain ⟨X, rfl, hX, c1, c2⟩ := rv_at (own_keep HT.out BW.out) hk'
      have hcall := HP.out wr rs[kk].name rs[kk].a rs[kk].n rs[kk].c BW.out
      have HE : Hid (p rs[kk].name = p rs[kk].name) := Lib.hid rfl
      have HR : Hid (∀ z, z = rs[kk].name → p rs[kk].name = p z) := Lib.hid fun z hz => by rw [hz]
      obtain ⟨z, hz⟩ : ∃ z, z = rs[kk].name := ⟨_, rfl⟩
      have HZ := Lib.hid (HR.out z hz)
      rw [← hz] at hcall c1
      clear HE HR hz
      generalize rs[kk].a = va at *
      generalize rs[kk].n = vn at *
      generalize rs[kk].c = vc at *
      cases hq : p z with
      | true =>
        rw [hq] at hcall
        have HQ := Lib.hid hq
        clear hq
        go_wp2_with (go_at_fn g; refine hcall.mono ?_; rintro e w' ⟨rfl, hb'⟩)
        go_ret
        refine ⟨?_, hb'⟩
        rw [idxV_hit hk' (by rw [HZ.out]; exact HQ.out) (fun j hj => A.out j hj (by omega))]
        rfl
      | false =>
        rw [hq] at hcall
        have HQ := Lib.hid hq
        clear hq
        go_wp2_with (go_at_fn g; refine hcall.mono ?_; rintro e w' ⟨rfl, hb'⟩)
        go_roundg (n - (kk + 1))
        case measure => omega
        case rel =>
          refine ⟨kk + 1, by omega, by omega, by go_num, Lib.hid hb', Lib.hid fun j hj hj' => ?_⟩
          by_cases e : j = kk
          · subst e
            rw [HZ.out]; exact HQ.out
          · exact A.out j (by omega) hj'
    · obtain rfl : kk = n := by omega
      go_wp2_with fail
      go_ret
      refine ⟨?_, BW.out⟩
      rw [idxV_miss (fun j hj => A.out j (by rw [← HL.out]; exact hj) hj)]
      rfl

theorem eg_vfind : ∀ args w, (callFunc 61 args).run Try.prog w = .ok (.enter 61 args) w := enters_of Try.func61 (by kernel_rfl) rfl

def sameN (s z : ByteArray) : Bool := z.toList == s.toList

theorem pred_vfind (w : World) (B : Nat) (s : ByteArray) (hB : B < w.heap.size) (hc : w.cell? ⟨B, 0, none⟩ = some (.string s)) : PredV w 61 #[.pointer (some ⟨B, 0, none⟩)] (sameN s) := fun W z va vn vc hb => by
  have hc' := (hb.cell (p := ⟨B, 0, none⟩) hB).trans hc
  have hBW : B < W.heap.size := Nat.lt_of_lt_of_le hB hb.size
  have HB := Lib.hid hb
  clear hb hc hB
  show Calls Try.prog 61 #[.agg #[.string z, .slice va vn vc], .pointer (some ⟨B, 0, none⟩)] W _
  go_enter Try.func61, Try.ntmps61
  go_wp2_with fail
  go_ret
  exact ⟨rfl, HB.out.alloc HB.out.size _⟩

/-- What vol.find answers. -/
def Vo.findI (vs : List Vo.Vl) (name : ByteArray) : Int := match Vo.find vs name with | some i => (i : Int) | none => -1

theorem findI_rows {rs : List Rw} {vs : List Vo.Vl} {name : ByteArray} (hl : rs.length = vs.length) (h : ∀ (i : Nat) (r : Rw) (v : Vo.Vl), rs[i]? = some r → vs[i]? = some v → r.name = v.name) : idxV (sameN name) rs = Vo.findI vs name := by
  have e : rs.findIdx? (fun r => sameN name r.name) = vs.findIdx? (Vo.called name) := by
    cases hf : vs.findIdx? (Vo.called name) with
    | none =>
      rw [List.findIdx?_eq_none_iff] at hf ⊢
      intro x hx
      obtain ⟨j, hj, rfl⟩ := List.getElem_of_mem hx
      have := hf (vs[j]'(by omega)) (List.getElem_mem _)
      rw [h j _ _ (List.getElem?_eq_getElem hj) (List.getElem?_eq_getElem (by omega))]
      exact this
    | some i =>
      rw [List.findIdx?_eq_some_iff_getElem] at hf ⊢
      obtain ⟨hi, h1, h2⟩ := hf
      refine ⟨by omega, ?_, fun j hj => ?_⟩
      · rw [h i _ _ (List.getElem?_eq_getElem (by omega)) (List.getElem?_eq_getElem hi)]
        exact h1
      · rw [h j _ _ (List.getElem?_eq_getElem (by omega)) (List.getElem?_eq_getElem (by omega))]
        exact h2 j hj
  unfold idxV Vo.findI Vo.find
  rw [e]

set_option maxHeartbeats 1000000 in
theorem find_V (a b : Option Addr) (n c m d base : Nat) (rs : List Rw) (s : Vo.St) (name : ByteArray) (w : World) (hS : StW w base a n c b m d rs s) (hm : m ≤ 64) :
    Calls Try.prog 46 #[.agg #[.slice a n c, .slice b m d], .string name] w fun e w' => e = .returned (.int .i64 (Vo.findI s.vols name)) ∧ Below w.heap.size w w' := by
  have hB : Below w.heap.size w ((w.alloc (.cells #[.slice a n c, .slice b m d] 32)).alloc (.cells #[.string name] 9)) := ((Below.refl _ w).alloc (Nat.le_refl _) _).alloc (by rw [World.size_alloc]; omega) _
  have I1 := IndexFunc_V b m d base rs _ #[.pointer (some ⟨w.heap.size + 1, 0, none⟩)] (sameN name) ((w.alloc (.cells #[.slice a n c, .slice b m d] 32)).alloc (.cells #[.string name] 9)) (by omega) eg_vfind (own_keep hS.row hB) hS.rlen (pred_vfind _ (w.heap.size + 1) name (by rw [World.size_alloc, World.size_alloc]; omega) (by
    have h := cell_new (w.alloc (.cells #[.slice a n c, .slice b m d] 32)) (T := 9) (xs := #[.string name]) (k := 0) (v := .string name) rfl
    rw [World.size_alloc] at h
    exact h))
  rw [findI_rows (hS.rlen.trans hS.vlen.symm) (fun i r v hr hv => (hS.vol i r v hr hv).1)] at I1
  have HB := Lib.hid hB
  clear hB hS
  generalize Vo.findI s.vols name = r at *
  go_enter Try.func46, Try.ntmps46
  go_wp2_with fail
  with_reducible refine I1.mono ?_
  rintro e w' ⟨rfl, hb⟩
  go_wp2_with fail
  go_ret
  exact ⟨rfl, HB.out.trans (hb.mono HB.out.size)⟩

end Go.Proofs.Ythccdoejnklidaa
