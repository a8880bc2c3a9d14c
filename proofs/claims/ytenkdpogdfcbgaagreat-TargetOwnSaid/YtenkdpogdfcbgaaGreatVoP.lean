import Derived.Test.YtenkdpogdfcbgaaGreatBgP6
import Derived.Test.YtenkdpogdfcbgaaGreatLogW2
import Derived.Lib.Bytealg
/- Volumes, plain: names and their order, states, what each call answers. No program in sight. -/
namespace Go.Proofs.YtenkdpogdfcbgaaGreat.Vo
open Go.Proofs.YtenkdpogdfcbgaaGreat

/-- A volume, plain. -/
structure Vl where
  name : ByteArray
  ids : List Bg.Id

instance : DecidableEq Bg.Id := fun a b => match a, b with
  | ⟨a1, a2, a3⟩, ⟨b1, b2, b3⟩ => if h : a1 = b1 ∧ a2 = b2 ∧ a3 = b3 then isTrue (by obtain ⟨rfl, rfl, rfl⟩ := h; rfl) else isFalse (fun e => h (by cases e; exact ⟨rfl, rfl, rfl⟩))

/-- A state, plain. -/
structure St where
  bag : List Bg.It
  vols : List Vl

def st0 : St := ⟨[], []⟩

def nameB (s : ByteArray) : Bool := Lg.nmB s.data.toList

/-- How two names lie to each other. -/
def cmpN (a b : ByteArray) : Int := Lib.compareBytes a.data.toList b.data.toList

theorem cmpL_swap : ∀ a b : List UInt8, Lib.compareBytes a b = - Lib.compareBytes b a
  | [], [] => rfl
  | [], _ :: _ => rfl
  | _ :: _, [] => rfl
  | x :: a, y :: b => by
    have ih := cmpL_swap a b
    unfold Lib.compareBytes
    by_cases h1 : x < y
    · have h2 : ¬ y < x := fun h => absurd (UInt8.lt_trans h1 h) (UInt8.lt_irrefl x)
      rw [if_pos h1, if_neg h2, if_pos h1]
    · by_cases h2 : y < x
      · rw [if_neg h1, if_pos h2, if_pos h2]
        rfl
      · rw [if_neg h1, if_neg h2, if_neg h2, if_neg h1, ih]

theorem cmpL_zero : ∀ a b : List UInt8, Lib.compareBytes a b = 0 → a = b
  | [], [], _ => rfl
  | [], _ :: _, h => by simp [Lib.compareBytes] at h
  | _ :: _, [], h => by simp [Lib.compareBytes] at h
  | x :: a, y :: b, h => by
    unfold Lib.compareBytes at h
    split at h
    · simp at h
    · split at h
      · simp at h
      · rename_i h1 h2
        have e : x = y := by
          have := UInt8.not_lt.1 h1
          have := UInt8.not_lt.1 h2
          exact UInt8.le_antisymm this ‹_›
        rw [e, cmpL_zero a b h]

theorem cmpL_self (a : List UInt8) : Lib.compareBytes a a = 0 := by
  have := cmpL_swap a a
  omega

theorem cmpL_trans : ∀ a b c : List UInt8, Lib.compareBytes a b < 0 → Lib.compareBytes b c < 0 → Lib.compareBytes a c < 0
  | [], _, [], h1, h2 => by
    rename_i b
    cases b with
    | nil => simp [Lib.compareBytes] at h1
    | cons y b => simp [Lib.compareBytes] at h2
  | [], _, _ :: _, _, _ => by simp [Lib.compareBytes]
  | _ :: _, [], _, h1, _ => by simp [Lib.compareBytes] at h1
  | _ :: _, _ :: _, [], _, h2 => by simp [Lib.compareBytes] at h2
  | x :: a, y :: b, z :: c, h1, h2 => by
    have ih := cmpL_trans a b c
    unfold Lib.compareBytes at h1 h2 ⊢
    by_cases xz : x < z
    · rw [if_pos xz]; decide
    · by_cases xy : x < y
      · by_cases yz : y < z
        · exact absurd (UInt8.lt_trans xy yz) xz
        · rw [if_neg yz] at h2
          by_cases zy : z < y
          · rw [if_pos zy] at h2; simp at h2
          · have e : y = z := UInt8.le_antisymm (UInt8.not_lt.1 zy) (UInt8.not_lt.1 yz)
            rw [e] at xy
            exact absurd xy xz
      · rw [if_neg xy] at h1
        by_cases yx : y < x
        · rw [if_pos yx] at h1; simp at h1
        · rw [if_neg yx] at h1
          have e : x = y := UInt8.le_antisymm (UInt8.not_lt.1 yx) (UInt8.not_lt.1 xy)
          subst e
          rw [if_neg xz] at h2
          by_cases zx : z < x
          · rw [if_pos zx] at h2; simp at h2
          · rw [if_neg zx] at h2
            rw [if_neg xz, if_neg zx]
            exact ih h1 h2

theorem less_cmp : ∀ a b : List UInt8, Op.bytesLess a b = decide (Lib.compareBytes a b < 0)
  | [], [] => rfl
  | [], _ :: _ => rfl
  | _ :: _, [] => rfl
  | x :: a, y :: b => by
    have ih := less_cmp a b
    unfold Op.bytesLess Lib.compareBytes
    by_cases h1 : x < y
    · simp [h1]
    · by_cases h2 : y < x
      · have hne : (x == y) = false := by
          rw [beq_eq_false_iff_ne]
          rintro rfl
          exact UInt8.lt_irrefl _ h2
        simp [h1, h2, hne]
      · have e : x = y := UInt8.le_antisymm (UInt8.not_lt.1 h2) (UInt8.not_lt.1 h1)
        subst e
        simp [h1, ih]

theorem cmp_trans {a b c : ByteArray} (h1 : cmpN a b < 0) (h2 : cmpN b c < 0) : cmpN a c < 0 := cmpL_trans _ _ _ h1 h2
theorem cmp_swap (a b : ByteArray) : cmpN a b = - cmpN b a := cmpL_swap _ _
theorem cmp_self (a : ByteArray) : cmpN a a = 0 := cmpL_self _
theorem cmp_zero {a b : ByteArray} (h : cmpN a b = 0) : a = b := ByteArray.ext (Array.toList_inj.mp (cmpL_zero _ _ h))
theorem cmp_less (a b : ByteArray) : Op.bytesLess a.toList b.toList = decide (cmpN a b < 0) := by
  rw [ByteArray.toList_eq, ByteArray.toList_eq]
  exact less_cmp _ _

/-- All ids of all volumes. -/
def allIds (vs : List Vl) : List Bg.Id := vs.flatMap fun v => v.ids

def idEq (a b : Bg.Id) : Bool := a.is == b.is && (a.sum == b.sum && a.n == b.n)
theorem idEq_iff {a b : Bg.Id} : idEq a b = true ↔ a = b := by
  obtain ⟨a1, a2, a3⟩ := a
  obtain ⟨b1, b2, b3⟩ := b
  simp [idEq]

/-- How often an id stands there. -/
def cnt (l : List Bg.Id) (id : Bg.Id) : Nat := l.countP fun x => idEq x id
def idOf (x : Bg.It) : Bg.Id := ⟨true, x.sum, x.n⟩

theorem cnt_app (l m : List Bg.Id) (id : Bg.Id) : cnt (l ++ m) id = cnt l id + cnt m id := List.countP_append
theorem cnt_cons (x : Bg.Id) (l : List Bg.Id) (id : Bg.Id) : cnt (x :: l) id = cnt l id + if x = id then 1 else 0 := by
  unfold cnt
  rw [List.countP_cons]
  by_cases h : x = id
  · rw [if_pos h, if_pos (idEq_iff.2 h)]
  · rw [if_neg h, if_neg (fun h' => h (idEq_iff.1 h'))]
theorem cnt_none {l : List Bg.Id} {id : Bg.Id} (h : id ∉ l) : cnt l id = 0 := by
  unfold cnt
  rw [List.countP_eq_zero]
  intro x hx he
  exact h (idEq_iff.1 he ▸ hx)
theorem cnt_pos {l : List Bg.Id} {id : Bg.Id} (h : id ∈ l) : 0 < cnt l id := by
  unfold cnt
  rw [List.countP_pos_iff]
  exact ⟨id, h, idEq_iff.2 rfl⟩
theorem cnt_le (l : List Bg.Id) (id : Bg.Id) : cnt l id ≤ l.length := List.countP_le_length

theorem hit_idOf {id : Bg.Id} {x : Bg.It} : Bg.hit id x = true ↔ id = idOf x := by
  rw [Bg.hitB]
  obtain ⟨a, b, c⟩ := id
  unfold idOf
  constructor
  · rintro ⟨h1, h2, h3⟩
    dsimp only at h1 h2 h3
    rw [h1, h2, h3]
  · intro h
    cases h
    exact ⟨rfl, rfl, rfl⟩

/-- One volume, by itself. -/
structure VOk (bag : List Bg.It) (v : Vl) : Prop where
  name : nameB v.name = true
  len : v.ids.length ≤ 32
  ids : ∀ id ∈ v.ids, id = Bg.noId ∨ ∃ x ∈ bag, id = idOf x

/-- A right state. -/
structure Right (s : St) : Prop where
  bag : Bg.Good s.bag
  len : s.vols.length ≤ 6
  srt : s.vols.Pairwise fun u v => cmpN u.name v.name < 0
  vol : ∀ v ∈ s.vols, VOk s.bag v
  refs : ∀ x ∈ s.bag, x.refs = (cnt (allIds s.vols) (idOf x) : Int)

theorem right0 : Right st0 := ⟨Bg.good_nil, by simp [st0], List.Pairwise.nil, fun v hv => by simp [st0] at hv, fun x hx => by simp [st0] at hx⟩

/-- Is it called so? -/
def called (name : ByteArray) (v : Vl) : Bool := v.name.toList == name.toList
theorem called_iff {name : ByteArray} {v : Vl} : called name v = true ↔ v.name = name := by
  unfold called
  rw [beq_iff_eq, Bg.bs_same]

def find (vs : List Vl) (name : ByteArray) : Option Nat := vs.findIdx? (called name)

/-- A volume at its place. -/
def insV (vs : List Vl) (v : Vl) : List Vl := vs.take (vs.countP fun u => decide (cmpN u.name v.name < 0)) ++ v :: vs.drop (vs.countP fun u => decide (cmpN u.name v.name < 0))

def freshE (vs : List Vl) (name : ByteArray) : Nat :=
  if nameB name = false then 3 else if (find vs name).isSome = true then 5 else if vs.length = 6 then 8 else 0

structure An where
  s : St
  e : Nat

def makeR (s : St) (name : ByteArray) (n : Int) : An :=
  if n < 1 ∨ 32 < n then ⟨st0, 1⟩ else if freshE s.vols name ≠ 0 then ⟨st0, freshE s.vols name⟩
  else ⟨⟨s.bag, insV s.vols ⟨name, List.replicate n.toNat Bg.noId⟩⟩, 0⟩

/-- The bag without one use of an id. -/
def unuse (bag : List Bg.It) (id : Bg.Id) : List Bg.It := if id.is = true then (Bg.dropR Bg.Pr bag id).1 else bag

def dropR (s : St) (name : ByteArray) : An :=
  match find s.vols name with
  | none => ⟨st0, 4⟩
  | some i => match s.vols[i]? with
    | none => ⟨st0, 4⟩
    | some v => ⟨⟨v.ids.foldl unuse s.bag, s.vols.eraseIdx i⟩, 0⟩

/-- Where a place is: the volume's number, or what is wrong. -/
def placeE (s : St) (name : ByteArray) (at_ : Int) : Nat :=
  match find s.vols name with
  | none => 4
  | some i => match s.vols[i]? with
    | none => 4
    | some v => if at_ < 0 ∨ (v.ids.length : Int) ≤ at_ then 1 else 0

/-- What stands at a place that is there. -/
def idAt (s : St) (i : Nat) (k : Nat) : Bg.Id := ((s.vols.getD i ⟨⟨#[]⟩, []⟩).ids).getD k Bg.noId
/-- A place is something else. -/
def setV (vs : List Vl) (i k : Nat) (id : Bg.Id) : List Vl := match vs[i]? with
  | some v => vs.set i ⟨v.name, v.ids.set k id⟩
  | none => vs
def fd (s : St) (name : ByteArray) : Nat := (find s.vols name).getD 0

def readR (s : St) (name : ByteArray) (at_ : Int) : ByteArray × Nat :=
  if placeE s name at_ ≠ 0 then (Bg.noText, placeE s name at_)
  else if (idAt s (fd s name) at_.toNat).is = true then Bg.getR Bg.Pr s.bag (idAt s (fd s name) at_.toNat) else (Bg.noText, 0)

/-- The state with a hole at a place. -/
def hole (s : St) (i k : Nat) : St := if (idAt s i k).is = true then ⟨unuse s.bag (idAt s i k), setV s.vols i k Bg.noId⟩ else s

def trimR (s : St) (name : ByteArray) (at_ : Int) : An :=
  if placeE s name at_ ≠ 0 then ⟨st0, placeE s name at_⟩ else ⟨hole s (fd s name) at_.toNat, 0⟩

def writeR (s : St) (name : ByteArray) (at_ : Int) (t : ByteArray) : An :=
  if placeE s name at_ ≠ 0 then ⟨st0, placeE s name at_⟩
  else if (Bg.putR Bg.Pr (hole s (fd s name) at_.toNat).bag t).e ≠ 0 then ⟨st0, (Bg.putR Bg.Pr (hole s (fd s name) at_.toNat).bag t).e⟩
  else ⟨⟨(Bg.putR Bg.Pr (hole s (fd s name) at_.toNat).bag t).l, setV (hole s (fd s name) at_.toNat).vols (fd s name) at_.toNat (Bg.putR Bg.Pr (hole s (fd s name) at_.toNat).bag t).id⟩, 0⟩

/-- The bag with one use of an id more. -/
def reuse (bag : List Bg.It) (id : Bg.Id) : List Bg.It := match bag.findIdx? (Bg.hit id) with
  | some k => match bag[k]? with
    | some x => bag.set k ⟨x.sum, x.n, x.text, x.refs + 1⟩
    | none => bag
  | none => bag

def cloneR (s : St) (name nm2 : ByteArray) : An :=
  match find s.vols name with
  | none => ⟨st0, 4⟩
  | some i => match s.vols[i]? with
    | none => ⟨st0, 4⟩
    | some v => if freshE s.vols nm2 ≠ 0 then ⟨st0, freshE s.vols nm2⟩ else ⟨⟨v.ids.foldl reuse s.bag, insV s.vols ⟨nm2, v.ids⟩⟩, 0⟩

def blocksR (s : St) (name : ByteArray) : List Bg.Id × Nat :=
  match find s.vols name with
  | none => ([], 4)
  | some i => match s.vols[i]? with
    | none => ([], 4)
    | some v => (v.ids, 0)

end Go.Proofs.YtenkdpogdfcbgaaGreat.Vo

/- States, plain, continued: bags that are exact for some ids; what is used less, more, put. -/
namespace Go.Proofs.YtenkdpogdfcbgaaGreat.Vo
open Go.Proofs.YtenkdpogdfcbgaaGreat Bg

theorem mem_cnt {l : List Bg.Id} {id : Bg.Id} : 0 < cnt l id ↔ id ∈ l :=
  ⟨fun h => by
    unfold cnt at h
    rw [List.countP_pos_iff] at h
    obtain ⟨x, hx, he⟩ := h
    exact idEq_iff.1 he ▸ hx, cnt_pos⟩

/-- A bag that is right for some ids. -/
structure Exact (bag : List It) (ids : List Bg.Id) : Prop where
  good : Bg.Good bag
  refs : ∀ x ∈ bag, x.refs = (cnt ids (idOf x) : Int)
  ids : ∀ id ∈ ids, id = noId ∨ ∃ x ∈ bag, id = idOf x

theorem Exact.congr {bag : List It} {l l' : List Bg.Id} (h : Exact bag l) (hc : ∀ id, cnt l id = cnt l' id) : Exact bag l' :=
  ⟨h.good, fun x hx => by rw [← hc]; exact h.refs x hx, fun id hi => h.ids id (mem_cnt.1 (by rw [hc]; exact cnt_pos hi))⟩

theorem idOf_ne (x : It) : idOf x ≠ noId := fun h => by cases h
theorem idOf_inj {l : List It} (h : Bg.Good l) {x y : It} (hx : x ∈ l) (hy : y ∈ l) (he : idOf x = idOf y) : x = y := by
  obtain ⟨i, hi, rfl⟩ := List.getElem_of_mem hx
  obtain ⟨j, hj, rfl⟩ := List.getElem_of_mem hy
  unfold idOf at he
  have h1 := congrArg Bg.Id.sum he
  have h2 := congrArg Bg.Id.n he
  obtain rfl := h.inj hi hj h1 h2
  rfl

theorem has_iff {l : List It} {id : Bg.Id} {t : ByteArray} : Bg.Has l id t ↔ ∃ x ∈ l, id = idOf x ∧ x.text = t := by
  unfold Bg.Has
  constructor
  · rintro ⟨x, hx, h1, h2⟩
    exact ⟨x, hx, hit_idOf.1 h1, h2⟩
  · rintro ⟨x, hx, h1, h2⟩
    exact ⟨x, hx, hit_idOf.2 h1, h2⟩

theorem Exact.used {bag : List It} {l : List Bg.Id} (h : Exact bag l) {x : It} (hx : x ∈ bag) : 0 < cnt l (idOf x) := by
  have h1 := (one_fit (h.good.one x hx)).2.2.2.2.2.1
  have h2 := h.refs x hx
  omega

theorem Exact.hole {bag : List It} {l : List Bg.Id} (h : Exact bag l) : Exact bag (noId :: l) :=
  ⟨h.good, fun x hx => by rw [cnt_cons, if_neg (fun e => idOf_ne x e.symm)]; exact h.refs x hx, fun id hi => by
    rcases List.mem_cons.1 hi with rfl | hi
    · exact Or.inl rfl
    · exact h.ids id hi⟩

theorem Exact.unhole {bag : List It} {l : List Bg.Id} (h : Exact bag (noId :: l)) : Exact bag l :=
  ⟨h.good, fun x hx => by
    have := h.refs x hx
    rw [cnt_cons, if_neg (fun e => idOf_ne x e.symm)] at this
    exact this, fun id hi => h.ids id (List.mem_cons_of_mem _ hi)⟩

theorem idOf_mid {P Q : List It} {x : It} (h : Bg.Good (P ++ x :: Q)) {y : It} (hy : y ∈ P ++ Q) : idOf y ≠ idOf x := fun e => by
  have hy' : y ∈ P ++ x :: Q := by
    rw [List.mem_append] at hy
    rcases hy with hy | hy <;> simp [hy]
  have hxy := idOf_inj h hy' (by simp : x ∈ P ++ x :: Q) e
  subst hxy
  have hm := good_mid.1 h
  rw [List.mem_append] at hy
  rcases hy with hy | hy
  · exact (hm.2.2.2.1 y hy).2 rfl
  · exact (hm.2.2.2.2 y hy).2 rfl

theorem mem_mid {P Q : List It} {x y : It} : y ∈ P ++ x :: Q ↔ y = x ∨ y ∈ P ++ Q := by
  rw [List.mem_append, List.mem_cons, List.mem_append]
  constructor
  · rintro (h | h | h)
    · exact Or.inr (Or.inl h)
    · exact Or.inl h
    · exact Or.inr (Or.inr h)
  · rintro (h | h | h)
    · exact Or.inr (Or.inl h)
    · exact Or.inl h
    · exact Or.inr (Or.inr h)

/-- One use less. -/
theorem exact_unuse {bag : List It} {id : Bg.Id} {l : List Bg.Id} (h : Exact bag (id :: l)) : Exact (unuse bag id) l ∧ ∀ id' t, Bg.Has (unuse bag id) id' t ↔ Bg.Has bag id' t ∧ 0 < cnt l id' := by
  rcases h.ids id List.mem_cons_self with rfl | ⟨x, hx, rfl⟩
  · have h' := h.unhole
    have hu : unuse bag noId = bag := by unfold unuse; rw [if_neg (by decide)]
    rw [hu]
    refine ⟨h', fun id' t => ⟨fun hh => ⟨hh, ?_⟩, fun hh => hh.1⟩⟩
    obtain ⟨x, hx, rfl, -⟩ := has_iff.1 hh
    exact h'.used hx
  · obtain ⟨P, Q, rfl⟩ := List.append_of_mem hx
    have hu : unuse (P ++ x :: Q) (idOf x) = if x.refs = 1 then P ++ Q else P ++ ⟨x.sum, x.n, x.text, x.refs - 1⟩ :: Q := by
      unfold unuse
      rw [if_pos (show (idOf x).is = true from rfl), drop_mid h.good (hit_idOf.2 rfl)]
    have hr : x.refs = (cnt l (idOf x) : Int) + 1 := by
      have := h.refs x (by simp)
      rw [cnt_cons, if_pos rfl] at this
      omega
    have ho : ∀ y ∈ P ++ Q, y.refs = (cnt l (idOf y) : Int) := fun y hy => by
      have := h.refs y (mem_mid.2 (Or.inr hy))
      rw [cnt_cons, if_neg (fun e => idOf_mid h.good hy e.symm)] at this
      omega
    rw [hu]
    by_cases h1 : x.refs = 1
    · rw [if_pos h1]
      have h0 : cnt l (idOf x) = 0 := by omega
      refine ⟨⟨(good_mid.1 h.good).1, ho, fun id hi => ?_⟩, fun id' t => ?_⟩
      · rcases h.ids id (List.mem_cons_of_mem _ hi) with h2 | ⟨y, hy, rfl⟩
        · exact Or.inl h2
        · rcases mem_mid.1 hy with rfl | hy
          · have := cnt_pos hi; omega
          · exact Or.inr ⟨y, hy, rfl⟩
      · rw [has_mid]
        constructor
        · intro hh
          obtain ⟨y, hy, rfl, -⟩ := has_iff.1 hh
          refine ⟨Or.inl hh, ?_⟩
          have h2 := (one_fit (h.good.one y (mem_mid.2 (Or.inr hy)))).2.2.2.2.2.1
          have := ho y hy
          omega
        · rintro ⟨hh | ⟨hh, -⟩, hc⟩
          · exact hh
          · rw [hit_idOf.1 hh] at hc
            omega
    · rw [if_neg h1]
      have hx' := one_fit (h.good.one x (by simp))
      have hg : Bg.Good (P ++ ⟨x.sum, x.n, x.text, x.refs - 1⟩ :: Q) := good_refs h.good (by omega) (by omega)
      refine ⟨⟨hg, fun y hy => ?_, fun id hi => ?_⟩, fun id' t => ?_⟩
      · rcases mem_mid.1 hy with rfl | hy
        · show x.refs - 1 = _
          have : idOf ⟨x.sum, x.n, x.text, x.refs - 1⟩ = idOf x := rfl
          rw [this]
          omega
        · exact ho y hy
      · rcases h.ids id (List.mem_cons_of_mem _ hi) with h2 | ⟨y, hy, rfl⟩
        · exact Or.inl h2
        · rcases mem_mid.1 hy with rfl | hy
          · exact Or.inr ⟨_, mem_mid.2 (Or.inl rfl), rfl⟩
          · exact Or.inr ⟨y, mem_mid.2 (Or.inr hy), rfl⟩
      · rw [has_mid, has_mid]
        have he : ∀ id, hit id ⟨x.sum, x.n, x.text, x.refs - 1⟩ = hit id x := fun _ => rfl
        rw [he]
        show _ ∨ (hit id' x = true ∧ x.text = t) ↔ _
        constructor
        · intro hh
          refine ⟨hh, ?_⟩
          rcases hh with hh | ⟨hh, -⟩
          · obtain ⟨y, hy, rfl, -⟩ := has_iff.1 hh
            have h2 := (one_fit (h.good.one y (mem_mid.2 (Or.inr hy)))).2.2.2.2.2.1
            have := ho y hy
            omega
          · rw [hit_idOf.1 hh]
            omega
        · exact fun hh => hh.1

/-- One use more. -/
theorem exact_reuse {bag : List It} {id : Bg.Id} {l : List Bg.Id} (h : Exact bag l) (hi : id ∈ l) (hl : l.length < 1000000) : Exact (reuse bag id) (id :: l) ∧ (∀ id' t, Bg.Has (reuse bag id) id' t ↔ Bg.Has bag id' t) ∧ (reuse bag id).length = bag.length := by
  rcases h.ids id hi with rfl | ⟨x, hx, rfl⟩
  · have hu : reuse bag noId = bag := by
      unfold reuse
      have : bag.findIdx? (hit noId) = none := by
        rw [List.findIdx?_eq_none_iff]
        intro x _
        rfl
      rw [this]
    rw [hu]
    exact ⟨h.hole, fun _ _ => Iff.rfl, rfl⟩
  · obtain ⟨P, Q, rfl⟩ := List.append_of_mem hx
    have hu : reuse (P ++ x :: Q) (idOf x) = P ++ ⟨x.sum, x.n, x.text, x.refs + 1⟩ :: Q := by
      unfold reuse
      rw [find_mid h.good (hit_idOf.2 rfl)]
      simp only [List.getElem?_append_right (Nat.le_refl _), Nat.sub_self]
      show (P ++ x :: Q).set P.length _ = _
      rw [set_mid rfl]
    rw [hu]
    have hx' := one_fit (h.good.one x (by simp))
    have hr := h.refs x (by simp)
    have hc := cnt_le l (idOf x)
    have hg : Bg.Good (P ++ ⟨x.sum, x.n, x.text, x.refs + 1⟩ :: Q) := good_refs h.good (by omega) (by omega)
    refine ⟨⟨hg, fun y hy => ?_, fun id hi => ?_⟩, fun id' t => ?_, by simp⟩
    · rcases mem_mid.1 hy with rfl | hy
      · show x.refs + 1 = _
        rw [show idOf ⟨x.sum, x.n, x.text, x.refs + 1⟩ = idOf x from rfl, cnt_cons, if_pos rfl]
        omega
      · rw [cnt_cons, if_neg (fun e => idOf_mid h.good hy e.symm)]
        exact h.refs y (mem_mid.2 (Or.inr hy))
    · have hi' : id = noId ∨ ∃ y ∈ P ++ x :: Q, id = idOf y := by
        rcases List.mem_cons.1 hi with rfl | hi
        · exact Or.inr ⟨x, by simp, rfl⟩
        · exact h.ids id hi
      rcases hi' with h2 | ⟨y, hy, rfl⟩
      · exact Or.inl h2
      · rcases mem_mid.1 hy with rfl | hy
        · exact Or.inr ⟨_, mem_mid.2 (Or.inl rfl), rfl⟩
        · exact Or.inr ⟨y, mem_mid.2 (Or.inr hy), rfl⟩
    · rw [has_mid, has_mid]
      exact Iff.rfl

/-- What Put does to a right bag, told by its parts. -/
theorem put_shape {l : List It} {t : ByteArray} (hg : Bg.Good l) (h : (putR Pr l t).e = 0) :
    (∃ P x Q, l = P ++ x :: Q ∧ x.text = t ∧ putR Pr l t = ⟨P ++ ⟨x.sum, x.n, x.text, x.refs + 1⟩ :: Q, idOf x, 0⟩) ∨
    (∃ P Q x, l = P ++ Q ∧ x.text = t ∧ x.refs = 1 ∧ (∀ y ∈ l, y.text ≠ t) ∧ Bg.Good (P ++ x :: Q) ∧ putR Pr l t = ⟨P ++ x :: Q, idOf x, 0⟩) := by
  unfold putR at h ⊢
  rw [if_neg (fun h' => h' (good_check hg))] at h ⊢
  by_cases ht : 64 < t.size
  · rw [if_pos ht] at h; cases h
  · rw [if_neg ht] at h ⊢
    cases hf : l.findIdx? (same t) with
    | some i =>
      obtain ⟨hi, h1, -⟩ := List.findIdx?_eq_some_iff_getElem.1 hf
      rw [hf] at h
      simp only [List.getElem?_eq_getElem hi] at h ⊢
      by_cases hr : l[i].refs = 1000000
      · rw [if_pos hr] at h; cases h
      · rw [if_neg hr]
        refine Or.inl ⟨l.take i, l[i], l.drop (i + 1), split_at hi, same_iff.1 h1, ?_⟩
        rw [List.set_eq_take_append_cons_drop, if_pos hi]
        rfl
    | none =>
      rw [hf] at h
      simp only at h ⊢
      by_cases hl : l.length = 64
      · rw [if_pos hl] at h; cases h
      · rw [if_neg hl]
        rw [List.findIdx?_eq_none_iff] at hf
        obtain ⟨P, Q, h1, h2, h3⟩ := ins_good hg (by omega) (fun x hx => same_no.1 (hf x hx)) hl
        refine Or.inr ⟨P, Q, ⟨Pr t, free l (Pr t), t, 1⟩, h1, rfl, rfl, fun y hy => same_no.1 (hf y hy), h3, ?_⟩
        rw [h2]
        rfl

theorem exact_put {bag : List It} {t : ByteArray} {l : List Bg.Id} (h : Exact bag l) (hl : l.length < 1000000) (he : (putR Pr bag t).e = 0) : Exact (putR Pr bag t).l ((putR Pr bag t).id :: l) ∧ (putR Pr bag t).id ≠ noId := by
  rcases put_shape h.good he with ⟨P, x, Q, rfl, rfl, hp⟩ | ⟨P, Q, x, rfl, rfl, hr1, hno, hg, hp⟩
  · rw [hp]
    have hi : idOf x ∈ l := mem_cnt.1 (h.used (by simp))
    have hu : reuse (P ++ x :: Q) (idOf x) = P ++ ⟨x.sum, x.n, x.text, x.refs + 1⟩ :: Q := by
      unfold reuse
      rw [find_mid h.good (hit_idOf.2 rfl)]
      simp only [List.getElem?_append_right (Nat.le_refl _), Nat.sub_self]
      show (P ++ x :: Q).set P.length _ = _
      rw [set_mid rfl]
    have := (exact_reuse h hi hl).1
    rw [hu] at this
    exact ⟨this, idOf_ne x⟩
  · rw [hp]
    have h0 : cnt l (idOf x) = 0 := by
      refine cnt_none fun hi => ?_
      rcases h.ids _ hi with h2 | ⟨y, hy, h2⟩
      · exact idOf_ne x h2
      · exact idOf_mid hg hy h2.symm
    refine ⟨⟨hg, fun y hy => ?_, fun id hi => ?_⟩, idOf_ne x⟩
    · rcases mem_mid.1 hy with rfl | hy
      · rw [cnt_cons, if_pos rfl, h0, hr1]; rfl
      · rw [cnt_cons, if_neg (fun e => idOf_mid hg hy e.symm)]
        exact h.refs y hy
    · rcases List.mem_cons.1 hi with rfl | hi
      · exact Or.inr ⟨x, mem_mid.2 (Or.inl rfl), rfl⟩
      · rcases h.ids id hi with h2 | ⟨y, hy, rfl⟩
        · exact Or.inl h2
        · exact Or.inr ⟨y, mem_mid.2 (Or.inr hy), rfl⟩

theorem sorted_ext {α : Type} {R : α → α → Prop} (hs : ∀ a b, R a b → ¬ R b a) : ∀ {l m : List α}, l.Pairwise R → m.Pairwise R → (∀ x, x ∈ l ↔ x ∈ m) → l = m
  | [], [], _, _, _ => rfl
  | [], y :: m, _, _, h => absurd ((h y).2 List.mem_cons_self) (by simp)
  | x :: l, [], _, _, h => absurd ((h x).1 List.mem_cons_self) (by simp)
  | x :: l, y :: m, hl, hm, h => by
    rw [List.pairwise_cons] at hl hm
    have hxy : x = y := by
      rcases List.mem_cons.1 ((h x).1 List.mem_cons_self) with e | hx
      · exact e
      · rcases List.mem_cons.1 ((h y).2 List.mem_cons_self) with e | hy
        · exact e.symm
        · exact absurd (hl.1 y hy) (hs _ _ (hm.1 x hx))
    subst hxy
    rw [sorted_ext hs hl.2 hm.2 fun z => ⟨fun hz => ?_, fun hz => ?_⟩]
    · rcases List.mem_cons.1 ((h z).1 (List.mem_cons_of_mem _ hz)) with rfl | hz'
      · exact absurd (hl.1 z hz) (fun h => hs _ _ h h)
      · exact hz'
    · rcases List.mem_cons.1 ((h z).2 (List.mem_cons_of_mem _ hz)) with rfl | hz'
      · exact absurd (hm.1 z hz) (fun h => hs _ _ h h)
      · exact hz'

/-- Two exact bags that say the same are one. -/
theorem exact_ext {b b' : List It} {l l' : List Bg.Id} (h : Exact b l) (h' : Exact b' l') (hc : ∀ id, cnt l id = cnt l' id) (hh : ∀ id t, Bg.Has b id t ↔ Bg.Has b' id t) : b = b' := by
  have key : ∀ {b b' : List It} {l l' : List Bg.Id}, Exact b l → Exact b' l' → (∀ id, cnt l id = cnt l' id) → (∀ id t, Bg.Has b id t → Bg.Has b' id t) → ∀ x ∈ b, x ∈ b' := fun {b b' l l'} h h' hc hh x hx => by
    obtain ⟨y, hy, h1, h2⟩ := has_iff.1 (hh (idOf x) x.text (has_iff.2 ⟨x, hx, rfl, rfl⟩))
    have h3 : x.refs = y.refs := by rw [h.refs x hx, h'.refs y hy, hc, h1]
    have h4 : x = y := by
      obtain ⟨x1, x2, x3, x4⟩ := x
      obtain ⟨y1, y2, y3, y4⟩ := y
      unfold idOf at h1
      simp only [Bg.Id.mk.injEq, true_and] at h1
      dsimp only at h2 h3
      rw [h1.1, h1.2, h2, h3]
    rw [h4]; exact hy
  refine sorted_ext (R := fun x y => Bg.cmp x y < 0) (fun a b h1 h2 => ?_) h.good.srt h'.good.srt fun x => ⟨key h h' hc (fun id t => (hh id t).1) x, key h' h (fun id => (hc id).symm) (fun id t => (hh id t).2) x⟩
  rw [cmp_lt] at h1 h2
  omega

end Go.Proofs.YtenkdpogdfcbgaaGreat.Vo

/- States, plain, continued: each deed leaves a right state; what is read behind it. -/
namespace Go.Proofs.YtenkdpogdfcbgaaGreat.Vo
open Go.Proofs.YtenkdpogdfcbgaaGreat Bg

theorem allIds_cons (v : Vl) (vs : List Vl) : allIds (v :: vs) = v.ids ++ allIds vs := rfl
theorem allIds_app (A B : List Vl) : allIds (A ++ B) = allIds A ++ allIds B := by
  unfold allIds
  rw [List.flatMap_append]

/-- Volumes that are right by themselves. -/
structure Vok (vs : List Vl) : Prop where
  len : vs.length ≤ 6
  srt : vs.Pairwise fun u v => cmpN u.name v.name < 0
  name : ∀ v ∈ vs, nameB v.name = true
  ids : ∀ v ∈ vs, v.ids.length ≤ 32

theorem mem_allIds {vs : List Vl} {id : Bg.Id} : id ∈ allIds vs ↔ ∃ v ∈ vs, id ∈ v.ids := by unfold allIds; rw [List.mem_flatMap]

theorem right_iff {s : St} : Right s ↔ Exact s.bag (allIds s.vols) ∧ Vok s.vols := by
  constructor
  · intro h
    exact ⟨⟨h.bag, h.refs, fun id hi => by
      obtain ⟨v, hv, hi⟩ := mem_allIds.1 hi
      exact (h.vol v hv).ids id hi⟩, h.len, h.srt, fun v hv => (h.vol v hv).name, fun v hv => (h.vol v hv).len⟩
  · rintro ⟨h, h2⟩
    exact ⟨h.good, h2.len, h2.srt, fun v hv => ⟨h2.name v hv, h2.ids v hv, fun id hi => h.ids id (mem_allIds.2 ⟨v, hv, hi⟩)⟩, h.refs⟩

theorem allIds_len (vs : List Vl) (h : Vok vs) : (allIds vs).length ≤ 192 := by
  have : ∀ l : List Vl, (∀ v ∈ l, v.ids.length ≤ 32) → (allIds l).length ≤ 32 * l.length := fun l => by
    induction l with
    | nil => intro _; exact Nat.le_refl _
    | cons v l ih =>
      intro hl
      have h1 := hl v List.mem_cons_self
      have h2 := ih fun u hu => hl u (List.mem_cons_of_mem _ hu)
      rw [allIds_cons, List.length_append, List.length_cons]
      omega
  have h1 := this vs h.ids
  have := h.len
  omega

theorem vols_split {vs : List Vl} {i : Nat} (hi : i < vs.length) : vs = vs.take i ++ vs[i] :: vs.drop (i + 1) := by
  rw [← List.drop_eq_getElem_cons hi, List.take_append_drop]

theorem setV_is {vs : List Vl} {i k : Nat} {id : Bg.Id} (hi : i < vs.length) : setV vs i k id = vs.take i ++ ⟨vs[i].name, vs[i].ids.set k id⟩ :: vs.drop (i + 1) := by
  unfold setV
  rw [List.getElem?_eq_getElem hi]
  simp only
  rw [List.set_eq_take_append_cons_drop, if_pos hi]

/-- All ids but one. -/
def others (vs : List Vl) (i k : Nat) : List Bg.Id := allIds (vs.take i) ++ ((vs.getD i ⟨noText, []⟩).ids.eraseIdx k ++ allIds (vs.drop (i + 1)))

theorem cnt_swap (A C D B : List Bg.Id) (x z : Bg.Id) : cnt (A ++ (C ++ x :: D ++ B)) z = cnt (x :: (A ++ ((C ++ D) ++ B))) z := by
  rw [cnt_app, cnt_app, cnt_app, cnt_cons, cnt_cons, cnt_app, cnt_app, cnt_app]
  omega

theorem getD_vol {vs : List Vl} {i : Nat} (hi : i < vs.length) (d : Vl) : vs.getD i d = vs[i] := by rw [List.getD_eq_getElem?_getD, List.getElem?_eq_getElem hi, Option.getD_some]

theorem cnt_others {vs : List Vl} {i k : Nat} (hi : i < vs.length) (hk : k < vs[i].ids.length) (z : Bg.Id) : cnt (allIds vs) z = cnt (vs[i].ids[k] :: others vs i k) z := by
  have e1 : vs[i].ids = vs[i].ids.take k ++ vs[i].ids[k] :: vs[i].ids.drop (k + 1) := by rw [← List.drop_eq_getElem_cons hk, List.take_append_drop]
  unfold others
  rw [getD_vol hi, List.eraseIdx_eq_take_drop_succ, ← cnt_swap, ← e1, ← allIds_cons, ← allIds_app, ← vols_split hi]

theorem cnt_setV {vs : List Vl} {i k : Nat} {id : Bg.Id} (hi : i < vs.length) (hk : k < vs[i].ids.length) (z : Bg.Id) : cnt (allIds (setV vs i k id)) z = cnt (id :: others vs i k) z := by
  have e1 : vs[i].ids.set k id = vs[i].ids.take k ++ id :: vs[i].ids.drop (k + 1) := by rw [List.set_eq_take_append_cons_drop, if_pos hk]
  unfold others
  rw [getD_vol hi, List.eraseIdx_eq_take_drop_succ, ← cnt_swap, ← e1, setV_is hi, allIds_app, allIds_cons]

theorem vok_setV {vs : List Vl} (h : Vok vs) {i k : Nat} {id : Bg.Id} (hi : i < vs.length) : Vok (setV vs i k id) := by
  have hs := setV_is (k := k) (id := id) hi
  have hsp := vols_split hi
  obtain ⟨h1, h2, h3, h4⟩ := h
  refine ⟨by rw [hs, List.length_append, List.length_cons, List.length_take, List.length_drop]; omega, ?_, fun v hv => ?_, fun v hv => ?_⟩
  · have h2' := h2
    rw [hsp, List.pairwise_append, List.pairwise_cons] at h2'
    rw [hs, List.pairwise_append, List.pairwise_cons]
    obtain ⟨a1, ⟨a2, a3⟩, a4⟩ := h2'
    exact ⟨a1, ⟨a2, a3⟩, fun p hp q hq => by
      rcases List.mem_cons.1 hq with rfl | hq
      · exact a4 p hp vs[i] List.mem_cons_self
      · exact a4 p hp q (List.mem_cons_of_mem _ hq)⟩
  · rw [hs, List.mem_append, List.mem_cons] at hv
    rcases hv with hv | rfl | hv
    · exact h3 v (List.mem_of_mem_take hv)
    · exact h3 vs[i] (List.getElem_mem hi)
    · exact h3 v (List.mem_of_mem_drop hv)
  · rw [hs, List.mem_append, List.mem_cons] at hv
    rcases hv with hv | rfl | hv
    · exact h4 v (List.mem_of_mem_take hv)
    · rw [List.length_set]; exact h4 vs[i] (List.getElem_mem hi)
    · exact h4 v (List.mem_of_mem_drop hv)

theorem others_len {vs : List Vl} (h : Vok vs) {i k : Nat} (hi : i < vs.length) (hk : k < vs[i].ids.length) : (others vs i k).length < 1000 := by
  have h1 := allIds_len vs h
  have h2 : (allIds vs).length = (others vs i k).length + 1 := by
    have e1 : vs[i].ids = vs[i].ids.take k ++ vs[i].ids[k] :: vs[i].ids.drop (k + 1) := by rw [← List.drop_eq_getElem_cons hk, List.take_append_drop]
    unfold others
    conv => lhs; rw [vols_split hi]
    rw [allIds_app, allIds_cons, getD_vol hi, List.eraseIdx_eq_take_drop_succ]
    simp only [List.length_append, List.length_take, List.length_drop]
    omega
  omega

theorem idAt_get {s : St} {i k : Nat} (hi : i < s.vols.length) (hk : k < s.vols[i].ids.length) : idAt s i k = s.vols[i].ids[k] := by
  unfold idAt
  rw [getD_vol hi, List.getD_eq_getElem?_getD, List.getElem?_eq_getElem hk, Option.getD_some]

/-- A hole at a place. -/
theorem hole_exact {s : St} (h : Right s) {i k : Nat} (hi : i < s.vols.length) (hk : k < s.vols[i].ids.length) :
    Exact (hole s i k).bag (others s.vols i k) ∧ Vok (hole s i k).vols ∧ (∀ z, cnt (allIds (hole s i k).vols) z = cnt (noId :: others s.vols i k) z) ∧ ∀ id t, Bg.Has (hole s i k).bag id t ↔ Bg.Has s.bag id t ∧ 0 < cnt (others s.vols i k) id := by
  obtain ⟨he, hv⟩ := right_iff.1 h
  have he' : Exact s.bag (s.vols[i].ids[k] :: others s.vols i k) := he.congr (cnt_others hi hk)
  have hid := idAt_get hi hk
  unfold hole
  rw [hid]
  by_cases hb : s.vols[i].ids[k].is = true
  · rw [if_pos hb]
    have hx := exact_unuse he'
    exact ⟨hx.1, vok_setV hv hi, fun z => cnt_setV hi hk z, hx.2⟩
  · rw [if_neg hb]
    have hno : s.vols[i].ids[k] = noId := by
      rcases he'.ids _ List.mem_cons_self with h1 | ⟨x, -, h1⟩
      · exact h1
      · exfalso; rw [h1] at hb; exact hb rfl
    rw [hno] at he'
    refine ⟨he'.unhole, hv, fun z => by rw [cnt_others hi hk z, hno], fun id t => ⟨fun hh => ⟨hh, ?_⟩, fun hh => hh.1⟩⟩
    obtain ⟨x, hx, rfl, -⟩ := has_iff.1 hh
    exact he'.unhole.used hx

theorem hole_right {s : St} (h : Right s) {i k : Nat} (hi : i < s.vols.length) (hk : k < s.vols[i].ids.length) : Right (hole s i k) := by
  obtain ⟨h1, h2, h3, -⟩ := hole_exact h hi hk
  exact right_iff.2 ⟨h1.hole.congr fun z => (h3 z).symm, h2⟩

theorem hole_vol {s : St} {i k : Nat} (hi : i < s.vols.length) : ∃ hi' : i < (hole s i k).vols.length, (hole s i k).vols[i].name = s.vols[i].name ∧ (hole s i k).vols[i].ids.length = s.vols[i].ids.length := by
  unfold hole
  split
  · have hl : (setV s.vols i k noId).length = s.vols.length := by
      rw [setV_is hi, List.length_append, List.length_cons, List.length_take, List.length_drop]
      omega
    refine ⟨by show i < (setV s.vols i k noId).length; omega, ?_⟩
    have he : (setV s.vols i k noId)[i]? = some ⟨s.vols[i].name, s.vols[i].ids.set k noId⟩ := by
      unfold setV
      rw [List.getElem?_eq_getElem hi]
      exact List.getElem?_set_self hi
    obtain ⟨h1, h2⟩ := List.getElem?_eq_some_iff.1 he
    constructor
    · show (setV s.vols i k noId)[i].name = _
      rw [h2]
    · show (setV s.vols i k noId)[i].ids.length = _
      rw [h2]
      exact List.length_set ..
  · exact ⟨hi, rfl, rfl⟩

/-- Setting the same place twice. -/
theorem others_hole {s : St} {i k : Nat} (hi : i < s.vols.length) : others (hole s i k).vols i k = others s.vols i k := by
  unfold hole
  split
  · show others (setV s.vols i k noId) i k = _
    have hs := setV_is (vs := s.vols) (k := k) (id := noId) hi
    have hl : (setV s.vols i k noId).length = s.vols.length := by
      rw [hs, List.length_append, List.length_cons, List.length_take, List.length_drop]
      omega
    have he : (setV s.vols i k noId)[i]? = some ⟨s.vols[i].name, s.vols[i].ids.set k noId⟩ := by
      unfold setV
      rw [List.getElem?_eq_getElem hi]
      exact List.getElem?_set_self hi
    obtain ⟨h1, h2⟩ := List.getElem?_eq_some_iff.1 he
    unfold others
    rw [getD_vol h1, getD_vol hi, h2]
    have t1 : (setV s.vols i k noId).take i = s.vols.take i := by
      rw [hs, List.take_append_of_le_length (by rw [List.length_take]; omega), List.take_take, Nat.min_self]
    have t2 : (setV s.vols i k noId).drop (i + 1) = s.vols.drop (i + 1) := by
      rw [hs, List.drop_append, List.length_take, Nat.min_eq_left (Nat.le_of_lt hi), List.drop_of_length_le (by rw [List.length_take]; omega), show i + 1 - i = 1 by omega]
      rfl
    rw [t1, t2]
    congr 2
    simp only
    rw [List.eraseIdx_set_eq]
  · rfl

theorem exact_len {vs : List Vl} (h : Vok vs) {i k : Nat} (hi : i < vs.length) (hk : k < vs[i].ids.length) : (others vs i k).length < 1000000 := by
  have := others_len h hi hk
  omega

/-- A block is written. -/
theorem write_right {s : St} (h : Right s) {i k : Nat} {t : ByteArray} (hi : i < s.vols.length) (hk : k < s.vols[i].ids.length) (he : (putR Pr (hole s i k).bag t).e = 0) :
    Right ⟨(putR Pr (hole s i k).bag t).l, setV (hole s i k).vols i k (putR Pr (hole s i k).bag t).id⟩ := by
  obtain ⟨h1, h2, h3, -⟩ := hole_exact h hi hk
  obtain ⟨hi', hn, hl⟩ := hole_vol (k := k) hi
  have hv := (right_iff.1 h).2
  have hp := exact_put h1 (exact_len hv hi hk) he
  refine right_iff.2 ⟨hp.1.congr fun z => ?_, vok_setV h2 hi'⟩
  show _ = cnt (allIds (setV (hole s i k).vols i k _)) z
  rw [cnt_setV hi' (by rw [hl]; exact hk), others_hole hi]

theorem fold_unuse {ids : List Bg.Id} : ∀ {bag : List It} {l : List Bg.Id}, Exact bag (ids ++ l) → Exact (ids.foldl unuse bag) l ∧ ∀ id t, Bg.Has (ids.foldl unuse bag) id t ↔ Bg.Has bag id t ∧ 0 < cnt l id := by
  induction ids with
  | nil =>
    intro bag l h
    refine ⟨h, fun id t => ⟨fun hh => ⟨hh, ?_⟩, fun hh => hh.1⟩⟩
    obtain ⟨x, hx, rfl, -⟩ := has_iff.1 hh
    exact Exact.used (l := l) h hx
  | cons x ids ih =>
    intro bag l h
    obtain ⟨h1, h2⟩ := exact_unuse h
    obtain ⟨h3, h4⟩ := ih h1
    refine ⟨h3, fun id t => ?_⟩
    show Bg.Has (ids.foldl unuse (unuse bag x)) id t ↔ _
    rw [h4, h2]
    constructor
    · rintro ⟨⟨a, b⟩, c⟩; exact ⟨a, c⟩
    · rintro ⟨a, c⟩
      exact ⟨⟨a, by show 0 < cnt (ids ++ l) id; rw [cnt_app]; omega⟩, c⟩

theorem fold_reuse {ids : List Bg.Id} : ∀ {bag : List It} {l : List Bg.Id}, Exact bag l → (∀ id ∈ ids, id ∈ l) → l.length + ids.length < 1000000 →
    Exact (ids.foldl reuse bag) (ids ++ l) ∧ (∀ id t, Bg.Has (ids.foldl reuse bag) id t ↔ Bg.Has bag id t) ∧ (ids.foldl reuse bag).length = bag.length := by
  induction ids with
  | nil => intro bag l h _ _; exact ⟨h, fun _ _ => Iff.rfl, rfl⟩
  | cons x ids ih =>
    intro bag l h hm hl
    rw [List.length_cons] at hl
    obtain ⟨h1, h2, h3⟩ := exact_reuse h (hm x List.mem_cons_self) (by omega)
    obtain ⟨h4, h5, h6⟩ := ih h1 (fun id hi => List.mem_cons_of_mem _ (hm id (List.mem_cons_of_mem _ hi))) (by rw [List.length_cons]; omega)
    refine ⟨h4.congr fun z => ?_, fun id t => (h5 id t).trans (h2 id t), h6.trans h3⟩
    rw [List.cons_append, cnt_cons, cnt_app, cnt_app, cnt_cons]
    omega

theorem find_none {vs : List Vl} {name : ByteArray} (h : find vs name = none) : ∀ v ∈ vs, v.name ≠ name := fun v hv e => by
  unfold find at h
  rw [List.findIdx?_eq_none_iff] at h
  have := h v hv
  rw [called_iff.2 e] at this
  cases this

/-- A volume is put in. -/
theorem insV_parts {vs : List Vl} {v : Vl} (h : Vok vs) (hn : nameB v.name = true) (hl : v.ids.length ≤ 32) (hno : ∀ u ∈ vs, u.name ≠ v.name) (h6 : vs.length ≠ 6) : Vok (insV vs v) ∧ ∀ z, cnt (allIds (insV vs v)) z = cnt (v.ids ++ allIds vs) z := by
  obtain ⟨h1, h2, h3, h4⟩ := h
  obtain ⟨k, hk⟩ : ∃ k, k = vs.countP fun u => decide (cmpN u.name v.name < 0) := ⟨_, rfl⟩
  have hkl : k ≤ vs.length := by rw [hk]; exact List.countP_le_length
  have part : ∀ (l : List Vl), (l.Pairwise fun x y => cmpN x.name y.name < 0) → (∀ y ∈ l.take (l.countP fun y => decide (cmpN y.name v.name < 0)), cmpN y.name v.name < 0) ∧ ∀ y ∈ l.drop (l.countP fun y => decide (cmpN y.name v.name < 0)), ¬ cmpN y.name v.name < 0 := fun l => by
    induction l with
    | nil => intro _; simp
    | cons z l ih =>
      intro hp
      rw [List.pairwise_cons] at hp
      obtain ⟨i1, i2⟩ := ih hp.2
      by_cases hz : cmpN z.name v.name < 0
      · rw [List.countP_cons_of_pos (by simpa using hz), List.take_succ_cons, List.drop_succ_cons]
        refine ⟨fun y hy => ?_, i2⟩
        rcases List.mem_cons.1 hy with rfl | hy
        · exact hz
        · exact i1 y hy
      · have h0 : l.countP (fun y => decide (cmpN y.name v.name < 0)) = 0 := by
          rw [List.countP_eq_zero]
          intro y hy
          have h1 := hp.1 y hy
          rw [decide_eq_true_iff]
          intro h3
          exact hz (cmp_trans h1 h3)
        rw [List.countP_cons_of_neg (by simpa using hz), h0]
        refine ⟨fun y hy => by simp at hy, fun y hy => ?_⟩
        rcases List.mem_cons.1 hy with rfl | hy
        · exact hz
        · rw [h0] at i2
          exact i2 y hy
  obtain ⟨p1, p2⟩ := part vs h2
  rw [← hk] at p1 p2
  have hflip : ∀ y ∈ vs.drop k, cmpN v.name y.name < 0 := fun y hy => by
    have h5 := p2 y hy
    have h7 : cmpN y.name v.name ≠ 0 := fun e => hno y (List.mem_of_mem_drop hy) (cmp_zero e)
    have := cmp_swap v.name y.name
    omega
  have hs : insV vs v = vs.take k ++ v :: vs.drop k := by unfold insV; rw [← hk]
  rw [hs]
  refine ⟨⟨by rw [List.length_append, List.length_cons, List.length_take, List.length_drop]; omega, ?_, fun u hu => ?_, fun u hu => ?_⟩, fun z => ?_⟩
  · have h2' := h2
    rw [← List.take_append_drop k vs, List.pairwise_append] at h2'
    obtain ⟨a1, a2, a3⟩ := h2'
    refine List.pairwise_append.2 ⟨a1, List.pairwise_cons.2 ⟨hflip, a2⟩, fun p hp q hq => ?_⟩
    rcases List.mem_cons.1 hq with rfl | hq
    · exact p1 p hp
    · exact a3 p hp q hq
  · rw [List.mem_append, List.mem_cons] at hu
    rcases hu with hu | rfl | hu
    · exact h3 u (List.mem_of_mem_take hu)
    · exact hn
    · exact h3 u (List.mem_of_mem_drop hu)
  · rw [List.mem_append, List.mem_cons] at hu
    rcases hu with hu | rfl | hu
    · exact h4 u (List.mem_of_mem_take hu)
    · exact hl
    · exact h4 u (List.mem_of_mem_drop hu)
  · conv => rhs; rw [← List.take_append_drop k vs]
    rw [allIds_app, allIds_cons, allIds_app, cnt_app, cnt_app, cnt_app, cnt_app]
    omega

theorem fresh_ok {vs : List Vl} {name : ByteArray} (h : freshE vs name = 0) : nameB name = true ∧ (∀ u ∈ vs, u.name ≠ name) ∧ vs.length ≠ 6 := by
  unfold freshE at h
  cases hn : nameB name with
  | false => rw [hn, if_pos rfl] at h; cases h
  | true =>
    rw [hn, if_neg (by decide)] at h
    cases hf : find vs name with
    | some i => rw [hf, if_pos (show (some i).isSome = true from rfl)] at h; cases h
    | none =>
      rw [hf, if_neg (show ¬ (none : Option Nat).isSome = true from fun h => by cases h)] at h
      by_cases h6 : vs.length = 6
      · rw [if_pos h6] at h; cases h
      · exact ⟨rfl, find_none hf, h6⟩

theorem cnt_rep (n : Nat) (x : It) : cnt (List.replicate n noId) (idOf x) = 0 := cnt_none fun h => idOf_ne x (List.eq_of_mem_replicate h)

theorem exact_holes {bag : List It} {l : List Bg.Id} (h : Exact bag l) (n : Nat) : Exact bag (List.replicate n noId ++ l) := by
  induction n with
  | zero => exact h
  | succ n ih => exact ih.hole

theorem make_right {s : St} (h : Right s) (name : ByteArray) (n : Int) : Right (makeR s name n).s := by
  unfold makeR
  split
  · exact right0
  · split
    · exact right0
    · rename_i hk hf
      have hf' : freshE s.vols name = 0 := Decidable.not_not.1 hf
      obtain ⟨h1, h2, h3⟩ := fresh_ok hf'
      obtain ⟨he, hv⟩ := right_iff.1 h
      obtain ⟨h4, h5⟩ := insV_parts (v := ⟨name, List.replicate n.toNat noId⟩) hv h1 (by rw [List.length_replicate]; omega) h2 h3
      exact right_iff.2 ⟨(exact_holes he n.toNat).congr fun z => (h5 z).symm, h4⟩

theorem drop_right {s : St} (h : Right s) (name : ByteArray) : Right (dropR s name).s := by
  unfold dropR
  split
  · exact right0
  · split
    · exact right0
    · rename_i _ i hf _ v hv
      obtain ⟨hi, rfl⟩ := List.getElem?_eq_some_iff.1 hv
      obtain ⟨he, hk⟩ := right_iff.1 h
      have hs : ∀ z, cnt (allIds s.vols) z = cnt (s.vols[i].ids ++ allIds (s.vols.eraseIdx i)) z := fun z => by
        conv => lhs; rw [vols_split hi]
        rw [List.eraseIdx_eq_take_drop_succ, allIds_app, allIds_cons, allIds_app, cnt_app, cnt_app, cnt_app, cnt_app]
        omega
      have hsub : (s.vols.eraseIdx i).Sublist s.vols := List.eraseIdx_sublist ..
      exact right_iff.2 ⟨(fold_unuse (he.congr hs)).1, ⟨Nat.le_trans hsub.length_le hk.len, hk.srt.sublist hsub, fun v hv => hk.name v (hsub.subset hv), fun v hv => hk.ids v (hsub.subset hv)⟩⟩

theorem clone_right {s : St} (h : Right s) (name nm2 : ByteArray) : Right (cloneR s name nm2).s := by
  unfold cloneR
  split
  · exact right0
  · split
    · exact right0
    · split
      · exact right0
      · rename_i _ i hf _ v hv hfr
        obtain ⟨hi, rfl⟩ := List.getElem?_eq_some_iff.1 hv
        have hf' : freshE s.vols nm2 = 0 := Decidable.not_not.1 hfr
        obtain ⟨h1, h2, h3⟩ := fresh_ok hf'
        obtain ⟨he, hk⟩ := right_iff.1 h
        have hl := hk.ids s.vols[i] (List.getElem_mem hi)
        obtain ⟨h4, h5⟩ := insV_parts (v := ⟨nm2, s.vols[i].ids⟩) hk h1 hl h2 h3
        have := allIds_len _ hk
        obtain ⟨h6, h7, h8⟩ := fold_reuse (ids := s.vols[i].ids) he (fun id hid => mem_allIds.2 ⟨s.vols[i], List.getElem_mem hi, hid⟩) (by omega)
        exact right_iff.2 ⟨h6.congr fun z => (h5 z).symm, h4⟩

theorem place_parts {s : St} {name : ByteArray} {k : Int} (h : placeE s name k = 0) : ∃ (i j : Nat) (hi : i < s.vols.length) (_ : j < s.vols[i].ids.length), find s.vols name = some i ∧ k = (j : Int) ∧ fd s name = i ∧ k.toNat = j := by
  unfold placeE at h
  cases hf : find s.vols name with
  | none => rw [hf] at h; cases h
  | some i =>
    have hi : i < s.vols.length := (List.findIdx?_eq_some_iff_getElem.1 hf).1
    rw [hf] at h
    simp only [List.getElem?_eq_getElem hi] at h
    split at h
    · cases h
    · exact ⟨i, k.toNat, hi, by omega, rfl, by omega, by unfold fd; rw [hf]; rfl, rfl⟩

theorem trim_right {s : St} (h : Right s) (name : ByteArray) (k : Int) : Right (trimR s name k).s := by
  unfold trimR
  split
  · exact right0
  · rename_i hp
    obtain ⟨i, j, hi, hj, -, -, hfd, hkj⟩ := place_parts (Decidable.not_not.1 hp)
    rw [hfd, hkj]
    exact hole_right h hi hj

theorem vwrite_right {s : St} (h : Right s) (name : ByteArray) (k : Int) (t : ByteArray) : Right (writeR s name k t).s := by
  unfold writeR
  split
  · exact right0
  · rename_i hp
    obtain ⟨i, j, hi, hj, -, -, hfd, hkj⟩ := place_parts (Decidable.not_not.1 hp)
    rw [hfd, hkj]
    split
    · exact right0
    · rename_i he
      exact write_right h hi hj (Decidable.not_not.1 he)

end Go.Proofs.YtenkdpogdfcbgaaGreat.Vo

/- Deeds, plain: what log.Do answers. -/
namespace Go.Proofs.YtenkdpogdfcbgaaGreat
open Go.Proofs.YtenkdpogdfcbgaaGreat

/-- A deed. -/
structure Lg.Op where
  k : Int
  nm : ByteArray
  tn : ByteArray
  a : Int
  tx : ByteArray

def Lg.chkE (o : Lg.Op) : Nat := Lg.chk o.k (Lg.nmB o.nm.data.toList) (Lg.nmB o.tn.data.toList) o.a o.tx.size o.tn.toList.isEmpty o.tx.toList.isEmpty

def Vo.doR (s : Vo.St) (o : Lg.Op) : Vo.An :=
  if Lg.chkE o ≠ 0 then ⟨Vo.st0, Lg.chkE o⟩ else if o.k = 1 then Vo.makeR s o.nm o.a else if o.k = 2 then Vo.dropR s o.nm else if o.k = 3 then Vo.writeR s o.nm o.a o.tx else if o.k = 4 then Vo.trimR s o.nm o.a else Vo.cloneR s o.nm o.tn

theorem Vo.do_right {s : Vo.St} (h : Vo.Right s) (o : Lg.Op) : Vo.Right (Vo.doR s o).s := by
  unfold Vo.doR
  split
  · exact Vo.right0
  · split
    · exact Vo.make_right h _ _
    · split
      · exact Vo.drop_right h _
      · split
        · exact Vo.vwrite_right h _ _ _
        · split
          · exact Vo.trim_right h _ _
          · exact Vo.clone_right h _ _

/-- A state by deeds. -/
def Vo.step (s : Vo.St) (o : Lg.Op) : Vo.St := if (Vo.doR s o).e = 0 then (Vo.doR s o).s else s
def Vo.made (l : List Lg.Op) : Vo.St := (l.take 60).foldl Vo.step Vo.st0

theorem Vo.step_right {s : Vo.St} (h : Vo.Right s) (o : Lg.Op) : Vo.Right (Vo.step s o) := by
  unfold Vo.step
  split
  · exact Vo.do_right h o
  · exact h

theorem Vo.fold_right {l : List Lg.Op} : ∀ {s : Vo.St}, Vo.Right s → Vo.Right (l.foldl Vo.step s) := by
  induction l with
  | nil => exact fun h => h
  | cons o l ih => exact fun h => ih (Vo.step_right h o)

theorem Vo.made_right (l : List Lg.Op) : Vo.Right (Vo.made l) := Vo.fold_right Vo.right0

end Go.Proofs.YtenkdpogdfcbgaaGreat
