import Derived.Shelf.SlGeneric
import Derived.Shelf.SlSortCmp.WholeK
import Derived.Shelf.SlSortCmp.NoneTotal
import Derived.Ground.SlsfProg
import Derived.Sort.OwnSortedInts
import Derived.Laws.AppendOwnNone
import Derived.Test.YtenkdpogdfcbgaaSkB
/- slices.SortFunc at records; the walks of woolkeep.alive$1, woolkeep.alive. -/
namespace Go.Proofs
open Go.Shelf
def Try.sortRec_ren : Go.Shelf.Ren := ⟨fun | 6 => 154 | 15 => 203 | 14 => 202 | 28 => 229 | 29 => 230 | 20 => 221 | 21 => 222 | 22 => 223 | 23 => 224 | 24 => 225 | 25 => 226 | 26 => 227 | 27 => 228 | 46 => 236 | 47 => 237 | 48 => 238 | 49 => 239 | 50 => 240 | 57 => 244 | n => n, fun | 22 => 45 | 24 => 36 | 25 => 215 | 3 => 3 | 39 => 232 | 0 => 0 | 53 => 284 | 55 => 169 | 4 => 4 | 46 => 278 | 45 => 277 | 50 => 162 | 5 => 5 | 9 => 9 | 66 => 288 | 70 => 292 | 76 => 295 | 77 => 296 | n => n, fun | n => n⟩
theorem Try.sortRec : Go.Proofs.SlLaysF0.n6 Try.prog Try.sortRec_ren := {
  mixed := by kernel_rfl
  f6 := ⟨Try.f154.name, by decide, Try.func154.trans (congrArg some (by kernel_rfl))⟩
  f14 := ⟨Try.f202.name, by decide, Try.func202.trans (congrArg some (by kernel_rfl))⟩
  f15 := Try.func203.trans (congrArg some (by kernel_rfl))
  f20 := ⟨Try.f221.name, by decide, Try.func221.trans (congrArg some (by kernel_rfl))⟩
  f21 := ⟨Try.f222.name, by decide, Try.func222.trans (congrArg some (by kernel_rfl))⟩
  f22 := ⟨Try.f223.name, by decide, Try.func223.trans (congrArg some (by kernel_rfl))⟩
  f23 := ⟨Try.f224.name, by decide, Try.func224.trans (congrArg some (by kernel_rfl))⟩
  f24 := ⟨Try.f225.name, by decide, Try.func225.trans (congrArg some (by kernel_rfl))⟩
  f25 := ⟨Try.f226.name, by decide, Try.func226.trans (congrArg some (by kernel_rfl))⟩
  f26 := ⟨Try.f227.name, by decide, Try.func227.trans (congrArg some (by kernel_rfl))⟩
  f27 := ⟨Try.f228.name, by decide, Try.func228.trans (congrArg some (by kernel_rfl))⟩
  f28 := Try.func229.trans (congrArg some (by kernel_rfl))
  f29 := Try.func230.trans (congrArg some (by kernel_rfl))
  f46 := ⟨Try.f236.name, by decide, Try.func236.trans (congrArg some (by kernel_rfl))⟩
  f47 := Try.func237.trans (congrArg some (by kernel_rfl))
  f48 := Try.func238.trans (congrArg some (by kernel_rfl))
  f49 := ⟨Try.f239.name, by decide, Try.func239.trans (congrArg some (by kernel_rfl))⟩
  f50 := ⟨Try.f240.name, by decide, Try.func240.trans (congrArg some (by kernel_rfl))⟩
  f57 := ⟨Try.f244.name, by decide, Try.func244.trans (congrArg some (by kernel_rfl))⟩
  t0 := Try.underlying0
  a0 := Try.isAgg0
  z0 := Try.sizeOf0
  v0 := Try.zeroValue0
  t3 := Try.underlying3
  a3 := Try.isAgg3
  z3 := Try.sizeOf3
  v3 := Try.zeroValue3
  t4 := Try.underlying4
  a4 := Try.isAgg4
  z4 := Try.sizeOf4
  v4 := Try.zeroValue4
  t5 := Try.underlying5
  a5 := Try.isAgg5
  z5 := Try.sizeOf5
  v5 := Try.zeroValue5
  t9 := Try.underlying9
  a9 := Try.isAgg9
  z9 := Try.sizeOf9
  v9 := Try.zeroValue9
  t22 := Try.underlying45
  a22 := Try.isAgg45
  z22 := Try.sizeOf45
  v22 := Try.zeroValue45
  t25 := Try.underlying215
  a25 := Try.isAgg215
  z25 := Try.sizeOf215
  v25 := Try.zeroValue215
  t39 := Try.underlying232
  a39 := Try.isAgg232
  z39 := Try.sizeOf232
  v39 := Try.zeroValue232
  t45 := Try.underlying277
  a45 := Try.isAgg277
  z45 := Try.sizeOf277
  v45 := Try.zeroValue277
  t46 := Try.underlying278
  a46 := Try.isAgg278
  z46 := Try.sizeOf278
  v46 := Try.zeroValue278
  t50 := Try.underlying162
  a50 := Try.isAgg162
  z50 := Try.sizeOf162
  v50 := Try.zeroValue162
  t53 := Try.underlying284
  a53 := Try.isAgg284
  z53 := Try.sizeOf284
  v53 := Try.zeroValue284
  t55 := Try.underlying169
  a55 := Try.isAgg169
  z55 := Try.sizeOf169
  v55 := Try.zeroValue169
  t66 := Try.underlying288
  a66 := Try.isAgg288
  z66 := Try.sizeOf288
  v66 := Try.zeroValue288
  t70 := Try.underlying292
  a70 := Try.isAgg292
  z70 := Try.sizeOf292
  v70 := Try.zeroValue292
  t76 := Try.underlying295
  a76 := Try.isAgg295
  z76 := Try.sizeOf295
  v76 := Try.zeroValue295
  t77 := Try.underlying296
  a77 := Try.isAgg296
  z77 := Try.sizeOf296
  v77 := Try.zeroValue296 }
end Go.Proofs

namespace Go.Proofs.Ytenkdpogdfcbgaa.Sg
open Go.Proofs.Ytenkdpogdfcbgaa

def Smal (r : R) : Prop := (-4611686018427387904 < r.id.sum ∧ r.id.sum < 4611686018427387904) ∧ -4611686018427387904 < r.id.n ∧ r.id.n < 4611686018427387904
abbrev SR := {r : R // Smal r}
instance : Inhabited SR := ⟨⟨⟨⟨false, 0, 0⟩, ⟨#[]⟩⟩, by unfold Smal; decide⟩⟩
def un (x : SR) : R := x.1
def cf (x y : R) : Int := if x.id.sum = y.id.sum then x.id.n - y.id.n else x.id.sum - y.id.sum
def lex (x y : R) : Bool := decide (cf x y < 0)
theorem lex_iff (x y : R) : lex x y = true ↔ x.id.sum < y.id.sum ∨ (x.id.sum = y.id.sum ∧ x.id.n < y.id.n) := by
  unfold lex cf
  rw [decide_eq_true_iff]
  split <;> omega
theorem lex_not (x y : R) : lex x y = false ↔ ¬ (x.id.sum < y.id.sum ∨ (x.id.sum = y.id.sum ∧ x.id.n < y.id.n)) := by
  rw [← lex_iff]
  simp
def Srt (l : List R) : Prop := l.Pairwise fun x y => lex y x = false
theorem swo : Go.Sort.SWO (Go.Proofs.ltOf fun x y : SR => cf x.1 y.1) where
  irrefl x := (lex_not x.1 x.1).2 (by omega)
  trans x y z h1 h2 := (lex_iff x.1 z.1).2 (by have := (lex_iff x.1 y.1).1 h1; have := (lex_iff y.1 z.1).1 h2; omega)
  ntrans x y z h1 h2 := (lex_not x.1 z.1).2 (by have := (lex_not x.1 y.1).1 h1; have := (lex_not y.1 z.1).1 h2; omega)

theorem ok_small {b : List Bg.It} {r : R} (hB : Bg.Good b) (h : okB b r = true) : Smal r := by
  unfold okB at h
  cases hf : b.find? (Bg.hit r.id) with
  | none => rw [hf] at h; cases h
  | some x =>
    have hx := List.find?_some hf
    have hm := List.mem_of_find?_eq_some hf
    obtain ⟨h1, h2, h3⟩ := Bg.hitB.1 hx
    obtain ⟨h4, h5, h6, h7⟩ := (Bg.one_fit (hB.one x hm)).1
    unfold Smal
    omega
theorem ok_is {b : List Bg.It} {r s : R} (h1 : okB b r = true) (h2 : okB b s = true) (he : r.id.sum = s.id.sum) (hn : r.id.n = s.id.n) : r = s := by
  obtain ⟨⟨r1, r2, r3⟩, r4⟩ := r
  obtain ⟨⟨s1, s2, s3⟩, s4⟩ := s
  dsimp only at he hn
  subst he hn
  have hr : r1 = true := by
    unfold okB at h1
    cases hf : b.find? (Bg.hit ⟨r1, r2, r3⟩) with
    | none => rw [hf] at h1; cases h1
    | some x => exact (Bg.hitB.1 (List.find?_some hf)).1
  have hs : s1 = true := by
    unfold okB at h2
    cases hf : b.find? (Bg.hit ⟨s1, r2, r3⟩) with
    | none => rw [hf] at h2; cases h2
    | some x => exact (Bg.hitB.1 (List.find?_some hf)).1
  subst hr hs
  have : r4 = s4 := by
    unfold okB at h1 h2
    cases hf : b.find? (Bg.hit ⟨true, r2, r3⟩) with
    | none => rw [hf] at h1; cases h1
    | some x =>
      rw [hf] at h1 h2
      have e1 : x.text.toList = r4.toList := eq_of_beq h1
      have e2 : x.text.toList = s4.toList := eq_of_beq h2
      exact Bg.bs_same.1 (e1.symm.trans e2)
  rw [this]
/-- Two sorted lists of the same live records are one. -/
theorem srt_eq {b : List Bg.It} {l m : List R} (hp : l.Perm m) (hl : Srt l) (hm : Srt m) (hok : ∀ r ∈ l, okB b r = true) : l = m := by
  induction l generalizing m with
  | nil => exact (List.nil_perm.1 hp).symm
  | cons x l ih =>
    cases m with
    | nil => exact absurd hp.length_eq (by simp)
    | cons y m =>
      have hx : x ∈ y :: m := hp.mem_iff.1 List.mem_cons_self
      have hy : y ∈ x :: l := hp.mem_iff.2 List.mem_cons_self
      have hxy : x = y := by
        rcases List.mem_cons.1 hx with h | h
        · exact h
        · rcases List.mem_cons.1 hy with h' | h'
          · exact h'.symm
          · have a1 := (lex_not _ _).1 ((List.pairwise_cons.1 hm).1 x h)
            have a2 := (lex_not _ _).1 ((List.pairwise_cons.1 hl).1 y h')
            exact ok_is (hok x List.mem_cons_self) (hok y (List.mem_cons_of_mem _ h')) (by omega) (by omega)
      subst hxy
      rw [ih (List.perm_cons x |>.1 hp) (List.pairwise_cons.1 hl).2 (List.pairwise_cons.1 hm).2 fun r hr => hok r (List.mem_cons_of_mem _ hr)]

end Go.Proofs.Ytenkdpogdfcbgaa.Sg

namespace Go.Proofs.Ytenkdpogdfcbgaa
open Go.RowKit Go.Sort Go.Shelf

theorem own_sorted {w : World} {base g m cap n size : Nat} {e : TypeId} {os : Array Obj} {xs vs : List Value} (h : w.ownsRow base e size (.slice (some ⟨g, 0, none⟩) m cap) m xs) (hl : vs.length = xs.length) :
    Holds id w g 0 xs.toArray ∧ g < w.heap.size ∧ (grow (putRow id (Sort.ahead w n) g 0 vs.toArray) os).ownsRow base e size (.slice (some ⟨g, 0, none⟩) m cap) m vs ∧ w.grownBy (grow (putRow id (Sort.ahead w n) g 0 vs.toArray) os) (some g) := by
  rcases h.2 with ⟨h0, _⟩ | ⟨g', cap', cur, hv, hg, hh, hn, hcap, hsz, ht⟩
  · cases h0
  cases hv
  have hlt : g < w.heap.size := (Array.getElem?_eq_some_iff.1 hh).1
  have hx : xs.length = m * size := h.1
  have hle : m * size ≤ cur.size := by rw [hsz]; exact Nat.mul_le_mul_right _ hn
  refine ⟨fun j hj => ?_, hlt, ⟨by rw [hl]; exact h.1, .inr ⟨g, cap, putCells id 0 vs.toArray cur, rfl, hg, ?_, hn, hcap, by simp [putCells, hsz], ?_⟩⟩, ⟨rfl, rfl, rfl, by simp, fun k hk hne => ?_⟩⟩
  · have hj' : j < xs.length := by simpa using hj
    refine ⟨?_, by simp [World.frozen?, hh]⟩
    have h1 : (cur.toList.take (m * size))[j]? = xs[j]? := by rw [ht]
    rw [List.getElem?_take_of_lt (by omega)] at h1
    simp only [World.cell?, hh, Nat.zero_add]
    simp only [Option.isSome_none, Bool.false_eq_true, if_false]
    rw [← Array.getElem?_toList, h1]
    simp [hj']
  · rw [heap_grow_old _ _ (by simpa using hlt)]
    simp [putRow, mapBlock, Sort.ahead, Array.getElem?_modify, hh, onCells]
  · apply List.ext_getElem?
    intro j
    by_cases hj : j < vs.length
    · rw [List.getElem?_take_of_lt (by omega), Array.getElem?_toList]
      simp [putCells, hj, show j < cur.size by omega]
    · rw [List.getElem?_take_eq_none (by omega), List.getElem?_eq_none (by omega)]
  · rw [heap_grow_old _ _ (by simpa using hk)]
    have : g ≠ k := fun e => hne (by rw [e])
    simp [putRow, mapBlock, Sort.ahead, Array.getElem?_modify, this]

def encR (x : Sg.SR) : List Value := x.1.c
theorem flat_ev (d : Array Sg.SR) : flatK encR 4 d = (ev (d.toList.map Sg.un)).toArray := by
  have hs : (ev (d.toList.map Sg.un)).length = d.size * 4 := by rw [ev_length]; simp
  refine ext_get! (by simp [flatK, hs]) fun t ht => ?_
  have ht4 : t < d.size * 4 := by simpa [flatK] using ht
  rw [get_flatK _ _ _ _ ht4]
  have hq : t / 4 < d.size := by omega
  have hg : (d.toList.map Sg.un)[t / 4]? = some (Sg.un d[t / 4]!) := by
    rw [List.getElem?_map, Array.getElem?_toList]
    simp [hq]
  obtain ⟨k0, k1, k2, k3⟩ := ev_get hg
  have hr : t = t / 4 * 4 + t % 4 := by omega
  have hm : t % 4 < 4 := Nat.mod_lt _ (by decide)
  have hc : ∀ (i : Nat) (v : Value), (ev (d.toList.map Sg.un))[i]? = some v → (ev (d.toList.map Sg.un)).toArray[i]! = v := fun i v h => by
    obtain ⟨h1, rfl⟩ := List.getElem?_eq_some_iff.1 h
    simp [h1]
  generalize t % 4 = r at *
  generalize t / 4 = q at *
  subst hr
  have hr4 : r = 0 ∨ r = 1 ∨ r = 2 ∨ r = 3 := by omega
  rcases hr4 with rfl | rfl | rfl | rfl
  · rw [Nat.add_zero, hc _ _ k0]; rfl
  · rw [hc _ _ k1]; rfl
  · rw [hc _ _ k2]; rfl
  · rw [hc _ _ k3]; rfl

set_option maxHeartbeats 2000000 in
/-- The closure of alive. -/
theorem cmp_E (x y : Sg.R) (hx : Sg.Smal x) (hy : Sg.Smal y) (W : World) : Calls Try.prog 155 #[.agg x.c.toArray, .agg y.c.toArray] W fun e w' => e = .returned (.int .i64 (Sg.cf x y)) ∧ ∃ q os', w' = grow (W.drewN q) os' := by
  obtain ⟨⟨x1, x2, x3⟩, x4⟩ := x
  obtain ⟨⟨y1, y2, y3⟩, y4⟩ := y
  unfold Sg.Smal at hx hy
  dsimp only at hx hy
  have hw1 : IntKind.i64.wrap (x2 - y2) = x2 - y2 := IntWalk.i64_in _ ⟨by omega, by omega⟩
  have hw2 : IntKind.i64.wrap (x3 - y3) = x3 - y3 := IntWalk.i64_in _ ⟨by omega, by omega⟩
  by_cases h : x2 = y2
  · subst h
    have hc : Sg.cf ⟨⟨x1, x2, x3⟩, x4⟩ ⟨⟨y1, x2, y3⟩, y4⟩ = x3 - y3 := if_pos rfl
    rw [hc]
    clear hc hw1 hx hy
    show Calls _ _ #[.agg #[.bool x1, .int .i64 x2, .int .i64 x3, .string x4], .agg #[.bool y1, .int .i64 x2, .int .i64 y3, .string y4]] _ _
    go_enter Try.func155, Try.ntmps155
    go_wp2_with fail
    go_wp2_with fail
    go_ret
    exact ⟨rfl, 0, _, by rw [alloc_eq_grow, alloc_eq_grow, grow_grow]; rfl⟩
  · have hc : Sg.cf ⟨⟨x1, x2, x3⟩, x4⟩ ⟨⟨y1, y2, y3⟩, y4⟩ = x2 - y2 := if_neg h
    rw [hc]
    clear hc hw2 hx hy
    show Calls _ _ #[.agg #[.bool x1, .int .i64 x2, .int .i64 x3, .string x4], .agg #[.bool y1, .int .i64 y2, .int .i64 y3, .string y4]] _ _
    go_enter Try.func155, Try.ntmps155
    go_wp2_with fail
    go_wp2_with fail
    go_ret
    exact ⟨rfl, 0, _, by rw [alloc_eq_grow, alloc_eq_grow, grow_grow]; rfl⟩

theorem ext_all {α : Type} (d : Array α) (n : Nat) (h : d.size = n) : d.extract 0 n = d := by subst h; simp

theorem sort_E (base g m c : Nat) (l : List Sg.R) (w : World) (h : w.ownsRow base 36 4 (.slice (some ⟨g, 0, none⟩) m c) m (ev l)) (hs : ∀ r ∈ l, Sg.Smal r) (hm : m ≤ 1000000) :
    Calls Try.prog 154 #[.slice (some ⟨g, 0, none⟩) m c, .func (.func 155) #[] #[]] w fun e w' => e = .returned (.tuple #[]) ∧ ∃ out : List Sg.R, out.Perm l ∧ Sg.Srt out ∧ w'.ownsRow base 36 4 (.slice (some ⟨g, 0, none⟩) m c) m (ev out) ∧ w.grownBy w' (some g) := by
  have hl := own_len4 h
  obtain ⟨L, hL⟩ : ∃ L : List Sg.SR, L.map Sg.un = l := by
    clear h hl
    induction l with
    | nil => exact ⟨[], rfl⟩
    | cons x l ih =>
      obtain ⟨L, rfl⟩ := ih fun r hr => hs r (List.mem_cons_of_mem _ hr)
      exact ⟨⟨x, hs x List.mem_cons_self⟩ :: L, rfl⟩
  have hLl : L.length = m := by rw [← hl, ← hL, List.length_map]
  obtain ⟨h1, h2, -, -⟩ := own_sorted (n := 0) (os := #[]) h rfl
  have hH : HoldsK encR 4 w g 0 L.toArray := by
    unfold HoldsK
    rw [flat_ev]
    show Holds id w g 0 (ev (L.map Sg.un)).toArray
    rw [hL]
    exact h1
  have eg : ∀ args w, (callFunc 155 args).run Try.prog w = .ok (.enter 155 args) w := enters_of Try.func155 (by kernel_rfl) rfl
  have hsz : L.toArray.size = m := hLl
  have hcon := AnyQ.slices_SortFunc Try.sortRec 4 Try.isAgg36 Try.sizeOf36 encR (fun _ => rfl) (fun x v hv => rec_ones x.1.id.is x.1.id.sum x.1.id.n x.1.tx v hv) (fun x y : Sg.SR => Sg.cf x.1 y.1) Sg.swo 155 #[] g 0 c L.toArray w eg (fun _ _ _ _ x y => cmp_E x.1 y.1 x.2 y.2 _) hH h2 (by omega)
  rw [hsz] at hcon
  refine hcon.mono ?_
  rintro e w' ⟨rfl, d', n, os, hp, hq, rfl⟩
  obtain ⟨hp1, -, hp2⟩ := hp
  rw [ext_all d' m (by rw [hp1, hsz]), ext_all _ m hsz] at hp2
  have hlen : (ev (d'.toList.map Sg.un)).length = (ev l).length := by rw [ev_length, ev_length, hl, List.length_map, Array.length_toList, hp1, hsz]
  obtain ⟨-, -, h3, h4⟩ := own_sorted (n := n) (os := os) h hlen
  refine ⟨rfl, d'.toList.map Sg.un, ?_, ?_, ?_, ?_⟩
  · rw [← hL]
    exact hp2.map _
  · refine List.pairwise_iff_getElem.2 fun i j hi hj hij => ?_
    have h5 := hq i j (Nat.zero_le _) hij (by have := hj; rw [List.length_map, Array.length_toList] at this; omega)
    rw [List.length_map, Array.length_toList] at hi hj
    rw [List.getElem_map, List.getElem_map, Array.getElem_toList, Array.getElem_toList]
    rw [getElem!_pos d' j hj, getElem!_pos d' i hi] at h5
    exact h5
  · unfold sortWorldK putRowK
    rw [flat_ev]
    exact h3
  · unfold sortWorldK putRowK
    rw [flat_ev]
    exact h4

theorem sort_none (a : Option Addr) (c : Nat) (fv : Value) (w : World) : Calls Try.prog 154 #[.slice a 0 c, fv] w fun e w' => e = .returned (.tuple #[]) ∧ w' = w := AnyF.slices_SortFunc_none Try.sortRec a c fv w

theorem Sg.live_flat_len {bl : List Bg.It} {l : List (List Sg.R)} (hG : Sg.Good l) (k : Nat) : ((Sg.lives bl l).take k).flatten.length ≤ 400 := by
  have h1 := Sg.flat_len (l := (Sg.lives bl l).take k) fun s hs => by
    obtain ⟨i, hi, rfl⟩ := List.getElem_of_mem (List.mem_of_mem_take hs)
    have hi' : i < l.length := by rw [← Sg.lives_length bl l]; exact hi
    have h2 := Sg.lives_get (b := bl) (List.getElem?_eq_getElem hi')
    obtain ⟨h3, h4⟩ := List.getElem?_eq_some_iff.1 h2
    rw [h4]
    exact Nat.le_trans (Sg.live_len _ _ _) (Sg.sok_short (hG.seg _ (List.getElem_mem hi')))
  have h2 := hG.len
  have h3 : ((Sg.lives bl l).take k).length ≤ l.length := by rw [List.length_take, Sg.lives_length]; omega
  omega

set_option maxRecDepth 100000 in
set_option maxHeartbeats 16000000 in
theorem alive_E (a : Option Addr) (n c base : Nat) (rs : List Rl) (l : List (List Sg.R)) (ba : Option Addr) (bn bc : Nat) (bl : List Bg.It) (w : World) (hS : SgW w base a n c rs l) (hG : Sg.Good l) (hI : ISl w ba bn bc bl) (hB : Bg.Good bl) :
    Calls Try.prog 70 #[.slice a n c, .slice ba bn bc] w fun e w' => ∃ (out : List Sg.R) (b : Option Addr) (m d : Nat), e = .returned (.slice b m d) ∧ w'.ownsRow w.heap.size 36 4 (.slice b m d) m (ev out) ∧ out.Perm (Sg.alive bl l.flatten) ∧ Sg.Srt out ∧ Below w.heap.size w w' := by
  have hn16 : n ≤ 16 := by rw [← hS.len]; exact hG.len
  have K1 := Alive_E a n c base rs l ba bn bc bl w hS hG hI hB
  have HLF : Hid (∀ k, ((Sg.lives bl l).take k).flatten.length ≤ 400) := Lib.hid fun k => Sg.live_flat_len hG k
  have HAF : Hid ((Sg.lives bl l).flatten = Sg.alive bl l.flatten) := Lib.hid (Sg.lives_flat bl l)
  have HSM : Hid (∀ r ∈ (Sg.lives bl l).flatten, Sg.Smal r) := Lib.hid fun r hr => by
    rw [HAF.out] at hr
    exact Sg.ok_small hB (Sg.alive_mem.1 hr).2
  obtain ⟨i1, hi1, hy0, hy1, hy2⟩ := info_parts Try.infoRec
  have HLN : Hid ((Sg.lives bl l).length = n) := Lib.hid (by rw [Sg.lives_length, hS.len])
  clear hS hG hI hB
  generalize Sg.lives bl l = LL at *
  generalize Sg.alive bl l.flatten = AL at *
  go_enter Try.func70, Try.ntmps70
  go_wp2_with fail
  with_reducible refine K1.mono ?_
  rintro e v1 ⟨g, zs, rfl, hS, hb⟩
  have HS := Lib.hid hS; have HB1 := Lib.hid hb
  clear K1 hS hb
  have HV1 : Hid (w.heap.size ≤ v1.heap.size) := Lib.hid HB1.out.size
  have HR0 : Hid (v1.ownsRow v1.heap.size 36 4 (.slice none 0 0) 0 (ev (LL.take 0).flatten)) := Lib.hid (World.ownsRow_nil _ _ _ _)
  go_wp2_with fail
  go_loopw [5, 12] (fun v x wr => ∃ k m : Nat, x = .int .i64 k ∧ k ≤ n ∧ Hid (Below v1.heap.size v1 wr) ∧ Hid (wr.ownsRow v1.heap.size 36 4 v m (ev (LL.take k).flatten))) (fun _ x _ => n - (intOf x).toNat)
  case atStart => exact ⟨0, 0, rfl, Nat.zero_le _, Lib.hid (Below.refl _ _), HR0⟩
  case round =>
    obtain ⟨k, m, rfl, hk, HB, HR⟩ := hrel
    have hml := HLF.out k
    rw [own_len4 HR.out] at hml
    by_cases hkn : k < n
    · obtain ⟨g7, r7, s7, e7, hg7, -, c7w, hr7, hls7, ho7⟩ := (HS.out.keep HB.out).at hkn
      obtain rfl : g = g7 := by injection e7 with e7; injection e7
      have hnl := own_len4 ho7
      have hnext : (LL.take (k + 1)).flatten = (LL.take k).flatten ++ s7 := by
        obtain ⟨h1, h2⟩ := List.getElem?_eq_some_iff.1 hls7
        rw [List.take_succ_eq_append_getElem h1, List.flatten_append, h2]
        simp
      have hml2 := HLF.out (k + 1)
      rw [hnext, List.length_append, own_len4 HR.out, hnl] at hml2
      have HNX := Lib.hid hnext
      obtain ⟨ra, rn, rc⟩ := r7
      dsimp only at c7w ho7 hnl hml2
      have hsz := HB.out.size
      clear hnext e7 hg7 hr7 hls7
      rcases ra with _ | x7
      · have hrn : rn = 0 ∧ rc = 0 ∧ s7 = [] := by
          rcases ho7.2 with ⟨h0, h1⟩ | ⟨g', cap', cur, hv, -⟩
          · cases h0
            exact ⟨rfl, rfl, List.length_eq_zero_iff.1 hnl⟩
          · cases hv
        obtain ⟨rfl, rfl, rfl⟩ := hrn
        clear ho7 hnl
        go_wp2_with (at_builtin; refine wpList_append_own_none rfl _ _ _ rfl v1.heap.size 36 i1 4 Try.underlying45 hi1 _ m _ rfl HR.out rfl ?_)
        go_roundw
        case rel => exact ⟨k + 1, m, by go_num, hkn, HB, Lib.hid (by rw [HNX.out, List.append_nil]; exact HR.out)⟩
        case measure => simp [intOf]; omega
      · obtain ⟨g8, cap8, hv8⟩ : ∃ g8 cap8, Value.slice (some x7) rn rc = .slice (some ⟨g8, 0, none⟩) rn cap8 := by
          rcases ho7.2 with ⟨h0, h1⟩ | ⟨g', cap', cur, hv, -⟩
          · cases h0
          · exact ⟨g', cap', hv⟩
        obtain rfl : x7 = ⟨g8, 0, none⟩ := by injection hv8 with hv8; injection hv8
        have HCL : Hid (∀ j u, (ev s7)[j]? = some u → wr.cell? ((⟨g8, 0, none⟩ : Addr).add j) = some u) := Lib.hid fun j u hu => ho7.cells (g := g8) rfl j u hu
        have HLL : Hid ((ev s7).length = rn * 4) := Lib.hid (by rw [ev_length, hnl])
        have hb1 : m + rn ≤ maxLen := by unfold maxLen; omega
        have hb2 : (m + rn) * 40 ≤ 140737488355328 := by omega
        clear ho7 hnl hv8
        go_wp2_with (at_builtin; refine wpList_append_own _ rfl _ _ _ rfl v1.heap.size 36 i1 (.agg #[.bool false, .int .i64 0, .int .i64 0, .string ⟨#[]⟩]) 4 40 Try.underlying45 hi1 hy0 hy1 hy2 rfl (by decide) _ m _ rfl HR.out ⟨g8, 0, none⟩ rn rc (ev s7) rfl HLL.out HCL.out (ev_one s7) hb1 hb2 hsz ?_)
        intro v' w' q1 q2 _
        have HO' : Hid (w'.ownsRow v1.heap.size 36 4 v' (m + rn) (ev (LL.take (k + 1)).flatten)) := Lib.hid (by rw [HNX.out, ev_app]; exact q1)
        have HB' : Hid (Below v1.heap.size v1 w') := Lib.hid (own_grown HR.out HB.out (Nat.le_refl _) hsz q2)
        clear q1 q2 c7w
        go_wp2_with fail
        go_roundw
        case rel => exact ⟨k + 1, m + rn, by go_num, hkn, HB', HO'⟩
        case measure => simp [intOf]; omega
    · obtain rfl : k = n := by omega
      have HRE : Hid (wr.ownsRow v1.heap.size 36 4 u5 m (ev LL.flatten)) := Lib.hid (by
        have h1 := HR.out
        rw [List.take_of_length_le (by rw [HLN.out]; exact Nat.le_refl _)] at h1
        exact h1)
      have HBE : Hid (Below w.heap.size w wr) := Lib.hid (HB1.out.trans (HB.out.mono HV1.out))
      clear HR HB HLF
      rcases HRE.out.2 with ⟨h0, h1⟩ | ⟨g9, cap9, cur, hv, hg9, -⟩
      · have hnil : LL.flatten = [] := List.length_eq_zero_iff.1 (by rw [own_len4 HRE.out, h1])
        subst h0
        subst h1
        have K2 := fun W => sort_none none 0 (.func (.func 155) #[] #[]) W
        have HN := Lib.hid hnil
        clear hnil
        go_wp2_with fail
        with_reducible refine (K2 _).mono ?_
        rintro e w3 ⟨rfl, rfl⟩
        go_wp2_with fail
        go_ret
        exact ⟨[], none, 0, 0, rfl, World.ownsRow_nil _ _ _ _, by rw [← HAF.out, HN.out], List.Pairwise.nil, HBE.out⟩
      · subst hv
        have K2 := sort_E _ g9 m cap9 _ wr HRE.out HSM.out (by omega)
        have HG9 := Lib.hid hg9
        clear hg9
        go_wp2_with fail
        with_reducible refine K2.mono ?_
        rintro e w3 ⟨rfl, out, hp, hq, ho, hg⟩
        have HP := Lib.hid hp; have HQ := Lib.hid hq; have HO := Lib.hid ho
        have HBF : Hid (Below w.heap.size w w3) := Lib.hid (HBE.out.grown hg HBE.out.size (fun k e => by have := Option.some.inj e; have := HG9.out; have := HV1.out; omega))
        clear K2 hp hq ho hg
        go_wp2_with fail
        go_ret
        exact ⟨out, _, _, _, rfl, own_low HO.out HV1.out, by rw [← HAF.out]; exact HP.out, HQ.out, HBF.out⟩

end Go.Proofs.Ytenkdpogdfcbgaa
