/- LogBursts: a log of which sixteen bits side by side, or fewer, are turned in a frame's body is told; for every input. -/
import Derived.Test.YthccdoejnklidaaLrW
import Derived.Test.YthccdoejnklidaaBurstW2
namespace Go.Proofs.Ythccdoejnklidaa.Lr
open Go.Proofs.Ythccdoejnklidaa

theorem getD_left (l m : List UInt8) (k : Nat) (h : k < l.length) : (l ++ m).getD k 0 = l.getD k 0 := by
  rw [List.getD_eq_getElem?_getD, List.getD_eq_getElem?_getD, List.getElem?_append_left h]

/-- A frame that is told wrong is told so whatever follows. -/
theorem get_wrong {l : List UInt8} (h : Fr.get l = (6, 0, [], 0)) (m : List UInt8) : Fr.get (l ++ m) = (6, 0, [], 0) := by
  unfold Fr.get at h
  split at h
  · cases h
  · rename_i h1
    split at h
    · cases h
    · rename_i h2
      split at h
      · cases h
      · rename_i h3
        split at h
        · rename_i h4
          have hn : Fr.nn (l ++ m) = Fr.nn l := by
            unfold Fr.nn
            rw [getD_left _ _ _ (by omega), getD_left _ _ _ (by omega)]
          unfold Fr.get
          rw [hn, getD_left _ _ _ (by omega), List.length_append, if_neg (by omega), if_neg h2, if_neg (by omega), List.take_append_of_le_length (by omega), List.drop_append_of_le_length (by omega),
            List.take_append_of_le_length (by rw [List.length_drop]; omega), if_pos h4]
        · cases h

theorem body_low (o : Lg.Op) : 5 ≤ (body o).length := by
  unfold body Lg.enc Lg.tx
  simp only [List.length_append, List.length_cons, List.length_nil]
  omega

theorem log_one (o : Lg.Op) : log [o] = frm o := by rw [log_cons, log_nil, List.append_nil]

/-- A burst in the body of a log's frame. -/
theorem log_burst {o : Lg.Op} (h : Lg.chkE o = 0) {a t : Nat} (ha : a + 16 ≤ 8 * ((frm o).length - 3)) (ht : t < 65536) (h0 : t ≠ 0) (m : List UInt8) :
    (frm o).take 3 ++ brs ((frm o).drop 3) a t 16 ++ m ≠ [] ∧ Fr.get ((frm o).take 3 ++ brs ((frm o).drop 3) a t 16 ++ m) = (6, 0, [], 0) := by
  have hl := body_length h
  have hf := frm_length h
  constructor
  · intro hE
    have h1 := congrArg List.length hE
    rw [List.length_append, List.length_append, List.length_take, List.length_nil] at h1
    omega
  · exact get_wrong (Fr.get_burst (by decide) (by decide) (by omega) (by omega) ht h0) m

theorem run_head' : ∀ {l m : List Lg.Op} {s : Vo.St}, (run s (l ++ m)).e = 0 → (run s l).e = 0
  | [], _, _, _ => rfl
  | o :: l, m, s, h => by
    obtain ⟨h1, h2⟩ := run_cons (l := l ++ m) h
    have h3 : (run s (o :: (l ++ m))).e = 0 := h
    rw [h2] at h3
    show (if (Vo.doR s o).e ≠ 0 then _ else run (Vo.doR s o).s l : Vo.An).e = 0
    rw [if_neg (fun h => h h1)]
    exact run_head' h3

theorem log_part {l : List Lg.Op} {i : Nat} (hi : i < l.length) : log l = log (l.take i) ++ (frm l[i] ++ log (l.drop (i + 1))) := by
  have h : l = l.take i ++ l[i] :: l.drop (i + 1) := by rw [← List.drop_eq_getElem_cons hi, List.take_append_drop]
  exact (congrArg log h).trans (by rw [log_app, log_cons])
end Go.Proofs.Ythccdoejnklidaa.Lr

namespace Go.Proofs.Ythccdoejnklidaa
open Go.RowKit

abbrev opC : Lg.Op := ⟨2, ⟨#[97]⟩, ⟨#[]⟩, 0, ⟨#[]⟩⟩
theorem opC_chk : ∀ t ∈ [opC], Lg.chkE t = 0 := fun t ht => by
  rw [List.mem_singleton] at ht
  subst ht
  kernel_rfl
theorem opC_size : (⟨(Lr.log [opC]).toArray⟩ : ByteArray).size = 13 := by kernel_rfl

theorem one_opC (w : World) : OSl (w.alloc (.cells #[.int .i64 2, .string ⟨#[97]⟩, .string ⟨#[]⟩, .int .i64 0, .string ⟨#[]⟩] 28)) (some ⟨w.heap.size, 0, none⟩) 1 1 [opC] := by
  refine ⟨fun _ => ⟨_, rfl, fun j t hj => ?_⟩, rfl, Nat.le_refl _, by decide, fun h => (by cases h)⟩
  obtain rfl : j = 0 := by
    rcases Nat.lt_or_ge j 1 with h | h
    · omega
    · rw [List.getElem?_eq_none_iff.2 (by simpa using h)] at hj; cases hj
  cases hj
  exact ⟨cell_new w (k := 0) rfl, cell_new w (k := 1) rfl, cell_new w (k := 2) rfl, cell_new w (k := 3) rfl, cell_new w (k := 4) rfl⟩

/-- One deed of a slice. -/
theorem OSl.mid {w : World} {A : Addr} {n c i : Nat} {ts : List Lg.Op} (h : OSl w (some A) n c ts) (hi : i < ts.length) : OSl w (some (A.add (i * 5))) 1 (c - i) [ts[i]] := by
  obtain ⟨x, hx, hc⟩ := h.at_ (by rintro rfl; simp at hi)
  cases hx
  have hl := h.len; have hcap := h.cap; have hm := h.max
  refine ⟨fun _ => ⟨_, rfl, fun j t hj => ?_⟩, rfl, by omega, by omega, fun h => by cases h⟩
  obtain rfl : j = 0 := by
    rcases Nat.lt_or_ge j 1 with h | h
    · omega
    · rw [List.getElem?_eq_none_iff.2 (by simpa using h)] at hj; cases hj
  obtain rfl : ts[i] = t := by simpa using hj
  have := hc i _ (List.getElem?_eq_getElem hi)
  rw [Go.Deep.add_add, Go.Deep.add_add, Go.Deep.add_add, Go.Deep.add_add, Go.Deep.add_add, Nat.zero_mul, Nat.zero_add, Nat.zero_add, Nat.zero_add, Nat.zero_add, Nat.add_zero]
  exact this

/-- The box for the state, as it is laid. -/
def FreshS (W : World) (g : Nat) : Prop := W.cell? ⟨g, 0, none⟩ = some (.slice none 0 0) ∧ W.cell? ⟨g, 1, none⟩ = some (.slice none 0 0) ∧ W.frozen? ⟨g, 0, none⟩ = false ∧ W.frozen? ⟨g, 1, none⟩ = false ∧ g < W.heap.size

theorem viaS {w X W : World} (h : Below X.heap.size X W) (k : Below w.heap.size w X) : Below w.heap.size w W := k.trans (h.mono k.size)

theorem freshS_new (X : World) : FreshS (X.alloc (.cells #[.slice none 0 0, .slice none 0 0] 32)) X.heap.size :=
  ⟨cell_new X (k := 0) rfl, cell_new X (k := 1) rfl, new_frozen X _ _ _ 0, new_frozen X _ _ _ 1, by rw [World.size_alloc]; omega⟩

theorem FreshS.keep {X W : World} {g : Nat} (hb : Below X.heap.size X W) (h : FreshS X g) : FreshS W g := by
  obtain ⟨h1, h2, h3, h4, h5⟩ := h
  exact ⟨(hb.cell (p := ⟨g, 0, none⟩) h5).trans h1, (hb.cell (p := ⟨g, 1, none⟩) h5).trans h2, (hb.frozen (p := ⟨g, 0, none⟩) h5).trans h3, (hb.frozen (p := ⟨g, 1, none⟩) h5).trans h4, Nat.lt_of_lt_of_le h5 hb.size⟩

theorem log_sizeB {l : List Lg.Op} (h : ∀ o ∈ l, Lg.chkE o = 0) (hl : l.length ≤ 200) : (⟨(Lr.log l).toArray⟩ : ByteArray).size ≤ 20000 := by
  have h1 := Lr.log_length h
  show (Lr.log l).toArray.size ≤ _
  rw [List.size_toArray]
  omega

/-- A log with a burst, replayed. -/
theorem Replay_burst {l : List Lg.Op} (hr : (Lr.run Vo.st0 l).e = 0) (hl : l.length ≤ 60) {i : Nat} (hi : i < l.length) {a t : Nat} (one S T : ByteArray) (ho : one = ⟨(Lr.frm l[i]).toArray⟩) (hT : T = ⟨(Lr.log (l.take i)).toArray⟩) (hS : S = ⟨(Lr.log l).toArray⟩)
    (X : ByteArray) (hX : X = ⟨(brs (one.extract 3 one.size).data.toList a t 16).toArray⟩) (ha : a + 16 ≤ 8 * (one.size - 3)) (ht : t < 65536) (h0 : t ≠ 0) (w : World) :
    Calls Try.prog 10 #[.string (T ++ one.extract 0 3 ++ X ++ S.extract (min S.size (T.size + one.size)) S.size)] w (RepTo w Vo.st0 0 6) := by
  have hc := Lr.run_chk hr
  have hk := hc _ (List.getElem_mem hi)
  have hosz : one.size = (Lr.frm l[i]).length := by rw [ho]; exact List.size_toArray ..
  have hTsz : T.size = (Lr.log (l.take i)).length := by rw [hT]; exact List.size_toArray ..
  have hrn : (Lr.run Vo.st0 (l.take i)).e = 0 := by
    have h : (Lr.run Vo.st0 (l.take i ++ l.drop i)).e = 0 := by rw [List.take_append_drop]; exact hr
    exact Lr.run_head' h
  have hSl : S.data.toList = Lr.log (l.take i) ++ (Lr.frm l[i] ++ Lr.log (l.drop (i + 1))) := by rw [hS]; exact Lr.log_part hi
  have hSsz : S.size = (Lr.log (l.take i)).length + ((Lr.frm l[i]).length + (Lr.log (l.drop (i + 1))).length) := by rw [← Lr.size_list, hSl, List.length_append, List.length_append]
  have hmin : min S.size (T.size + one.size) = (Lr.log (l.take i)).length + (Lr.frm l[i]).length := by omega
  have e1 : (one.extract 0 3).data.toList = (Lr.frm l[i]).take 3 := by rw [← ByteArray.toList_eq, ext_list, List.drop_zero, Nat.sub_zero, ho]
  have e2 : (one.extract 3 one.size).data.toList = (Lr.frm l[i]).drop 3 := by rw [drop_bytes, ho]
  have e3 : (S.extract ((Lr.log (l.take i)).length + (Lr.frm l[i]).length) S.size).data.toList = Lr.log (l.drop (i + 1)) := by
    rw [drop_bytes, hSl, ← List.drop_drop, List.drop_left, List.drop_left]
  obtain ⟨b1, b2⟩ := Lr.log_burst hk (a := a) (t := t) (by omega) ht h0 (Lr.log (l.drop (i + 1)))
  rw [hmin]
  have hlist : (T ++ one.extract 0 3 ++ X ++ S.extract ((Lr.log (l.take i)).length + (Lr.frm l[i]).length) S.size).data.toList = Lr.log (l.take i) ++ ((Lr.frm l[i]).take 3 ++ brs ((Lr.frm l[i]).drop 3) a t 16 ++ Lr.log (l.drop (i + 1))) := by
    simp only [ByteArray.data_append, Array.toList_append]
    rw [e1, e3, hX, hT, e2]
    simp only [List.append_assoc]
  have hlen := congrArg List.length hlist
  rw [Lr.size_list] at hlen
  have hz : (T ++ one.extract 0 3 ++ X ++ S.extract ((Lr.log (l.take i)).length + (Lr.frm l[i]).length) S.size).size ≤ 9223372036854775807 := by
    rw [hlen]
    have h1 := Lr.log_length hc
    have h2 := Lr.log_part hi
    rw [h2] at h1
    simp only [List.length_append, brs_length, List.length_take, List.length_drop] at h1 ⊢
    omega
  have h := Replay_L _ (l.take i) _ 6 w hlist hz (by rw [List.length_take]; omega) hrn (Or.inr (Or.inr ⟨b1, b2, rfl⟩))
  rw [if_neg (by decide), if_neg (by decide)] at h
  exact h

end Go.Proofs.Ythccdoejnklidaa
