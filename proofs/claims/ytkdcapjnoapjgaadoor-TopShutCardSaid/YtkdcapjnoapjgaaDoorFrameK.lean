/- frame.Get and frame.Put in the form that the laws take. -/
import Derived.Test.YtkdcapjnoapjgaaDoorFrameW
import Derived.Test.YtkdcapjnoapjgaaDoorShut
namespace Go.Proofs.YtkdcapjnoapjgaaDoor
open Go.RowKit

/-- What a call of Get leaves: kind, body, bytes used, error. -/
def GetAns (s : ByteArray) (k : Nat) (b : ByteArray) (n e : Nat) : Prop := ∀ w, Calls Tryd.prog 7 #[.string s] w fun r w' => r = .returned (.tuple #[.agg #[.int .i64 k, .string b], .int .i64 n, .int .i64 e]) ∧ Below w.heap.size w w'

theorem GetAns.use {s b : ByteArray} {k n e : Nat} {w : World} {R : Ending → World → Prop} (h : GetAns s k b n e)
    (hR : ∀ r w', r = .returned (.tuple #[.agg #[.int .i64 k, .string b], .int .i64 n, .int .i64 e]) ∧ Below w.heap.size w w' → R r w') : Calls Tryd.prog 7 #[.string s] w R := (h w).mono hR

/-- What a call of Put leaves. -/
def PutAns (k : Int) (b t : ByteArray) (e : Nat) : Prop := ∀ w, Calls Tryd.prog 6 #[.agg #[.int .i64 k, .string b]] w fun r w' => r = .returned (.tuple #[.string t, .int .i64 e]) ∧ Below w.heap.size w w'

theorem PutAns.use {k : Int} {b t : ByteArray} {e : Nat} {w : World} {R : Ending → World → Prop} (h : PutAns k b t e)
    (hR : ∀ r w', r = .returned (.tuple #[.string t, .int .i64 e]) ∧ Below w.heap.size w w' → R r w') : Calls Tryd.prog 6 #[.agg #[.int .i64 k, .string b]] w R := (h w).mono hR

theorem mk_list (s : ByteArray) : (⟨s.data.toList.toArray⟩ : ByteArray) = s := by cases s; simp

theorem getAns {s : ByteArray} {k n e : Nat} {b : List UInt8} (hs : s.size ≤ maxLen) (h : Fr.get s.data.toList = (e, k, b, n)) : GetAns s k ⟨b.toArray⟩ n e := by
  intro w
  have hll : s.data.toList.length = s.size := by simp
  have hs' := hs
  unfold maxLen at hs'
  have l0 := bt_hi s.data.toList 0
  have l1 := bt_hi s.data.toList 1
  have l2 := bt_hi s.data.toList 2
  have e0 : bt s.data.toList 0 = ((s.data.toList.getD 0 0).toNat : Int) := rfl
  have e1 : bt s.data.toList 1 = ((s.data.toList.getD 1 0).toNat : Int) := rfl
  have e2 : bt s.data.toList 2 = ((s.data.toList.getD 2 0).toNat : Int) := rfl
  have hnn : Fr.nn s.data.toList = 256 * (s.data.toList.getD 1 0).toNat + (s.data.toList.getD 2 0).toNat := rfl
  unfold Fr.get at h
  by_cases h3 : s.data.toList.length < 3
  · rw [if_pos h3] at h
    obtain ⟨rfl, rfl, rfl, rfl⟩ : 7 = e ∧ 0 = k ∧ [] = b ∧ 0 = n := by simpa using h
    exact Get_short s w (by omega)
  rw [if_neg h3] at h
  by_cases h4 : s.data.toList.getD 0 0 = 0 ∨ 700 < Fr.nn s.data.toList
  · rw [if_pos h4] at h
    obtain ⟨rfl, rfl, rfl, rfl⟩ : 3 = e ∧ 0 = k ∧ [] = b ∧ 0 = n := by simpa using h
    refine Get_form s w _ _ _ _ (by omega) (by omega) e0 e1 e2 (by omega) (by omega) hnn ?_
    by_cases hz : s.data.toList.getD 0 0 = 0
    · left; rw [hz]; rfl
    · right
      refine ⟨beq_eq_false_iff_ne.2 (fun h => hz (UInt8.toNat_inj.1 (by show _ = 0; omega))), decide_eq_true ?_⟩
      rcases h4 with h4 | h4
      · exact absurd h4 hz
      · omega
  rw [if_neg h4] at h
  have hz : ((((s.data.toList.getD 0 0).toNat : Nat) : Int) == 0) = false := beq_eq_false_iff_ne.2 (fun h => h4 (Or.inl (UInt8.toNat_inj.1 (by show _ = 0; omega))))
  have hn7 : Fr.nn s.data.toList ≤ 700 := by
    rcases Nat.lt_or_ge 700 (Fr.nn s.data.toList) with h | h
    · exact absurd (Or.inr h) h4
    · exact h
  by_cases h5 : s.data.toList.length < Fr.nn s.data.toList + 7
  · rw [if_pos h5] at h
    obtain ⟨rfl, rfl, rfl, rfl⟩ : 7 = e ∧ 0 = k ∧ [] = b ∧ 0 = n := by simpa using h
    exact Get_cut s w _ _ _ _ (by omega) (by omega) e0 e1 e2 (by omega) (by omega) hnn hz hn7 (by omega)
  rw [if_neg h5] at h
  have hU : (s.extract (Fr.nn s.data.toList + 3) (Fr.nn s.data.toList + 7)).data.toList = (s.data.toList.drop (Fr.nn s.data.toList + 3)).take 4 := by
    rw [Lib.extract_data, show Fr.nn s.data.toList + 7 - (Fr.nn s.data.toList + 3) = 4 from by omega]
  have key := fun eq heq => Get_rest s ⟨(Fr.tl (Fr.pr (s.data.toList.take (Fr.nn s.data.toList + 3)))).toArray⟩ _ _ w _ _ _ _ (by omega) e0 e1 e2 (by omega) (by omega) (by omega) hnn hz hn7 (by omega) rfl rfl rfl eq heq
  by_cases h6 : Fr.tl (Fr.pr (s.data.toList.take (Fr.nn s.data.toList + 3))) = (s.data.toList.drop (Fr.nn s.data.toList + 3)).take 4
  · rw [if_neg (fun h => h h6)] at h
    obtain ⟨rfl, rfl, rfl, rfl⟩ : 0 = e ∧ (s.data.toList.getD 0 0).toNat = k ∧ (s.data.toList.drop 3).take (Fr.nn s.data.toList) = b ∧ Fr.nn s.data.toList + 7 = n := by simpa using h
    have hB : (⟨((s.data.toList.drop 3).take (Fr.nn s.data.toList)).toArray⟩ : ByteArray) = s.extract 3 (Fr.nn s.data.toList + 3) := by
      rw [Lib.extract_eq, show Fr.nn s.data.toList + 3 - 3 = Fr.nn s.data.toList from by omega]
    rw [hB]
    exact key true (by rw [beq_iff_eq, ByteArray.toList_eq, ByteArray.toList_eq, hU]; exact h6)
  · rw [if_pos h6] at h
    obtain ⟨rfl, rfl, rfl, rfl⟩ : 6 = e ∧ 0 = k ∧ [] = b ∧ 0 = n := by simpa using h
    exact key false (by rw [beq_eq_false_iff_ne, ByteArray.toList_eq, ByteArray.toList_eq, hU]; exact h6)

/-- What Put answers. -/
inductive PutIs (k : Int) (b : ByteArray) : Prop
  | ok (a : Nat) (h1 : 1 ≤ a) (h2 : a ≤ 255) (hb : b.size ≤ 700) (ha : k = a)
  | bad (e : Nat) (he : e = 1 ∨ e = 2) (h : PutAns k b ⟨#[]⟩ e)

theorem put_is (k : Int) (b : ByteArray) (hb : b.size ≤ maxLen) : PutIs k b := by
  by_cases hk : k < 1 ∨ 255 < k
  · exact .bad 1 (Or.inl rfl) (fun w => Put_arg k b w hk)
  · by_cases hl : 700 < b.size
    · exact .bad 2 (Or.inr rfl) (fun w => Put_large k b w (by omega) (by omega) hl hb)
    · exact .ok k.toNat (by omega) (by omega) (by omega) (by omega)

theorem putAns {k : Nat} {b t : ByteArray} (h1 : 1 ≤ k) (h2 : k ≤ 255) (hb : b.size ≤ 700) (ht : t.data.toList = Fr.enc k b.data.toList) : PutAns k b t 0 := fun w => by
  have := Put_ok k b w h1 h2 hb
  rwa [← ht, mk_list] at this

/-- Two frames that came in, boxed; what was there stands. -/
structure Boxed2 (w W : World) (k : Int) (a : ByteArray) (j : Int) (b : ByteArray) : Prop where
  c0 : W.cell? ⟨w.heap.size, 0, none⟩ = some (.int .i64 k)
  c1 : W.cell? ⟨w.heap.size, 1, none⟩ = some (.string a)
  d0 : W.cell? ⟨w.heap.size + 1, 0, none⟩ = some (.int .i64 j)
  d1 : W.cell? ⟨w.heap.size + 1, 1, none⟩ = some (.string b)
  size : w.heap.size + 2 ≤ W.heap.size
  below : Below w.heap.size w W

theorem Boxed2.keep {w W W' : World} {k j : Int} {a b : ByteArray} (h : Boxed2 w W k a j b) (hb : Below W.heap.size W W') : Boxed2 w W' k a j b := by
  have h2 := h.size
  refine ⟨?_, ?_, ?_, ?_, Nat.le_trans h.size hb.size, h.below.trans (hb.mono h.below.size)⟩
  · rw [hb.cell (p := ⟨w.heap.size, 0, none⟩) (show w.heap.size < _ by omega)]; exact h.c0
  · rw [hb.cell (p := ⟨w.heap.size, 1, none⟩) (show w.heap.size < _ by omega)]; exact h.c1
  · rw [hb.cell (p := ⟨w.heap.size + 1, 0, none⟩) (show w.heap.size + 1 < _ by omega)]; exact h.d0
  · rw [hb.cell (p := ⟨w.heap.size + 1, 1, none⟩) (show w.heap.size + 1 < _ by omega)]; exact h.d1

theorem Boxed2.alloc {w W : World} {k j : Int} {a b : ByteArray} (h : Boxed2 w W k a j b) (o : Obj) : Boxed2 w (W.alloc o) k a j b := h.keep ((Below.refl _ W).alloc (Nat.le_refl _) o)

theorem boxed2_new (w : World) (T : TypeId) (k : Int) (a : ByteArray) (j : Int) (b : ByteArray) : Boxed2 w ((w.alloc (.cells #[.int .i64 k, .string a] T)).alloc (.cells #[.int .i64 j, .string b] T)) k a j b := by
  have hb : Below w.heap.size w (w.alloc (.cells #[.int .i64 k, .string a] T)) := (Below.refl _ w).alloc (Nat.le_refl _) _
  have hs : (w.alloc (.cells #[.int .i64 k, .string a] T)).heap.size = w.heap.size + 1 := World.size_alloc ..
  have c := new_frame w T (.int .i64 k) (.string a)
  have d := new_frame (w.alloc (.cells #[.int .i64 k, .string a] T)) T (.int .i64 j) (.string b)
  rw [hs] at d
  have hb2 := (Below.refl (w.alloc (.cells #[.int .i64 k, .string a] T)).heap.size (w.alloc (.cells #[.int .i64 k, .string a] T))).alloc (Nat.le_refl _) (.cells #[.int .i64 j, .string b] T)
  refine ⟨?_, ?_, d.1, d.2, by rw [World.size_alloc, hs]; omega, hb.alloc hb.size _⟩
  · rw [hb2.cell (p := ⟨w.heap.size, 0, none⟩) (show w.heap.size < _ by omega)]; exact c.1
  · rw [hb2.cell (p := ⟨w.heap.size, 1, none⟩) (show w.heap.size < _ by omega)]; exact c.2

/-- Two calls, and what was laid between them. -/
theorem hop1 {w w1 w2 : World} {o : Obj} (h : Below w.heap.size w w1) (h2 : Below (w1.alloc o).heap.size (w1.alloc o) w2) (o' : Obj) (e : o' = o := by rfl) : Below w.heap.size w w2 := by
  subst e
  have h1 := h.alloc h.size o'
  exact h1.trans (h2.mono h1.size)

end Go.Proofs.YtkdcapjnoapjgaaDoor
