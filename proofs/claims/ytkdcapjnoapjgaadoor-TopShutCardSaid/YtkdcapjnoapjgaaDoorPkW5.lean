/- The walk of pack.Tokens. -/
import Derived.Test.YtkdcapjnoapjgaaDoorPkW4
namespace Go.Proofs.YtkdcapjnoapjgaaDoor
open Go.RowKit Go.Shelf

theorem kv_one' (l : List Lz.Tk) : (kv [⟨0, 0, 0⟩]).length = 3 ∧ (kv l).length = l.length * 3 := ⟨rfl, kv_length l⟩

/-- What Tokens leaves. -/
def TokR (w : World) (l : List UInt8) (e : Ending) (w' : World) : Prop := ∃ a n cp, e = .returned (.tuple #[.slice a n cp, .int .i64 (Pk.tkns l).1]) ∧ KArg w' a n cp (Pk.tkns l).2 ∧ Below w.heap.size w w'

def strSz (v : Value) : Nat := match v with | .string b => b.size | _ => 0

theorem str_empty (x : ByteArray) : x.toList.isEmpty = decide (x.size = 0) := by
  rw [ByteArray.toList_eq]
  have h : x.data.toList.length = x.size := Array.length_toList ..
  cases hl : x.data.toList with
  | nil => rw [hl] at h; rw [← h]; rfl
  | cons b r => rw [hl] at h; rw [← h]; rfl

/-- How what is left of a text is read. -/
def Left (l : List UInt8) (acc : List Lz.Tk) (x : List UInt8) : Prop := ∃ f, x.length ≤ f ∧ Pk.tksR l.length l = if (Pk.tksR f x).1 ≠ 0 then ((Pk.tksR f x).1, []) else (0, acc ++ (Pk.tksR f x).2)

theorem left_bad {l x : List UInt8} {acc : List Lz.Tk} {c : Int} {t : Lz.Tk} {u : Nat} (h : Left l acc x) (hx : x ≠ []) (ht : Pk.tokR x = (c, t, u)) (hc : c ≠ 0) : Pk.tksR l.length l = (c, []) := by
  obtain ⟨f, hf, he⟩ := h
  cases f with
  | zero => exact absurd (List.length_eq_zero_iff.1 (by omega)) hx
  | succ f =>
    have e : Pk.tksR (f + 1) x = (c, []) := by rw [Pk.tksR, if_neg hx, ht]; dsimp only; rw [if_pos hc]
    rw [he, e, if_pos hc]

theorem left_on {l x : List UInt8} {acc : List Lz.Tk} {t : Lz.Tk} {u : Nat} (h : Left l acc x) (hx : x ≠ []) (ht : Pk.tokR x = (0, t, u)) (hu : 1 ≤ u) : Left l (acc ++ [t]) (x.drop u) := by
  obtain ⟨f, hf, he⟩ := h
  cases f with
  | zero => exact absurd (List.length_eq_zero_iff.1 (by omega)) hx
  | succ f =>
    refine ⟨f, by rw [List.length_drop]; omega, ?_⟩
    have e : Pk.tksR (f + 1) x = if (Pk.tksR f (x.drop u)).1 ≠ 0 then ((Pk.tksR f (x.drop u)).1, []) else (0, t :: (Pk.tksR f (x.drop u)).2) := by rw [Pk.tksR, if_neg hx, ht]; dsimp only; rw [if_neg (by decide)]
    rw [he, e]
    by_cases h0 : (Pk.tksR f (x.drop u)).1 ≠ 0
    · simp only [if_pos h0]
    · simp only [if_neg h0]
      rw [if_neg (show ¬ ((0 : Int) ≠ 0) by decide), List.append_assoc]; rfl

theorem tks_nil : ∀ (f : Nat) (l : List UInt8), (Pk.tksR f l).1 ≠ 0 → (Pk.tksR f l).2 = []
  | 0, _, h => absurd rfl h
  | f + 1, l, h => by
    rw [Pk.tksR] at h ⊢
    split
    · rfl
    · split
      · rfl
      · split
        · rfl
        · rename_i h1 h2 h3
          rw [if_neg h1, if_neg h2, if_neg h3] at h
          exact absurd rfl h

theorem left_start (l : List UInt8) : Left l [] l := ⟨_, Nat.le_refl _, by
  by_cases h0 : (Pk.tksR l.length l).1 ≠ 0
  · rw [if_pos h0, ← tks_nil _ _ h0]
  · rw [if_neg h0, List.nil_append]
    have h1 : (Pk.tksR l.length l).1 = 0 := by simpa using h0
    rw [← h1]⟩

theorem left_end {l : List UInt8} {acc : List Lz.Tk} (h : Left l acc []) : Pk.tksR l.length l = (0, acc) := by
  obtain ⟨f, hf, he⟩ := h
  have e : Pk.tksR f [] = (0, []) := by cases f with | zero => rfl | succ f => rw [Pk.tksR, if_pos rfl]
  rw [he, e, if_neg (by decide), List.append_nil]

set_option maxRecDepth 100000 in
set_option maxHeartbeats 4000000 in
theorem Tokens_to (s : ByteArray) (w : World) (hs : s.size ≤ 100000000) :
    Calls Tryd.prog 21 #[.string s] w (TokR w s.data.toList) := by
  obtain ⟨i0, hi, hz0, hz1, hz2⟩ := info_parts Tryd.infoTok
  have hl : s.data.toList.length = s.size := Array.length_toList ..
  have HL := Lib.hid hl
  obtain ⟨bb, hbb⟩ : ∃ b, Gr.bitsB s.data.toList = b := ⟨_, rfl⟩
  have B1 := fun w => Bits_is s bb w (by omega) hbb
  obtain ⟨z, ts, hz⟩ : ∃ z ts, Pk.tkns s.data.toList = (z, ts) := ⟨_, _, rfl⟩
  unfold TokR
  rw [hz]
  dsimp only
  unfold Pk.tkns at hz
  rw [hbb] at hz
  cases bb with
  | false =>
    rw [if_pos rfl] at hz
    cases hz
    go_enter Tryd.func21, Tryd.ntmps21
    go_wp2_with fail
    with_reducible refine (B1 _).mono ?_
    rintro e w1 ⟨rfl, hb1⟩
    clear B1
    go_wp2_with fail
    go_ret2
    exact ⟨none, 0, 0, rfl, ⟨fun h => absurd rfl h, rfl, Nat.le_refl _, Nat.zero_le _⟩, hb1⟩
  | true =>
    rw [if_neg (by decide)] at hz
    have HZ := Lib.hid hz
    have HBB := Lib.hid hbb
    clear hz hbb hl
    go_enter Tryd.func21, Tryd.ntmps21
    go_wp2_with fail
    with_reducible refine (B1 _).mono ?_
    rintro e w1 ⟨rfl, hb1⟩
    have HB1 := Lib.hid hb1
    clear B1 hb1
    go_wp2_with fail
    go_loopw [0, 4] (fun sv v wr => ∃ (x : ByteArray) (k cp : Nat) (g : Option Addr) (acc : List Lz.Tk), sv = .string x ∧ x.size + k ≤ 100000000 ∧ v = .slice g k cp ∧ Hid (wr.ownsRow w.heap.size 56 3 (.slice g k cp) k (kv acc)) ∧ Hid (acc.length = k) ∧ Hid (Gr.bitsB x.data.toList = true) ∧ Hid (Left s.data.toList acc x.data.toList) ∧ Hid (Below w.heap.size w wr)) (fun sv _ _ => strSz sv)
    case atStart => exact ⟨s, 0, 0, none, [], rfl, hs, rfl, Lib.hid (World.ownsRow_nil _ _ _ _), Lib.hid rfl, HBB, Lib.hid (left_start _), HB1⟩
    case round =>
      obtain ⟨x, k, cp, g, acc, rfl, hxk, rfl, hO, hA, hX, hLf, hB⟩ := hrel
      have hxl : x.data.toList.length = x.size := Array.length_toList ..
      have hxe := str_empty x
      by_cases h0 : x.size = 0
      · have hxe2 : x.toList.isEmpty = true := by rw [hxe, h0]; rfl
        have hxn : x.data.toList = [] := List.length_eq_zero_iff.1 (by rw [hxl]; exact h0)
        have hrr : Pk.tksR s.data.toList.length s.data.toList = (0, acc) := left_end (by have := hLf.out; rwa [hxn] at this)
        have hz := HZ.out
        rw [hrr] at hz
        dsimp only at hz
        rw [if_neg (show ¬ ((0 : Int) ≠ 0) by decide)] at hz
        obtain ⟨a', c', he, hka⟩ := karg_own hO.out hA.out
        cases he
        have X1 := Expand_as g k cp acc _ _ wr hka rfl rfl
        have HKA := Lib.hid hka
        clear hxn hrr hxe hka
        generalize (⟨(Lz.expS [] acc).toArray⟩ : ByteArray) = XS at *
        by_cases hE : Lz.expE [] acc ≠ 0
        · rw [if_pos hE] at hz
          have hEb : (Lz.expE [] acc != 0) = true := bne_iff_ne.2 hE
          have hz1 : Lz.expE [] acc = z := congrArg Prod.fst hz
          have hz2 : [] = ts := congrArg Prod.snd hz
          rw [hz1] at hEb X1
          clear hz hz1 hE
          obtain rfl := hz2
          go_wp2_with fail
          with_reducible refine X1.mono ?_
          rintro e w3 ⟨rfl, hb3⟩
          have HB3 := Lib.hid (hB.out.trans (hb3.mono hB.out.size))
          clear X1 hb3
          go_wp2_with fail
          go_ret2
          exact ⟨none, 0, 0, rfl, ⟨fun h => absurd rfl h, rfl, Nat.le_refl _, Nat.zero_le _⟩, HB3.out⟩
        · rw [if_neg hE] at hz
          have hz1 : 0 = z := congrArg Prod.fst hz
          have hz2 : acc = ts := congrArg Prod.snd hz
          clear hz
          obtain rfl := hz1
          obtain rfl := hz2
          have hE0 : Lz.expE [] acc = 0 := by simpa using hE
          rw [hE0] at X1
          clear hE hE0
          go_wp2_with fail
          with_reducible refine X1.mono ?_
          rintro e w3 ⟨rfl, hb3⟩
          have HB3 := Lib.hid (hB.out.trans (hb3.mono hB.out.size))
          have HKA3 := Lib.hid (HKA.out.keep hb3)
          clear X1 hb3
          go_wp2_with fail
          go_ret2
          exact ⟨g, k, cp, rfl, HKA3.out, HB3.out⟩
      · have hxe2 : x.toList.isEmpty = false := by rw [hxe]; exact decide_eq_false h0
        have hxn : x.data.toList ≠ [] := by intro h; rw [h] at hxl; exact h0 hxl.symm
        obtain ⟨c, t, u, ht⟩ : ∃ c t u, Pk.tokR x.data.toList = (c, t, u) := ⟨_, _, _, rfl⟩
        have T1 := fun w => token_is x c t u w (by omega) (by omega) hX.out ht
        by_cases hc : c = 0
        · subst hc
          obtain ⟨hu1, hu2, -⟩ := Pk.tokR_back hX.out hxn ht
          rw [hxl] at hu2
          have HLN := Lib.hid (left_on hLf.out hxn ht hu1)
          have x1 := sl_fromG Tryd.underlying9 (s := x) (x := (u : Int)) (a := u) rfl hu2
          have xs1 := extract_size x u hu2
          have hxl2 := extract_list x u
          have HXB : Hid (Gr.bitsB (x.extract u x.size).data.toList = true) := Lib.hid (by rw [hxl2]; exact Gr.bitsB_drop hX.out u)
          have HLN2 : Hid (Left s.data.toList (acc ++ [t]) (x.extract u x.size).data.toList) := Lib.hid (by rw [hxl2]; exact HLN.out)
          have HXS := Lib.hid xs1
          clear ht hxe hxn hxl2 HLN xs1
          generalize x.extract u x.size = Y at *
          obtain ⟨D, N, Q⟩ := t
          dsimp only at T1
          have hbase := row_base hO.out
          go_wp2_with fail
          with_reducible refine (T1 _).mono ?_
          rintro e w2 ⟨rfl, hb2⟩
          have hown2 : ((w2.alloc (.cells #[.int .i64 D, .int .i64 N, .int .i64 Q] 56)).alloc (.cells #[.int .i64 D, .int .i64 N, .int .i64 Q] 56)).ownsRow w.heap.size 56 3 (.slice g k cp) k (kv acc) := ((own_keep hO.out hb2).alloc _).alloc _
          have hcell2 : ∀ j v, [Value.int .i64 D, .int .i64 N, .int .i64 Q][j]? = some v → ((w2.alloc (.cells #[.int .i64 D, .int .i64 N, .int .i64 Q] 56)).alloc (.cells #[.int .i64 D, .int .i64 N, .int .i64 Q] 56)).cell? ((⟨w2.heap.size + 1, 0, none⟩ : Addr).add j) = some v := fun j v h => by
            have := cells_triple (w2.alloc (.cells #[.int .i64 D, .int .i64 N, .int .i64 Q] 56)) 56 (.int .i64 D) (.int .i64 N) (.int .i64 Q) j v h
            rwa [World.size_alloc] at this
          have hone : ∀ v ∈ [Value.int .i64 D, .int .i64 N, .int .i64 Q], v.oneCell' = true := by
            intro v hv
            simp at hv
            rcases hv with rfl | rfl | rfl <;> rfl
          have HB2 := Lib.hid (hB.out.trans (hb2.mono hB.out.size))
          have hbsz := HB2.out.size
          have hm9 : k + 1 ≤ maxLen := by unfold maxLen; omega
          have hm2 : (k + 1) * 24 ≤ 140737488355328 := by omega
          have hm3 : w.heap.size ≤ ((w2.alloc (.cells #[.int .i64 D, .int .i64 N, .int .i64 Q] 56)).alloc (.cells #[.int .i64 D, .int .i64 N, .int .i64 Q] 56)).heap.size := by rw [World.size_alloc, World.size_alloc]; omega
          have H2 := Lib.hid hown2; have H3 := Lib.hid hcell2; have H4 := Lib.hid hone
          have HB4 := Lib.hid ((HB2.out.alloc HB2.out.size (.cells #[.int .i64 D, .int .i64 N, .int .i64 Q] 56)).alloc (HB2.out.alloc HB2.out.size (.cells #[.int .i64 D, .int .i64 N, .int .i64 Q] 56)).size (.cells #[.int .i64 D, .int .i64 N, .int .i64 Q] 56))
          clear hown2 hcell2 hone hb2 T1
          go_wp2_with (at_builtin; refine wpList_append_lies _ rfl _ _ _ rfl w.heap.size 56 i0 (.agg #[.int .i64 0, .int .i64 0, .int .i64 0]) 3 24 Tryd.underlying42 hi hz0 hz1 hz2 rfl (by decide) (.slice g k cp) k _ rfl H2.out ⟨w2.heap.size + 1, 0, none⟩ 1 1 [.int .i64 D, .int .i64 N, .int .i64 Q] rfl rfl H3.out H4.out (by decide) hm9 hm2 hm3 _ rfl ?_)
          intro g' cap' wq q1 q2 q3 q4
          have HB' : Hid (Below w.heap.size w wq) := Lib.hid (HB4.out.grown q2 hm3 hbase)
          have HR2 : Hid (wq.ownsRow w.heap.size 56 3 (.slice (some ⟨g', 0, none⟩) (k + 1) cap') (k + 1) (kv (acc ++ [⟨D, N, Q⟩]))) := Lib.hid (by rw [kv_app]; exact q1)
          clear q1 q2 q3 q4 H2 H3 H4 hm3 hbase hbsz HB4
          go_wp2_with fail
          go_roundw
          case rel => exact ⟨Y, k + 1, cap', some ⟨g', 0, none⟩, acc ++ [⟨D, N, Q⟩], rfl, by have := HXS.out; omega, rfl, HR2, Lib.hid (by rw [List.length_append, hA.out]; rfl), HXB, HLN2, HB'⟩
          case measure => show Y.size < x.size; have := HXS.out; omega
        · have hrr := left_bad hLf.out hxn ht hc
          have hz := HZ.out
          rw [hrr] at hz
          dsimp only at hz
          rw [if_pos hc] at hz
          have hz1 : c = z := congrArg Prod.fst hz
          have hz2 : [] = ts := congrArg Prod.snd hz
          clear hz
          obtain rfl := hz1
          obtain rfl := hz2
          have hcb : (c != 0) = true := bne_iff_ne.2 hc
          clear ht hrr hxe hxn
          go_wp2_with fail
          with_reducible refine (T1 _).mono ?_
          rintro e w2 ⟨rfl, hb2⟩
          have HB2 := Lib.hid (hB.out.trans (hb2.mono hB.out.size))
          clear T1 hb2
          go_wp2_with fail
          go_ret2
          exact ⟨none, 0, 0, rfl, ⟨fun h => absurd rfl h, rfl, Nat.le_refl _, Nat.zero_le _⟩, HB2.out.alloc HB2.out.size _⟩

end Go.Proofs.YtkdcapjnoapjgaaDoor
