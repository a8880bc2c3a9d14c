import Derived.Test.YtenkdpogdfcbgaaGreatLogW4
import Derived.Test.YtenkdpogdfcbgaaGreatFrameW
import Derived.Test.YtenkdpogdfcbgaaGreatVoP
/- Logs as bytes, plain: a deed's frame, a log's bytes, what lies in them. No program in sight. -/
namespace Go.Proofs.YtenkdpogdfcbgaaGreat.Lr
open Go.Proofs.YtenkdpogdfcbgaaGreat

theorem size_list (s : ByteArray) : s.data.toList.length = s.size := Array.length_toList ..

theorem size_nil {s : ByteArray} (h : s.toList.isEmpty = true) : s.size = 0 := by
  have h1 := List.isEmpty_iff.1 h
  rw [ByteArray.toList_eq] at h1
  rw [← size_list, h1]
  rfl

/-- What a deed that is right is. -/
theorem chk_parts {o : Lg.Op} (h : Lg.chkE o = 0) : ∃ k a : Nat, o.k = (k : Int) ∧ o.a = (a : Int) ∧ 1 ≤ k ∧ k ≤ 5 ∧ a ≤ 32 ∧ o.nm.size ≤ 12 ∧ o.tn.size ≤ 12 ∧ o.tx.size ≤ 64 := by
  unfold Lg.chkE Lg.chk at h
  split at h
  · cases h
  · rename_i h1
    split at h
    · cases h
    · rename_i h2
      split at h
      · cases h
      · rename_i h3
        split at h
        · cases h
        · rename_i h4
          split at h
          · cases h
          · rename_i h5
            have hk : 1 ≤ o.k ∧ o.k ≤ 5 := by omega
            have ha : 0 ≤ o.a ∧ o.a ≤ 32 := by omega
            have nmS : ∀ s : ByteArray, Lg.nmB s.data.toList = true → s.size ≤ 12 := fun s hs => by
              unfold Lg.nmB at hs
              simp only [Bool.and_eq_true, decide_eq_true_eq] at hs
              rw [← size_list]
              exact hs.2.1
            have hn : o.nm.size ≤ 12 := nmS _ (by
              cases hb : Lg.nmB o.nm.data.toList with
              | true => rfl
              | false => exact absurd (Or.inl hb) h2)
            have ht : o.tn.size ≤ 12 := by
              by_cases h5k : o.k = 5
              · exact nmS _ (by
                  cases hb : Lg.nmB o.tn.data.toList with
                  | true => rfl
                  | false => exact absurd (Or.inr ⟨h5k, hb⟩) h2)
              · have he : o.tn.toList.isEmpty = true := by
                  cases hb : o.tn.toList.isEmpty with
                  | true => rfl
                  | false => exact absurd (Or.inl ⟨h5k, hb⟩) h5
                rw [size_nil he]
                omega
            exact ⟨o.k.toNat, o.a.toNat, by omega, by omega, by omega, by omega, by omega, hn, ht, by omega⟩

/-- A deed's bytes. -/
def body (o : Lg.Op) : List UInt8 := Lg.enc o.k.toNat o.a.toNat o.nm.data.toList o.tn.data.toList o.tx.data.toList
/-- A deed's frame. -/
def frm (o : Lg.Op) : List UInt8 := Fr.enc 1 (body o)
/-- A log. -/
def log (l : List Lg.Op) : List UInt8 := l.flatMap frm

theorem body_length {o : Lg.Op} (h : Lg.chkE o = 0) : (body o).length ≤ 93 := by
  obtain ⟨k, a, hk, ha, -, -, -, h1, h2, h3⟩ := chk_parts h
  unfold body Lg.enc Lg.tx
  simp only [List.length_append, List.length_cons, List.length_nil, size_list]
  omega
theorem frm_length {o : Lg.Op} (_h : Lg.chkE o = 0) : (frm o).length = (body o).length + 7 := Fr.enc_length _ _

theorem log_nil : log [] = [] := rfl
theorem log_cons (o : Lg.Op) (l : List Lg.Op) : log (o :: l) = frm o ++ log l := rfl
theorem log_app (l m : List Lg.Op) : log (l ++ m) = log l ++ log m := by unfold log; rw [List.flatMap_append]
theorem log_take {l : List Lg.Op} {k : Nat} (hk : k < l.length) : log (l.take (k + 1)) = log (l.take k) ++ frm l[k] := by
  rw [List.take_succ_eq_append_getElem hk, log_app, log_cons, log_nil, List.append_nil]

theorem log_length : ∀ {l : List Lg.Op}, (∀ o ∈ l, Lg.chkE o = 0) → (log l).length ≤ 100 * l.length
  | [], _ => Nat.zero_le _
  | o :: l, h => by
    have h1 := frm_length (h o List.mem_cons_self)
    have h2 := body_length (h o List.mem_cons_self)
    have h3 := log_length fun x hx => h x (List.mem_cons_of_mem o hx)
    rw [log_cons, List.length_append, List.length_cons]
    omega

/-- Deeds done one after another, to the first that fails. -/
def run : Vo.St → List Lg.Op → Vo.An
  | s, [] => ⟨s, 0⟩
  | s, o :: l => if (Vo.doR s o).e ≠ 0 then ⟨Vo.st0, (Vo.doR s o).e⟩ else run (Vo.doR s o).s l

theorem run_right : ∀ {l : List Lg.Op} {s : Vo.St}, Vo.Right s → Vo.Right (run s l).s
  | [], _, h => h
  | o :: l, s, h => by
    unfold run
    split
    · exact Vo.right0
    · exact run_right (Vo.do_right h o)

theorem run_app : ∀ {l m : List Lg.Op} {s : Vo.St}, (run s l).e = 0 → run s (l ++ m) = run (run s l).s m
  | [], _, _, _ => rfl
  | o :: l, m, s, h => by
    unfold run at h
    show (if (Vo.doR s o).e ≠ 0 then _ else run (Vo.doR s o).s (l ++ m)) = run (run s (o :: l)).s m
    split at h
    · rename_i h1; exact absurd h h1
    · rename_i h1
      rw [if_neg h1, run_app h]
      show _ = run (if (Vo.doR s o).e ≠ 0 then _ else run (Vo.doR s o).s l).s m
      rw [if_neg h1]

theorem run_cons {s : Vo.St} {o : Lg.Op} {l : List Lg.Op} (h : (run s (o :: l)).e = 0) : (Vo.doR s o).e = 0 ∧ run s (o :: l) = run (Vo.doR s o).s l := by
  have e : run s (o :: l) = if (Vo.doR s o).e ≠ 0 then ⟨Vo.st0, (Vo.doR s o).e⟩ else run (Vo.doR s o).s l := rfl
  rw [e] at h ⊢
  split at h
  · rename_i h1; exact absurd h h1
  · rename_i h1
    rw [if_neg h1]
    exact ⟨Decidable.not_not.1 h1, rfl⟩

/-- A deed that is done is right. -/
theorem do_chk {s : Vo.St} {o : Lg.Op} (h : (Vo.doR s o).e = 0) : Lg.chkE o = 0 := by
  by_cases h1 : Lg.chkE o = 0
  · exact h1
  · unfold Vo.doR at h
    rw [if_pos h1] at h
    exact h

theorem run_chk : ∀ {l : List Lg.Op} {s : Vo.St}, (run s l).e = 0 → ∀ o ∈ l, Lg.chkE o = 0
  | [], _, _, _, h => absurd h List.not_mem_nil
  | o :: l, s, h, x, hx => by
    obtain ⟨h1, h2⟩ := run_cons h
    rcases List.mem_cons.1 hx with rfl | hx
    · exact do_chk h1
    · rw [h2] at h
      exact run_chk h x hx

/-- The first frame is got. -/
theorem get_frm {o : Lg.Op} (h : Lg.chkE o = 0) (more : List UInt8) : Fr.get (frm o ++ more) = (0, 1, body o, (body o).length + 7) := Fr.get_enc (by decide) (by decide) (by have := body_length h; omega) more

end Go.Proofs.YtenkdpogdfcbgaaGreat.Lr

/- The deeds that are done of a list, and what they leave, plain. No program in sight. -/
namespace Go.Proofs.YtenkdpogdfcbgaaGreat.Lr
open Go.Proofs.YtenkdpogdfcbgaaGreat

/-- One deed more: done and kept, or left. -/
def kp (p : Vo.St × List Lg.Op) (o : Lg.Op) : Vo.St × List Lg.Op := if (Vo.doR p.1 o).e = 0 then ((Vo.doR p.1 o).s, p.2 ++ [o]) else p
/-- What is kept of a list's first sixty deeds, and the state that they leave. -/
def kept (ts : List Lg.Op) : Vo.St × List Lg.Op := (ts.take 60).foldl kp (Vo.st0, [])

theorem kp_run {p : Vo.St × List Lg.Op} {o : Lg.Op} (h : run Vo.st0 p.2 = ⟨p.1, 0⟩) : run Vo.st0 (kp p o).2 = ⟨(kp p o).1, 0⟩ := by
  unfold kp
  split
  · rename_i h0
    show run Vo.st0 (p.2 ++ [o]) = _
    rw [run_app (by rw [h]), h]
    show (if (Vo.doR p.1 o).e ≠ 0 then _ else run (Vo.doR p.1 o).s []) = _
    rw [if_neg (fun h1 => h1 h0)]
    rfl
  · exact h

theorem kp_fold : ∀ (l : List Lg.Op) (p : Vo.St × List Lg.Op), run Vo.st0 p.2 = ⟨p.1, 0⟩ → run Vo.st0 (l.foldl kp p).2 = ⟨(l.foldl kp p).1, 0⟩ ∧ (l.foldl kp p).2.length ≤ p.2.length + l.length ∧ (l.foldl kp p).1 = l.foldl Vo.step p.1
  | [], p, h => ⟨h, Nat.le_refl _, rfl⟩
  | o :: l, p, h => by
    obtain ⟨h1, h2, h3⟩ := kp_fold l (kp p o) (kp_run h)
    refine ⟨h1, ?_, ?_⟩
    · have : (kp p o).2.length ≤ p.2.length + 1 := by
        unfold kp
        split
        · show (p.2 ++ [o]).length ≤ _
          rw [List.length_append]
          exact Nat.le_refl _
        · omega
      rw [List.length_cons, List.foldl_cons]
      omega
    · rw [List.foldl_cons, List.foldl_cons, h3]
      congr 1
      unfold kp Vo.step
      split <;> rfl

theorem kept_run (ts : List Lg.Op) : run Vo.st0 (kept ts).2 = ⟨(kept ts).1, 0⟩ := (kp_fold _ (Vo.st0, []) rfl).1
theorem kept_len (ts : List Lg.Op) : (kept ts).2.length ≤ 60 := by
  have h := (kp_fold (ts.take 60) (Vo.st0, []) rfl).2.1
  have h2 : (ts.take 60).length ≤ 60 := by rw [List.length_take]; exact Nat.min_le_left _ _
  show ((ts.take 60).foldl kp (Vo.st0, [])).2.length ≤ 60
  have h3 : (([] : List Lg.Op)).length = 0 := rfl
  simp only [List.length_nil] at h
  omega
theorem kept_chk (ts : List Lg.Op) : ∀ o ∈ (kept ts).2, Lg.chkE o = 0 := run_chk (s := Vo.st0) (by rw [kept_run])
theorem kept_made (ts : List Lg.Op) : (kept ts).1 = Vo.made ts := (kp_fold (ts.take 60) (Vo.st0, []) rfl).2.2
theorem kept_right (ts : List Lg.Op) : Vo.Right (kept ts).1 := by rw [kept_made]; exact Vo.made_right ts

theorem run_fold : ∀ {l : List Lg.Op} {s : Vo.St}, (run s l).e = 0 → l.foldl Vo.step s = (run s l).s
  | [], _, _ => rfl
  | o :: l, s, h => by
    obtain ⟨h1, h2⟩ := run_cons h
    rw [h2] at h ⊢
    rw [List.foldl_cons, ← run_fold h]
    congr 1
    unfold Vo.step
    rw [if_pos h1]

/-- Deeds that are all done make what they leave. -/
theorem made_run {l : List Lg.Op} (h : (run Vo.st0 l).e = 0) (hl : l.length ≤ 60) : Vo.made l = (run Vo.st0 l).s := by
  unfold Vo.made
  rw [List.take_of_length_le hl, run_fold h]

end Go.Proofs.YtenkdpogdfcbgaaGreat.Lr
