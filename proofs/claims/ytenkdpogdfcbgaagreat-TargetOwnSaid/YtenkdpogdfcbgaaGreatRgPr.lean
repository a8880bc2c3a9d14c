/- The walk of resv.Preempt. -/
import Derived.Test.YtenkdpogdfcbgaaGreatRgR
namespace Go.Proofs.YtenkdpogdfcbgaaGreat.Rs
open Go.RowKit

theorem other4 {W : World} {b : Nat} {v0 v1 v2 v3 : Value} (h : R4 W b v0 v1 v2 v3) {B : Nat} (hb : B ≠ b) (u0 u1 u2 u3 : Value) : R4 ((((W.setCell ⟨B, 0, none⟩ u0).setCell ⟨B, 1, none⟩ u1).setCell ⟨B, 2, none⟩ u2).setCell ⟨B, 3, none⟩ u3) b v0 v1 v2 v3 :=
  (((h.other _ _ hb _).other _ _ hb _).other _ _ hb _).other _ _ hb _

theorem pstep_no {r : Rg.RV} {w o : Int} {s : Rg.RV × Bool} {t : Qu.T} (h : t.2 ≠ o) : Rg.pstep r w o s t = s := by unfold Rg.pstep; rw [if_neg h]
theorem pstep_me {r : Rg.RV} {w o : Int} {s : Rg.RV × Bool} {t : Qu.T} (h : t.2 = o) (hw : t.1 = w) : Rg.pstep r w o s t = (s.1, s.2 || (!Rg.all r.kind && Rg.hasR r.regs r.kind r.holder t.1)) := by unfold Rg.pstep; rw [if_pos h, if_pos hw]
theorem pstep_out {r : Rg.RV} {w o : Int} {s : Rg.RV × Bool} {t : Qu.T} (h : t.2 = o) (hw : t.1 ≠ w) : Rg.pstep r w o s t = (Rg.out s.1 t.1, s.2 || (!Rg.all r.kind && Rg.hasR r.regs r.kind r.holder t.1)) := by unfold Rg.pstep; rw [if_pos h, if_neg hw]

end Go.Proofs.YtenkdpogdfcbgaaGreat.Rs
