/- What the second form's bound says of slices that came in. -/
import Derived.Test.YtdmfgdhfkceihaaDoorRows
import Derived.Test.YtdmfgdhfkceihaaDoorBase
import Derived.Deep.Slices
namespace Go.Proofs.YtdmfgdhfkceihaaDoor
open Go.RowKit Go.Deep Go.ChangeShapes Go.WideShapes

theorem bulk_pos {H : Type} (d : DataW H) : 1 ≤ Rows.uptoBulk d := by
  rcases d with l | _ | _ | _ | _ | _ | _ | _
  · cases l <;> simp [Rows.uptoBulk]
  all_goals simp [Rows.uptoBulk]

theorem bulk_len {H : Type} : ∀ l : List (DataW H), l.length ≤ Rows.uptoBulkAll l
  | [] => Nat.zero_le _
  | d :: r => by have h1 := bulk_pos d; have h2 := bulk_len r; simp only [Rows.uptoBulkAll, List.length_cons]; omega

theorem bulk_part {H : Type} {d : DataW H} : ∀ {l : List (DataW H)}, d ∈ l → Rows.uptoBulk d ≤ Rows.uptoBulkAll l
  | x :: r, h => by
    simp only [Rows.uptoBulkAll]
    rcases List.mem_cons.1 h with rfl | h
    · omega
    · have := bulk_part h; omega

/-- Elements of a slice among the readings. -/
theorem bulk_slice {H : Type} {l : List (DataW H)} {d : DataW H} {n : Nat} (hk : Rows.uptoSmall H l = true) (hd : d ∈ l) (h : n = 0 ∨ ∃ E S, d = .slice E S ∧ E.length = n) : n ≤ 1048576 := by
  have hk' : Rows.uptoBulkAll l ≤ 1048576 := of_decide_eq_true hk
  rcases h with rfl | ⟨E, S, rfl, rfl⟩
  · omega
  · have h1 := bulk_part hd
    have h2 := bulk_len E
    simp only [Rows.uptoBulk] at h1
    omega

/-- A string among the readings. -/
theorem bulk_text {H : Type} {l : List (DataW H)} {bs : List UInt8} (hk : Rows.uptoSmall H l = true) (hd : DataW.lit (.string bs) ∈ l) : bs.length ≤ 1048576 := by
  have hk' : Rows.uptoBulkAll l ≤ 1048576 := of_decide_eq_true hk
  have h1 := bulk_part hd
  simp only [Rows.uptoBulk] at h1
  omega

theorem slice_len {H : Type} {enc : TypeId × Value → H} {P : Program} {w : World} {base : Nat} {spare : Nat → Bool} {held : Bool} {t e : TypeId} {fuel : Nat} {cs : List Value} {x : DataW H × List MemPlace} {a : Option Addr} {len cap : Nat}
    (ht : P.underlying t = some (.slice e)) (h : DataW.trod enc P w base spare held fuel t cs = some x) (hcs : cs = [.slice a len cap]) : len = 0 ∨ ∃ E S, x.1 = DataW.slice E S ∧ E.length = len := by
  rcases open_slice ht h with ⟨h0, _⟩ | ⟨a', len', cap', m, n, D, Pl, h0, -, -, -, -, hx, -⟩
  · rw [h0] at hcs
    simp at hcs
    exact Or.inl hcs.2.1.symm
  · rw [h0] at hcs
    simp at hcs
    obtain ⟨-, rfl, -⟩ := hcs
    exact Or.inr ⟨_, _, congrArg Prod.fst hx, by simp⟩

end Go.Proofs.YtdmfgdhfkceihaaDoor
