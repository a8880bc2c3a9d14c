/- FrameOne: what is got is put as it was; for every input; what was there stands below. -/
import Derived.Test.YtalenienmkaflaaFrameK
namespace Go.Proofs.Ytalenienmkaflaa
open Go.RowKit

theorem frameOne_test : GetAns ⟨#[1, 0, 0, 0, 0, 0, 0]⟩ 0 ⟨#[]⟩ 0 6 := getAns (b := []) (by decide) (by decide +kernel)

set_option maxRecDepth 100000 in
set_option maxHeartbeats 2000000 in
theorem frameOne_bad (s : ByteArray) (e : Nat) (w : World) (he : e = 7 ∨ e = 3 ∨ e = 6) (h : GetAns s 0 ⟨#[]⟩ 0 e) :
    Calls Try.prog 10 #[.string s] w fun e w' => e = .returned (.bool true) ∧ Below w.heap.size w w' := by
  have T1 := frameOne_test
  have hne : ((e : Int) != 0) = true := bne_iff_ne.2 (by omega)
  go_enter Try.func10, Try.ntmps10
  go_wp2_with fail
  with_reducible refine T1.use ?_
  rintro r w1 ⟨rfl, hb1⟩
  go_wp2_with fail
  with_reducible refine h.use ?_
  rintro r w2 ⟨rfl, hb2⟩
  have HB := Lib.hid (hop1 hb1 hb2 (.cells #[.int .i64 0, .string ⟨#[]⟩] 39))
  clear hb1 hb2
  go_wp2_with fail
  go_ret
  exact ⟨rfl, HB.out.alloc HB.out.size _⟩

set_option maxRecDepth 100000 in
set_option maxHeartbeats 2000000 in
theorem frameOne_core (s b t : ByteArray) (k n : Nat) (w : World) (_ : s.size ≤ 9223372036854775807) (h : GetAns s k b n 0) (hp : PutAns k b t 0) (_ : k ≤ 255) (hn : n ≤ s.size) (hcut : ∀ w, (Instr.slice 9 (.string s) none (some (.int .i64 n)) none).run Try.prog w = .ok (.string t) w) :
    Calls Try.prog 10 #[.string s] w fun e w' => e = .returned (.bool true) ∧ Below w.heap.size w w' := by
  have T1 := frameOne_test
  go_enter Try.func10, Try.ntmps10
  go_wp2_with fail
  with_reducible refine T1.use ?_
  rintro r w1 ⟨rfl, hb1⟩
  go_wp2_with fail
  with_reducible refine h.use ?_
  rintro r w2 ⟨rfl, hb2⟩
  have HB := Lib.hid (hop1 hb1 hb2 (.cells #[.int .i64 0, .string ⟨#[]⟩] 39))
  clear hb1 hb2
  go_wp2_with fail
  with_reducible refine hp.use ?_
  rintro r w3 ⟨rfl, hb3⟩
  have HB3 := Lib.hid (hop1 HB.out hb3 (.cells #[.int .i64 k, .string b] 39))
  clear HB hb3
  go_wp2_with fail
  go_ret
  exact ⟨rfl, HB3.out⟩

theorem frameOne_walk (a0 : ByteArray) (w0 : a0.size ≤ maxLen) (w : World) :
    Calls Try.prog 10 #[.string a0] w fun e w' => e = .returned (.bool true) ∧ Below w.heap.size w w' := by
  obtain ⟨⟨e, k, b, n⟩, hx⟩ : ∃ x, Fr.get a0.data.toList = x := ⟨_, rfl⟩
  have hg := getAns w0 hx
  by_cases he : e = 0
  · subst he
    obtain ⟨h1, h2, h3, h4, h5, h6⟩ := Fr.get_ok hx
    have hll : a0.data.toList.length = a0.size := by simp
    have hbs : (⟨b.toArray⟩ : ByteArray).size = b.length := by show (List.toArray _).size = _; rw [List.size_toArray]
    have hb2 : (⟨b.toArray⟩ : ByteArray).data.toList = b := rfl
    have hw := w0
    unfold maxLen at hw
    refine frameOne_core a0 ⟨b.toArray⟩ (a0.extract 0 n) k n w (by omega) hg (putAns h1 h2 (by omega) ?_) h2 (by omega) (sl_to'' Try.underlying9 rfl (by omega))
    rw [hb2, h6, Lib.extract_data]
    simp
  · rcases Fr.get_err hx with rfl | ⟨h, rfl, rfl, rfl⟩
    · exact absurd rfl he
    · exact frameOne_bad a0 e w h hg

end Go.Proofs.Ytalenienmkaflaa
