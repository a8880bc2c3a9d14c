/- The walk of cut.Ends. -/
import Derived.Test.YtnbdceigenndfaaCutP
import Derived.Test.YtnbdceigenndfaaPlainW
import Derived.Test.YtnbdceigenndfaaUse
import Derived.Deep.RegionWith
namespace Go.Proofs.Ytnbdceigenndfaa
open Go.RowKit

theorem seek_yes {mo mk : Nat} {t : List UInt8} {e n : Nat} (he : e < n) (h : e < mo ∧ Ct.hit mk t e = false) : Ct.seek mo mk t (n - e) e = Ct.seek mo mk t (n - (e + 1)) (e + 1) := by
  obtain ⟨f, hf⟩ : ∃ f, n - e = f + 1 := ⟨n - e - 1, by omega⟩
  rw [hf, Ct.seek, if_pos h, show n - (e + 1) = f from by omega]

theorem seek_no {mo mk : Nat} {t : List UInt8} {f e : Nat} (h : ¬ (e < mo ∧ Ct.hit mk t e = false)) : Ct.seek mo mk t f e = e := by
  cases f with
  | zero => rfl
  | succ f => rw [Ct.seek, if_neg h]

set_option maxRecDepth 100000 in
set_option maxHeartbeats 2000000 in
theorem Ends_ok (s : ByteArray) (le mo mk : Nat) (w : World) (hs : s.size ≤ 600) (h1 : 1 ≤ le) (h2 : le ≤ mo) (h3 : mo ≤ 600) (h4 : mk ≤ 65535) :
    Calls Try.prog 9 #[.string s, .int .i64 le, .int .i64 mo, .int .i64 mk] w fun e w' => ∃ v, e = .returned (.tuple #[v, .int .i64 0]) ∧
      w'.ownsRow w.heap.size 3 1 v (Ct.ends le mo mk s.data.toList).length (iv (Ct.ends le mo mk s.data.toList)) ∧ Below w.heap.size w w' := by
  obtain ⟨i0, hi, hz0, hz1, hz2⟩ := info_parts Try.infoInt
  have hll : s.data.toList.length = s.size := by simp
  have HLL := Lib.hid hll; clear hll
  have d1 : decide ((600 : Int) < (s.size : Int)) = false := decide_eq_false (by omega)
  have d2 : decide ((le : Int) < 1) = false := decide_eq_false (by omega)
  have d3 : decide ((mo : Int) < (le : Int)) = false := decide_eq_false (by omega)
  have d3' : decide (mo < le) = false := decide_eq_false (by omega)
  have d4 : decide ((600 : Int) < (mo : Int)) = false := decide_eq_false (by omega)
  have d5 : decide ((mk : Int) < 0) = false := decide_eq_false (by omega)
  have d6 : decide ((65535 : Int) < (mk : Int)) = false := decide_eq_false (by omega)
  go_enter Try.func9, Try.ntmps9
  go_wp2_with fail
  go_loopw [10, 11] (fun v x wr => ∃ (l : List Nat) (b : Nat), x = .int .i64 b ∧ b ≤ s.size ∧ l.length ≤ b ∧ wr.ownsRow w.heap.size 3 1 v l.length (iv l) ∧ Hid (Below w.heap.size w wr) ∧
      Hid (l ++ (Ct.ends le mo mk (s.data.toList.drop b)).map (b + ·) = Ct.ends le mo mk s.data.toList))
    (fun _ x _ => s.size - (intOf x).toNat)
  case atStart => exact ⟨[], 0, rfl, by omega, by simp, World.ownsRow_nil _ _ _ _, Lib.hid (Below.refl _ _), Lib.hid (by simp)⟩
  case round =>
    rename_i v10
    obtain ⟨l, b, rfl, hb, hlb, hown, hB, hE⟩ := hrel
    by_cases hlt : b < s.size
    · obtain ⟨t, ht⟩ : ∃ t, t = s.data.toList.drop b := ⟨_, rfl⟩
      have htl : t.length = s.size - b := by rw [ht, List.length_drop, HLL.out]
      obtain ⟨m0, hm0⟩ : ∃ m0, m0 = min (s.size - b) le := ⟨_, rfl⟩
      have hmin : min (s.size : Int) ((b : Int) + le) = (b : Int) + (m0 : Int) := by omega
      have HT := Lib.hid ht; have HTL := Lib.hid htl; have HM := Lib.hid hm0
      clear ht htl
      have hm1 : b + m0 ≤ s.size := by omega
      clear hm0
      go_wp2_with fail
      go_loop [12] (fun x => ∃ e : Nat, b + e ≤ s.size ∧ 1 ≤ e ∧ x = .int .i64 ((b : Int) + (e : Int)) ∧ Hid (Ct.seek mo mk t (s.size - b - e) e = Ct.piece le mo mk t))
        (fun x => s.size - (intOf x).toNat)
      case atStart => exact ⟨m0, hm1, by have := HM.out; omega, by go_num, Lib.hid (by unfold Ct.piece; rw [HTL.out, ← HM.out])⟩
      case round =>
        obtain ⟨e, he, he1, rfl, hS⟩ := hrel
        obtain ⟨q, hq⟩ : ∃ q, q = b + (e - 8) := ⟨_, rfl⟩
        have hmax : max (b : Int) ((b : Int) + (e : Int) - 8) = (q : Int) := by omega
        have hqe : q ≤ b + e := by omega
        have x1 := sl_str Try.underlying9 (s := s) (x := (q : Int)) (y := (b : Int) + (e : Int)) (a := q) (b := b + e) rfl (by omega) hqe he
        obtain ⟨S, hS'⟩ : ∃ S, S = s.extract q (b + e) := ⟨_, rfl⟩
        obtain ⟨p, hp⟩ : ∃ p, p = G.print 65581 S.data.toList := ⟨_, rfl⟩
        have PL : Ans1 31 #[.int .i64 65581, .string S] (.int .i64 p) := fun w => by rw [hp]; exact Plain_any 65581 S w (by omega) (by omega) (by rw [hS', ByteArray.size_extract]; unfold maxLen; omega)
        have hH : Ct.hit mk t e = (p &&& mk == mk) := by
          unfold Ct.hit
          have : (t.drop (e - 8)).take (e - (e - 8)) = S.data.toList := by
            rw [hS', ext_data, HT.out, List.drop_drop, hq, show b + e - (b + (e - 8)) = e - (e - 8) from by omega]
          rw [this, hp]
        have hpb : p ≤ 131072 := by
          have := G.print_lt S.data.toList (m := 65581) (by omega)
          have h17 : G.L 65581 = 17 := G.L_eq (k := 16) (by decide) (by decide)
          have := G.L_le.1 (show G.L (G.print 65581 S.data.toList) ≤ 17 by omega)
          omega
        have hand : bits .and .i64 (p : Int) (mk : Int) = ((p &&& mk : Nat) : Int) := i64_and_nat p mk (by omega) (by omega)
        obtain ⟨r, hr⟩ : ∃ r, r = p &&& mk := ⟨_, rfl⟩
        rw [← hr] at hand hH
        rw [← hS'] at x1
        have HH := Lib.hid hH; have HQ := Lib.hid hq
        have HP := Lib.hid hp; have HR := Lib.hid hr; have HS' := Lib.hid hS'
        clear hH hq hp hr hS' hpb
        by_cases hgo : b + e < s.size ∧ e < mo ∧ r ≠ mk
        · obtain ⟨g1, g2, g3⟩ := hgo
          have g4 : ((r : Int) != (mk : Int)) = true := bne_iff_ne.2 (by omega)
          go_wp2_with fail
          with_reducible refine PL.use ?_
          rintro e w' ⟨rfl, rfl⟩
          go_wp2_with fail
          go_round
          case rel =>
            exact ⟨e + 1, by omega, by omega, by go_num, Lib.hid (by rw [← hS.out, show s.size - b - (e + 1) = s.size - b - e - 1 from by omega, seek_yes (n := s.size - b) (by omega) ⟨g2, by rw [HH.out]; exact beq_eq_false_iff_ne.2 g3⟩, show s.size - b - (e + 1) = s.size - b - e - 1 from by omega])⟩
          case measure => simp [intOf]; omega
        · have hpe : Hid (Ct.piece le mo mk t = e) := Lib.hid (by
            rw [← hS.out]
            by_cases hz : b + e < s.size
            · exact seek_no (fun h => hgo ⟨hz, h.1, by have h2 := h.2; rw [HH.out] at h2; exact beq_eq_false_iff_ne.1 h2⟩)
            · rw [show s.size - b - e = 0 from by omega]; rfl)
          have hown2 : (wr.alloc (.cells #[.int .i64 ((b : Int) + (e : Int))] 3)).ownsRow w.heap.size 3 1 u10 l.length (iv l) := hown.alloc _
          have hcell2 : ∀ j x, [Value.int .i64 ((b : Int) + (e : Int))][j]? = some x → (wr.alloc (.cells #[.int .i64 ((b : Int) + (e : Int))] 3)).cell? ((⟨wr.heap.size, 0, none⟩ : Addr).add j) = some x := fun j x h => cell_one_new wr (.int .i64 ((b : Int) + (e : Int))) 3 j x h
          have hone : ∀ x ∈ [Value.int .i64 ((b : Int) + (e : Int))], x.oneCell' = true := by intro x hx; simp at hx; subst hx; rfl
          have hbsz := hB.out.size
          have hb1 : l.length + 1 ≤ maxLen := by unfold maxLen; omega
          have hb2 : (l.length + 1) * 8 ≤ 140737488355328 := by omega
          have hb3 : w.heap.size ≤ (wr.alloc (.cells #[.int .i64 ((b : Int) + (e : Int))] 3)).heap.size := by rw [World.size_alloc]; omega
          have hbase := row_base hown
          have H2 := Lib.hid hown2; have H3 := Lib.hid hcell2; have H4 := Lib.hid hone
          clear hown2 hcell2 hone
          have hex : (¬ b + e < s.size) ∨ (b + e < s.size ∧ ¬ e < mo) ∨ (b + e < s.size ∧ e < mo ∧ ((r : Int) != (mk : Int)) = false) := by
            by_cases c1 : b + e < s.size
            · by_cases c2 : e < mo
              · refine Or.inr (Or.inr ⟨c1, c2, ?_⟩)
                rw [bne_eq_false_iff_eq]
                by_cases c3 : r = mk
                · rw [c3]
                · exact absurd ⟨c1, c2, c3⟩ hgo
              · exact Or.inr (Or.inl ⟨c1, c2⟩)
            · exact Or.inl c1
          clear hgo hS
          rcases hex with g1 | ⟨g1, g2⟩ | ⟨g1, g2, g3⟩
          all_goals
            go_wp2_with (first
              | (go_at_call 31; with_reducible refine PL.use ?_; rintro e w' ⟨rfl, rfl⟩)
              | (at_builtin; refine wpList_append_lies _ rfl _ _ _ rfl w.heap.size 3 i0 (.int .i64 0) 1 8 Try.underlying22 hi hz0 hz1 hz2 rfl (by decide) u10 l.length _ rfl H2.out ⟨wr.heap.size, 0, none⟩ 1 1 [.int .i64 ((b : Int) + (e : Int))] rfl rfl H3.out H4.out (by decide) hb1 hb2 hb3 _ rfl ?_))
            intro g cap wq q1 q2 q3 q4
            have HB' : Hid (Below w.heap.size w wq) := Lib.hid ((hB.out.alloc hbsz _).grown q2 hb3 hbase)
            have HR : wq.ownsRow w.heap.size 3 1 (.slice (some ⟨g, 0, none⟩) (l.length + 1) cap) (l ++ [b + e]).length (iv (l ++ [b + e])) := by
              rw [iv_snoc, List.length_append, List.length_singleton]; exact q1
            have HN := Ct.ends_step (most := mo) (mask := mk) h1 s.data.toList b (by rw [HLL.out]; exact hlt) l hE.out
            rw [← HT.out, hpe.out] at HN
            have HNN := Lib.hid HN
            clear q1 q2 q3 q4 H2 H3 H4 hb3 hbase hown hB HN
            go_wp2_with fail
            go_round
            case rel => exact ⟨l ++ [b + e], b + e, by go_num, he, by rw [List.length_append, List.length_singleton]; omega, HR, HB', HNN⟩
            case measure => simp [intOf]; omega
    · obtain rfl : b = s.size := by omega
      have HEE := hE.out
      rw [List.drop_of_length_le (by rw [HLL.out]; omega), Ct.ends_nil, List.map_nil, List.append_nil] at HEE
      go_wp2_with fail
      go_ret2
      exact ⟨_, rfl, by rw [← HEE]; exact hown, hB.out⟩

set_option maxHeartbeats 1000000 in
theorem Ends_large (s : ByteArray) (le mo mk : Int) (w : World) (hs : 600 < s.size) (hs2 : s.size ≤ maxLen) :
    Calls Try.prog 9 #[.string s, .int .i64 le, .int .i64 mo, .int .i64 mk] w fun e w' => e = .returned (.tuple #[.slice none 0 0, .int .i64 2]) ∧ w = w' := by
  unfold maxLen at hs2
  go_enter Try.func9, Try.ntmps9
  go_wp2_with fail
  go_ret2
  exact ⟨rfl, rfl⟩

set_option maxHeartbeats 1000000 in
theorem Ends_arg (s : ByteArray) (le mo mk : Int) (w : World) (hs : s.size ≤ 600) (h : ¬ (1 ≤ le ∧ le ≤ mo ∧ mo ≤ 600 ∧ 0 ≤ mk ∧ mk ≤ 65535)) :
    Calls Try.prog 9 #[.string s, .int .i64 le, .int .i64 mo, .int .i64 mk] w fun e w' => e = .returned (.tuple #[.slice none 0 0, .int .i64 1]) ∧ w = w' := by
  have hx : (le < 1) ∨ (1 ≤ le ∧ mo < le) ∨ (1 ≤ le ∧ le ≤ mo ∧ 600 < mo) ∨ (1 ≤ le ∧ le ≤ mo ∧ mo ≤ 600 ∧ mk < 0) ∨ (1 ≤ le ∧ le ≤ mo ∧ mo ≤ 600 ∧ 0 ≤ mk ∧ 65535 < mk) := by omega
  clear h
  rcases hx with h1 | ⟨h1, h2⟩ | ⟨h1, h2, h3⟩ | ⟨h1, h2, h3, h4⟩ | ⟨h1, h2, h3, h4, h5⟩
  all_goals
    go_enter Try.func9, Try.ntmps9
    go_wp2_with fail
    go_ret2
    exact ⟨rfl, rfl⟩

/-- What Ends answers, whatever it is given. -/
inductive EndsIs (s : ByteArray) (le mo mk : Int) : Prop
  | ok (a b c : Nat) (hs : s.size ≤ 600) (h1 : 1 ≤ a) (h2 : a ≤ b) (h3 : b ≤ 600) (h4 : c ≤ 65535) (ha : le = a) (hb : mo = b) (hc : mk = c)
  | bad (k : Nat) (hk : k = 1 ∨ k = 2) (h : ∀ w, Calls Try.prog 9 #[.string s, .int .i64 le, .int .i64 mo, .int .i64 mk] w fun e w' => e = .returned (.tuple #[.slice none 0 0, .int .i64 k]) ∧ w = w')
      (h2 : k = 2 → 600 < s.size) (h1 : k = 1 → s.size ≤ 600 ∧ ¬ (1 ≤ le ∧ le ≤ mo ∧ mo ≤ 600 ∧ 0 ≤ mk ∧ mk ≤ 65535))

theorem ends_is (s : ByteArray) (le mo mk : Int) (hs2 : s.size ≤ maxLen) : EndsIs s le mo mk := by
  by_cases hs : 600 < s.size
  · exact .bad 2 (Or.inr rfl) (fun w => Ends_large s le mo mk w hs hs2) (fun _ => hs) (fun h => absurd h (by decide))
  · by_cases h : 1 ≤ le ∧ le ≤ mo ∧ mo ≤ 600 ∧ 0 ≤ mk ∧ mk ≤ 65535
    · obtain ⟨h1, h2, h3, h4, h5⟩ := h
      exact .ok le.toNat mo.toNat mk.toNat (by omega) (by omega) (by omega) (by omega) (by omega) (by omega) (by omega) (by omega)
    · exact .bad 1 (Or.inl rfl) (fun w => Ends_arg s le mo mk w (by omega) h) (fun h => absurd h (by decide)) (fun _ => ⟨by omega, h⟩)

end Go.Proofs.Ytnbdceigenndfaa
