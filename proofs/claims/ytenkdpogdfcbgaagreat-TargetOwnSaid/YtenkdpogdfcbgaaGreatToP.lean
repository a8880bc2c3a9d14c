import Derived.Test.YtenkdpogdfcbgaaGreatTgW
/- Targets whose generation may come to its end: Register, plain and walked. -/
namespace Go.Proofs.YtenkdpogdfcbgaaGreat.Tg
open Go.Proofs.YtenkdpogdfcbgaaGreat

/-- The last generation. -/
abbrev M : Nat := 2147483647
def regT8 (t : S) (x old y : Int) : An := keep t (Rg.regR t.r x y) (Rg.regE8 t.r x old)
theorem regE8_lt {r : Rg.RV} {x old : Int} (h : r.gen < 2147483647) : Rg.regE8 r x old = Rg.regE r x old := by
  unfold Rg.regE8 Rg.regE
  rw [if_neg (by omega : ¬ r.gen = 2147483647)]
theorem reg_good8 {t : S} (h : Good t M) {x old y : Int} (h0 : 0 ≤ x) (h7 : x ≤ 7) (hy0 : 0 ≤ y) (hy1 : y ≤ 1000) : Good (regT8 t x old y).t M :=
  keep_good h (Nat.le_refl _) fun hE => by
    have hlt : t.r.gen < 2147483647 := by
      have := h.rv.gen1
      unfold Rg.regE8 at hE
      split at hE
      · split at hE
        · cases hE
        · omega
      · cases hE
    exact ⟨h.rv.reg hlt h0 h7 hy0 hy1, by rw [Rg.reg_gen]; show _ ≤ ((2147483647 : Nat) : Int); omega⟩

/-- What is asked by one row of numbers. -/
def ask8 (ops : List Lg.Op) (t : S) (n : Nat) (f : Nat → Int) : S :=
  if n < 2 then t
  else if wi (f 0) 8 < 5 ∧ 0 < ops.length then (doR t (wi (f 1) 8) (ops.getD (wi (IntKind.i64.wrap ((f 0).tdiv 8)) ops.length) ⟨0, ⟨#[]⟩, ⟨#[]⟩, 0, ⟨#[]⟩⟩)).t
  else if wi (f 0) 8 = 5 then (regT8 t (wi (f 1) 8) (if 3 < n then wi (f 2) 4 else 0) (if 3 < n then wi (f 3) 4 else 0)).t
  else if wi (f 0) 8 = 6 then (resT t (wi (f 1) 8) (if 3 < n then wi (f 2) 4 else 0) (Rg.kinds (if 3 < n then wi (f 3) 4 else 0))).t
  else (relT t (wi (f 1) 8) (if 3 < n then wi (f 2) 4 else 0) (Rg.kinds (if 3 < n then wi (f 3) 4 else 0))).t
def asks8 (ops : List Lg.Op) (N : Nat → Nat) (F : Nat → Nat → Int) (t : S) : Nat → S
  | 0 => t
  | q + 1 => ask8 ops (asks8 ops N F t q) (N q) (F q)

end Go.Proofs.YtenkdpogdfcbgaaGreat.Tg

namespace Go.Proofs.YtenkdpogdfcbgaaGreat
open Go.RowKit

theorem Rs.Register_8 (g k q x old y : Int) (a : Option Addr) (n c : Nat) (ts : List Qu.T) (w : World) (hG : Rg.Good ⟨g, ts, k, q⟩) (hT : Rs.TSl w a n c ts) (hx0 : 0 ≤ x) (hx7 : x ≤ 7) (hy0 : 0 ≤ y) (hy1 : y ≤ 1000) :
    Calls Tryz.prog 42 #[.agg #[.int .i64 g, .slice a n c, .int .i64 k, .int .i64 q], .int .i64 x, .int .i64 old, .int .i64 y] w (Rs.RTo w (Rs.rz (Rg.regR ⟨g, ts, k, q⟩ x y) (Rg.regE8 ⟨g, ts, k, q⟩ x old)) (Rg.regE8 ⟨g, ts, k, q⟩ x old)) := by
  by_cases h : g = 2147483647
  · subst h
    exact Rs.Register_M k q x old y a n c ts w hG hT hx0 hx7 hy0 hy1
  · have hlt : g < 2147483647 := by have := hG.gen1; dsimp only at this; omega
    have h1 := Rs.Register_R g k q x old y a n c ts w hG hT hlt hx0 hx7 hy0 hy1
    rw [Tg.regE8_lt (r := ⟨g, ts, k, q⟩) hlt]
    exact h1

set_option maxRecDepth 100000 in
set_option maxHeartbeats 4000000 in
theorem Register_T8 (B base : Nat) (t : Tg.S) (x old y : Int) (w : World) (h : TgW w B base t Tg.M) (hx0 : 0 ≤ x) (hx7 : x ≤ 7) (hy0 : 0 ≤ y) (hy1 : y ≤ 1000) :
    Calls Tryz.prog 17 #[.pointer (some ⟨B, 0, none⟩), .int .i64 x, .int .i64 old, .int .i64 y] w (TgTo w B base (Tg.regT8 t x old y).t Tg.M (.returned (.int .i64 ((Tg.regT8 t x old y).e : Nat)))) := by
  obtain ⟨a, n, c, b, m, d, rs, rx, ry, rz, hX, hS, hR⟩ := h.ex
  have hg := h.good
  have HD := Tg.reg_good8 hg hx0 hx7 (old := old) hy0 hy1
  have h0 := h
  obtain ⟨st, ⟨g, regs, k, q⟩, l⟩ := t
  have R1 := Rs.Register_8 g k q x old y rx ry rz regs w hg.rv (Rs.own_tsl hR (Below.refl _ _)) hx0 hx7 hy0 hy1
  have K1 := fun e w1 => @keep_rto B base Tg.M Tg.M ⟨st, ⟨g, regs, k, q⟩, l⟩ (Rg.regR ⟨g, regs, k, q⟩ x y) (Rg.regE8 ⟨g, regs, k, q⟩ x old) w w1 e h0 HD (Nat.le_refl _)
  have HK := Lib.hid K1
  unfold Tg.regT8
  dsimp only
  obtain ⟨E, hE⟩ : ∃ E, Rg.regE8 ⟨g, regs, k, q⟩ x old = E := ⟨_, rfl⟩
  rw [hE] at R1 HK ⊢
  obtain ⟨Z, hZ⟩ : ∃ Z, Tg.keep ⟨st, ⟨g, regs, k, q⟩, l⟩ (Rg.regR ⟨g, regs, k, q⟩ x y) E = Z := ⟨_, rfl⟩
  have HZE : Hid (Z.e = E) := Lib.hid (by rw [← hZ]; rfl)
  rw [hZ] at HK ⊢
  have HZE' := HZE.out
  rw [HZE']
  unfold tgc at hX
  have c2 := hX.c 2 _ rfl; have c3 := hX.c 3 _ rfl; have c4 := hX.c 4 _ rfl; have c5 := hX.c 5 _ rfl
  dsimp only at c2 c3 c4 c5
  clear h0 HD hZ hE hX hS hR K1 HZE' h hg
  go_enter Tryz.func17, Tryz.ntmps17
  go_wp2_with fail
  with_reducible refine R1.mono ?_
  intro e w1 hr
  obtain ⟨x6, y6, z6, rfl, KK⟩ := HK.out _ _ hr
  clear hr R1 c2 c3 c4 c5
  go_wp2_with fail
  with_reducible refine KK.mono ?_
  rintro e w2 ⟨rfl, hT, hgb⟩
  have HF := Lib.hid (And.intro hT hgb)
  clear hT hgb KK
  go_wp2_with fail
  go_ret
  exact ⟨rfl, HF.out⟩

end Go.Proofs.YtenkdpogdfcbgaaGreat
