/- The walks of log.text and log.Encode. -/
import Derived.Test.YthccdoejnklidaaLogW2
import Derived.Test.YthccdoejnklidaaShut
import Derived.Deep.RegionHeld3
namespace Go.Proofs.Ythccdoejnklidaa
open Go.RowKit

theorem addr_addL (b j : Nat) : (⟨b, 0, none⟩ : Addr).add j = ⟨b, j, none⟩ := by unfold Addr.add; split <;> simp_all

set_option maxRecDepth 100000 in
set_option maxHeartbeats 1000000 in
theorem text_any (s T : ByteArray) (w : World) (hs : s.size ≤ 255) (hT : T.data.toList = Lg.tx s.data.toList) :
    Calls Try.prog 34 #[.string s] w fun e w' => e = .returned (.string T) ∧ Below w.heap.size w w' := by
  have hl : s.data.toList.length = s.size := Array.length_toList ..
  obtain ⟨n, hn⟩ : ∃ n, s.size = n := ⟨_, rfl⟩
  obtain ⟨c, hc⟩ : ∃ x, x = UInt8.ofNat n := ⟨_, rfl⟩
  have hk0 : (n : Int) = (c.toNat : Int) := by rw [hc, UInt8.toNat_ofNat']; omega
  have hres : (⟨[c].toArray⟩ : ByteArray) ++ s = T := by
    apply ByteArray.ext
    apply Array.toList_inj.mp
    rw [hT]
    unfold Lg.tx
    rw [hl, hn, ← hc]
    simp
  obtain ⟨H, hH⟩ : ∃ H : ByteArray, H = ⟨[c].toArray⟩ := ⟨_, rfl⟩
  have hHs : H.size = 1 := by rw [hH]; rfl
  rw [← hH] at hres
  rw [← hres]
  obtain ⟨W, hW⟩ : ∃ W, W = w.alloc (.cells #[.int .u8 (n : Int)] 5) := ⟨_, rfl⟩
  have hB : Below w.heap.size w W := by rw [hW]; exact (Below.refl _ w).alloc (Nat.le_refl _) _
  have hcells : ∀ (j : Nat) (hj : j < [c].length), W.cell? ((⟨w.heap.size, 0, none⟩ : Addr).add j) = some (.int .u8 (([c][j]).toNat : Int)) := by
    intro j hj
    rw [addr_addL, hW, hk0]
    rcases j with _ | j
    · exact cell_new w (k := 0) rfl
    · exact absurd hj (by simp)
  have hcv := run_convert_bytes_back (P := Try.prog) W 58 9 5 ⟨w.heap.size, 0, none⟩ 1 [c] Try.underlying58 Try.underlying5 Try.underlying9 hcells
  rw [show [c].length = 1 from rfl, ← hH, hW] at hcv
  have HB := Lib.hid hB
  rw [hW] at HB
  rw [hn] at hs
  clear hcells hB hW hH hc hk0 hl hres hT
  go_enter Try.func34, Try.ntmps34
  go_wp2_with fail
  go_ret
  exact ⟨rfl, HB.out⟩

theorem wpAnyH_mono {P : Program} {md : Region.Mode} {ops : Array Oper} {Q : Exit → Act → World → Prop} {S S' : World → Prop} (h : ∀ w, S' w → S w) :
    ∀ (fuel : Nat) (listed : Array Bool) (a : Act) (w : World), wpAnyH P md ops Q S' fuel listed a w → wpAnyH P md ops Q S fuel listed a w
  | 0, _, _, _, hw => hw
  | fuel + 1, _, _, _, hw => ⟨hw.1, fun i hi => wpOp_mono (fun a' w' h' => ⟨h _ h'.1, wpAnyH_mono h fuel _ a' w' h'.2⟩) (hw.2 i hi)⟩

/-- A deed's box, and what stands below. -/
abbrev K5 (w : World) (B : Nat) (k nm to a tx : Value) (V : World) : Prop :=
  V.cell? ⟨B, 0, none⟩ = some k ∧ V.cell? ⟨B, 1, none⟩ = some nm ∧ V.cell? ⟨B, 2, none⟩ = some to ∧ V.cell? ⟨B, 3, none⟩ = some a ∧ V.cell? ⟨B, 4, none⟩ = some tx ∧ Below w.heap.size w V ∧ B < V.heap.size

theorem K5.on {w V V' : World} {B : Nat} {k nm to a tx : Value} (h : K5 w B k nm to a tx V) (hb : Below V.heap.size V V') : K5 w B k nm to a tx V' := by
  obtain ⟨c0, c1, c2, c3, c4, hB, hl⟩ := h
  exact ⟨by rw [hb.cell (p := ⟨B, 0, none⟩) hl]; exact c0, by rw [hb.cell (p := ⟨B, 1, none⟩) hl]; exact c1, by rw [hb.cell (p := ⟨B, 2, none⟩) hl]; exact c2, by rw [hb.cell (p := ⟨B, 3, none⟩) hl]; exact c3,
    by rw [hb.cell (p := ⟨B, 4, none⟩) hl]; exact c4, hB.trans (hb.mono hB.size), Nat.lt_of_lt_of_le hl hb.size⟩

theorem K5.drew {w V : World} {B : Nat} {k nm to a tx : Value} (h : K5 w B k nm to a tx V) : K5 w B k nm to a tx V.drew := by
  obtain ⟨c0, c1, c2, c3, c4, hB, hl⟩ := h
  exact ⟨c0, c1, c2, c3, c4, Below.drew hB, hl⟩

theorem K5.alloc {w V : World} {B : Nat} {k nm to a tx : Value} (h : K5 w B k nm to a tx V) (o : Obj) : K5 w B k nm to a tx (V.alloc o) := h.on ((Below.refl _ V).alloc (Nat.le_refl _) o)

theorem k5_new (w : World) (T : TypeId) (k nm to a tx : Value) : K5 w w.heap.size k nm to a tx (w.alloc (.cells #[k, nm, to, a, tx] T)) :=
  ⟨cell_new w (k := 0) rfl, cell_new w (k := 1) rfl, cell_new w (k := 2) rfl, cell_new w (k := 3) rfl, cell_new w (k := 4) rfl, (Below.refl _ w).alloc (Nat.le_refl _) _, by rw [World.size_alloc]; omega⟩

/-- Two bytes that were just laid. -/
def N2 (c0 c1 : UInt8) (B : Nat) (V : World) : Prop := V.cell? ⟨B, 0, none⟩ = some (.int .u8 c0.toNat) ∧ V.cell? ⟨B, 1, none⟩ = some (.int .u8 c1.toNat) ∧ B < V.heap.size

theorem n2_new (c0 c1 : UInt8) (V : World) (T : TypeId) : N2 c0 c1 V.heap.size (V.alloc (.cells #[.int .u8 (c0.toNat : Int), .int .u8 (c1.toNat : Int)] T)) :=
  ⟨cell_new V (k := 0) rfl, cell_new V (k := 1) rfl, by rw [World.size_alloc]; omega⟩

theorem N2.on {c0 c1 : UInt8} {B : Nat} {V V' : World} (h : N2 c0 c1 B V) (hb : Below V.heap.size V V') : N2 c0 c1 B V' :=
  ⟨by rw [hb.cell (p := ⟨B, 0, none⟩) h.2.2]; exact h.1, by rw [hb.cell (p := ⟨B, 1, none⟩) h.2.2]; exact h.2.1, Nat.lt_of_lt_of_le h.2.2 hb.size⟩

theorem N2.drew {c0 c1 : UInt8} {B : Nat} {V : World} (h : N2 c0 c1 B V) : N2 c0 c1 B V.drew := h

theorem n2_conv {c0 c1 : UInt8} {B : Nat} {V : World} (h : N2 c0 c1 B V) : (convert 58 9 (.slice (some ⟨B, 0, none⟩) 2 2)).run Try.prog V = .ok (.string ⟨#[c0, c1]⟩) V := by
  have := run_convert_bytes_back (P := Try.prog) V 58 9 5 ⟨B, 0, none⟩ 2 [c0, c1] Try.underlying58 Try.underlying5 Try.underlying9 (by
    intro j hj
    rw [addr_addL]
    rcases j with _ | _ | j
    · exact h.1
    · exact h.2.1
    · exact absurd hj (by simp))
  exact this

set_option linter.unusedSimpArgs false in
set_option maxRecDepth 100000 in
set_option maxHeartbeats 4000000 in
theorem Encode_core (c0 c1 : UInt8) (nm to tx T1 T2 T3 : ByteArray) (w : World)
    (C1 : ∀ w, Calls Try.prog 27 #[.agg #[.int .i64 c0.toNat, .string nm, .string to, .int .i64 c1.toNat, .string tx]] w fun e w' => e = .returned (.int .i64 0) ∧ Below w.heap.size w w')
    (X1 : ∀ w, Calls Try.prog 34 #[.string nm] w fun e w' => e = .returned (.string T1) ∧ Below w.heap.size w w')
    (X2 : ∀ w, Calls Try.prog 34 #[.string to] w fun e w' => e = .returned (.string T2) ∧ Below w.heap.size w w')
    (X3 : ∀ w, Calls Try.prog 34 #[.string tx] w fun e w' => e = .returned (.string T3) ∧ Below w.heap.size w w')
    (z1 : T1.size ≤ 256) (z2 : T2.size ≤ 256) (z3 : T3.size ≤ 256) :
    Calls Try.prog 17 #[.agg #[.int .i64 c0.toNat, .string nm, .string to, .int .i64 c1.toNat, .string tx]] w fun e w' => e = .returned (.tuple #[.string (((⟨#[c0, c1]⟩ : ByteArray) ++ T1) ++ T2 ++ T3), .int .i64 0]) ∧ Below w.heap.size w w' := by
  have HK0 := Lib.hid (k5_new w 28 (.int .i64 c0.toNat) (.string nm) (.string to) (.int .i64 c1.toNat) (.string tx))
  have l0 := c0.toNat_lt
  have l1 := c1.toNat_lt
  have p0 : IntKind.u8.wrap (c0.toNat : Int) = (c0.toNat : Int) := by unfold IntKind.wrap; simp [IntKind.bits, IntKind.signed]; omega
  have p1 : IntKind.u8.wrap (c1.toNat : Int) = (c1.toNat : Int) := by unfold IntKind.wrap; simp [IntKind.bits, IntKind.signed]; omega
  have hcv := fun V => n2_conv (n2_new c0 c1 V 5)
  obtain ⟨H, hH⟩ : ∃ H : ByteArray, H = ⟨#[c0, c1]⟩ := ⟨_, rfl⟩
  have hHs : H.size = 2 := by rw [hH]; rfl
  have HC : ∀ (B : Nat) (V : World), N2 c0 c1 B V → (convert 58 9 (.slice (some ⟨B, 0, none⟩) 2 2)).run Try.prog V = .ok (.string H) V := fun B V h => by rw [hH]; exact n2_conv h
  have HCH := Lib.hid HC
  have hcv' : ∀ V : World, (convert 58 9 (.slice (some ⟨V.heap.size, 0, none⟩) 2 2)).run Try.prog (V.alloc (.cells #[.int .u8 (c0.toNat : Int), .int .u8 (c1.toNat : Int)] 5)).drew = .ok (.string H) (V.alloc (.cells #[.int .u8 (c0.toNat : Int), .int .u8 (c1.toNat : Int)] 5)).drew := fun V => HC _ _ (n2_new c0 c1 V 5).drew
  rw [← hH] at hcv ⊢
  clear hH HC
  have q1 : ¬ (9223372036854775807 < H.size + T1.size) := by omega
  have q2 : ¬ (9223372036854775807 < H.size + T1.size + T2.size) := by omega
  have q3 : ¬ (9223372036854775807 < H.size + T1.size + T2.size + T3.size) := by omega
  clear hHs z1 z2 z3
  go_enter Try.func17, Try.ntmps17
  go_wp2_with fail
  with_reducible refine (C1 _).mono ?_
  rintro e w1 ⟨rfl, hb1⟩
  have HK1 := Lib.hid (HK0.out.on hb1)
  clear hb1 HK0 C1
  generalize w.heap.size = B at *
  obtain ⟨k0, k1, k2, k3, k4, kb, kl⟩ := HK1.out
  go_wp2_with fail
  refine wp_region_noPanic ?_
  refine wp_region_held_drew (S := K5 w B (.int .i64 c0.toNat) (.string nm) (.string to) (.int .i64 c1.toNat) (.string tx)) (by kernel_rfl) (K5.drew HK1.out) (fun hS => ?_)
  refine wpAnyH_take (i := 0) (oi := _) (v := ?_) rfl (by kernel_rfl) (by kernel_rfl) (by kernel_rfl) (fun _ _ _ h => h) (Or.inl ⟨by rfl, ?_⟩) (by assumption) ?_
  rotate_left
  next => (rintro w' ⟨k0, k1, k2, k3, k4, kb, kl⟩; go_simp; (try with_reducible rfl))
  (try simp only [Act.put, List.setIfInBounds_toArray, List.set_cons_zero, List.set_cons_succ])
  refine wpAnyH_take (i := 1) (oi := _) (v := ?_) rfl (by kernel_rfl) (by kernel_rfl) (by kernel_rfl) (fun _ _ _ h => h) (Or.inl ⟨by rfl, ?_⟩) (by assumption) ?_
  rotate_left
  next => (rintro w' ⟨k0, k1, k2, k3, k4, kb, kl⟩; go_simp; (try with_reducible rfl))
  (try simp only [Act.put, List.setIfInBounds_toArray, List.set_cons_zero, List.set_cons_succ])
  refine wpAnyH_take (i := 2) (oi := _) (v := ?_) rfl (by kernel_rfl) (by kernel_rfl) (by kernel_rfl) (fun _ _ _ h => h) (Or.inl ⟨by rfl, ?_⟩) (by assumption) ?_
  rotate_left
  next => (rintro w' ⟨k0, k1, k2, k3, k4, kb, kl⟩; go_simp; (try with_reducible rfl))
  (try simp only [Act.put, List.setIfInBounds_toArray, List.set_cons_zero, List.set_cons_succ])
  refine wpAnyH_take (i := 3) (oi := _) (v := ?_) rfl (by kernel_rfl) (by kernel_rfl) (by kernel_rfl) (fun _ _ _ h => h) (Or.inl ⟨by rfl, ?_⟩) (by assumption) ?_
  rotate_left
  next => (rintro w' ⟨k0, k1, k2, k3, k4, kb, kl⟩; go_simp; (try with_reducible rfl))
  (try simp only [Act.put, List.setIfInBounds_toArray, List.set_cons_zero, List.set_cons_succ])
  refine wpAnyH_take (i := 4) (oi := _) (v := ?_) rfl (by kernel_rfl) (by kernel_rfl) (by kernel_rfl) (fun _ _ _ h => h) (Or.inl ⟨by rfl, ?_⟩) (by assumption) ?_
  rotate_left
  next => (rintro w' ⟨k0, k1, k2, k3, k4, kb, kl⟩; go_simp; (try with_reducible rfl))
  (try simp only [Act.put, List.setIfInBounds_toArray, List.set_cons_zero, List.set_cons_succ])
  refine wpAnyH_take (i := 5) (oi := _) (v := ?_) rfl (by kernel_rfl) (by kernel_rfl) (by kernel_rfl) (fun _ _ _ h => h) (Or.inl ⟨by rfl, ?_⟩) (by assumption) ?_
  rotate_left
  next => (rintro w' ⟨k0, k1, k2, k3, k4, kb, kl⟩; go_simp; (try with_reducible rfl))
  (try simp only [Act.put, List.setIfInBounds_toArray, List.set_cons_zero, List.set_cons_succ])
  refine wpAnyH_take (i := 8) (oi := _) (v := ?_) rfl (by kernel_rfl) (by kernel_rfl) (by kernel_rfl) (fun _ _ _ h => h) (Or.inl ⟨by rfl, ?_⟩) (by assumption) ?_
  rotate_left
  next => (rintro w' ⟨k0, k1, k2, k3, k4, kb, kl⟩; go_simp; (try with_reducible rfl))
  (try simp only [Act.put, List.setIfInBounds_toArray, List.set_cons_zero, List.set_cons_succ])
  refine wpAnyH_take (i := 9) (oi := _) (v := ?_) rfl (by kernel_rfl) (by kernel_rfl) (by kernel_rfl) (fun _ _ _ h => h) (Or.inl ⟨by rfl, ?_⟩) (by assumption) ?_
  rotate_left
  next => (rintro w' ⟨k0, k1, k2, k3, k4, kb, kl⟩; go_simp; (try with_reducible rfl))
  (try simp only [Act.put, List.setIfInBounds_toArray, List.set_cons_zero, List.set_cons_succ])
  refine wpAnyH_take (i := 12) (oi := _) (v := ?_) rfl (by kernel_rfl) (by kernel_rfl) (by kernel_rfl) (fun _ _ _ h => h) (Or.inl ⟨by rfl, ?_⟩) (by assumption) ?_
  rotate_left
  next => (rintro w' ⟨k0, k1, k2, k3, k4, kb, kl⟩; go_simp; (try with_reducible rfl))
  (try simp only [Act.put, List.setIfInBounds_toArray, List.set_cons_zero, List.set_cons_succ])
  refine wpAnyH_take (i := 13) (oi := _) (v := ?_) rfl (by kernel_rfl) (by kernel_rfl) (by kernel_rfl) (fun _ _ _ h => h) (Or.inl ⟨by rfl, ?_⟩) (by assumption) ?_
  rotate_left
  next => (rintro w' ⟨k0, k1, k2, k3, k4, kb, kl⟩; go_simp; (try with_reducible rfl))
  (try simp only [Act.put, List.setIfInBounds_toArray, List.set_cons_zero, List.set_cons_succ])
  refine wpAnyH_take (i := 16) (oi := _) (v := ?_) rfl (by kernel_rfl) (by kernel_rfl) (by kernel_rfl) (fun _ _ _ h => h) (Or.inl ⟨by rfl, ?_⟩) (by assumption) ?_
  rotate_left
  next => (rintro w' ⟨k0, k1, k2, k3, k4, kb, kl⟩; go_simp; (try with_reducible rfl))
  (try simp only [Act.put, List.setIfInBounds_toArray, List.set_cons_zero, List.set_cons_succ])
  refine wpAnyH_take (i := 17) (oi := _) (v := ?_) rfl (by kernel_rfl) (by kernel_rfl) (by kernel_rfl) (fun _ _ _ h => h) (Or.inl ⟨by rfl, ?_⟩) (by assumption) ?_
  rotate_left
  next => (rintro w' ⟨k0, k1, k2, k3, k4, kb, kl⟩; go_simp; (try with_reducible rfl))
  (try simp only [Act.put, List.setIfInBounds_toArray, List.set_cons_zero, List.set_cons_succ])
  refine wpAnyH_ready (rs := [6, 10]) (by kernel_rfl) (by simp) ?_
  refine AllReadyH.cons (o := _) rfl (fun K hK => ?_) ?_
  · go_simp
    have hX : K5 w B (.int .i64 c0.toNat) (.string nm) (.string to) (.int .i64 c1.toNat) (.string tx) (w1.alloc (.cells #[.int .u8 (c0.toNat : Int), .int .u8 (c1.toNat : Int)] 5)).drew := K5.drew (K5.alloc HK1.out _)
    have hN : N2 c0 c1 w1.heap.size (w1.alloc (.cells #[.int .u8 (c0.toNat : Int), .int .u8 (c1.toNat : Int)] 5)).drew := (n2_new c0 c1 _ _).drew
    refine hK.out _ _ hX (fun _ => ?_)
    clear hK K hS
    (try simp only [Act.put, List.setIfInBounds_toArray, List.set_cons_zero, List.set_cons_succ])
    refine wpAnyH_mono (S' := fun V => K5 w B (.int .i64 c0.toNat) (.string nm) (.string to) (.int .i64 c1.toNat) (.string tx) V ∧ N2 c0 c1 w1.heap.size V) (fun _ h => h.1) _ _ _ _ ?_
    have hS : (fun V => K5 w B (.int .i64 c0.toNat) (.string nm) (.string to) (.int .i64 c1.toNat) (.string tx) V ∧ N2 c0 c1 w1.heap.size V) (w1.alloc (.cells #[.int .u8 (c0.toNat : Int), .int .u8 (c1.toNat : Int)] 5)).drew := ⟨hX, hN⟩
    clear hX hN
    refine wpAnyH_take (i := 7) (oi := _) (v := ?_) rfl (by kernel_rfl) (by kernel_rfl) (by kernel_rfl) (fun _ _ _ h => h) (Or.inl ⟨by rfl, ?_⟩) (by assumption) ?_
    rotate_left
    next => (rintro w' ⟨⟨k0, k1, k2, k3, k4, kb, kl⟩, hN⟩; have hcv := HCH.out _ _ hN; go_simp; (try with_reducible rfl))
    (try simp only [Act.put, List.setIfInBounds_toArray, List.set_cons_zero, List.set_cons_succ])
    refine wpAnyH_ready (rs := [10]) (by kernel_rfl) (by simp) ?_
    refine AllReadyH.cons (o := _) rfl (fun K hK => ?_) ?_
    · go_simp
      go_at_call 34
      with_reducible refine (X1 _).mono ?_
      rintro e s1 ⟨rfl, hb1⟩
      have hX : (fun V => K5 w B (.int .i64 c0.toNat) (.string nm) (.string to) (.int .i64 c1.toNat) (.string tx) V ∧ N2 c0 c1 w1.heap.size V) s1 := ⟨K5.on hS.1 hb1, hS.2.on hb1⟩
      refine hK.out _ _ hX (fun _ => ?_)
      clear hK K hS hb1
      (try simp only [Act.put, List.setIfInBounds_toArray, List.set_cons_zero, List.set_cons_succ])
      have hS := hX
      clear hX
      refine wpAnyH_take (i := 11) (oi := _) (v := ?_) rfl (by kernel_rfl) (by kernel_rfl) (by kernel_rfl) (fun _ _ _ h => h) (Or.inl ⟨by rfl, ?_⟩) (by assumption) ?_
      rotate_left
      next => (rintro w' ⟨⟨k0, k1, k2, k3, k4, kb, kl⟩, hN⟩; have hcv := HCH.out _ _ hN; go_simp; (try with_reducible rfl))
      (try simp only [Act.put, List.setIfInBounds_toArray, List.set_cons_zero, List.set_cons_succ])
      refine wpAnyH_ready (rs := [14]) (by kernel_rfl) (by simp) ?_
      refine AllReadyH.cons (o := _) rfl (fun K hK => ?_) ?_
      · go_simp
        go_at_call 34
        with_reducible refine (X2 _).mono ?_
        rintro e s2 ⟨rfl, hb2⟩
        have hX : (fun V => K5 w B (.int .i64 c0.toNat) (.string nm) (.string to) (.int .i64 c1.toNat) (.string tx) V ∧ N2 c0 c1 w1.heap.size V) s2 := ⟨K5.on hS.1 hb2, hS.2.on hb2⟩
        refine hK.out _ _ hX (fun _ => ?_)
        clear hK K hS hb2
        (try simp only [Act.put, List.setIfInBounds_toArray, List.set_cons_zero, List.set_cons_succ])
        have hS := hX
        clear hX
        refine wpAnyH_take (i := 15) (oi := _) (v := ?_) rfl (by kernel_rfl) (by kernel_rfl) (by kernel_rfl) (fun _ _ _ h => h) (Or.inl ⟨by rfl, ?_⟩) (by assumption) ?_
        rotate_left
        next => (rintro w' ⟨⟨k0, k1, k2, k3, k4, kb, kl⟩, hN⟩; have hcv := HCH.out _ _ hN; go_simp; (try with_reducible rfl))
        (try simp only [Act.put, List.setIfInBounds_toArray, List.set_cons_zero, List.set_cons_succ])
        refine wpAnyH_ready (rs := [18]) (by kernel_rfl) (by simp) ?_
        refine AllReadyH.cons (o := _) rfl (fun K hK => ?_) ?_
        · go_simp
          go_at_call 34
          with_reducible refine (X3 _).mono ?_
          rintro e s3 ⟨rfl, hb3⟩
          have hX : (fun V => K5 w B (.int .i64 c0.toNat) (.string nm) (.string to) (.int .i64 c1.toNat) (.string tx) V ∧ N2 c0 c1 w1.heap.size V) s3 := ⟨K5.on hS.1 hb3, hS.2.on hb3⟩
          refine hK.out _ _ hX (fun _ => ?_)
          clear hK K hS hb3
          (try simp only [Act.put, List.setIfInBounds_toArray, List.set_cons_zero, List.set_cons_succ])
          have hS := hX
          clear hX
          refine wpAnyH_take (i := 19) (oi := _) (v := ?_) rfl (by kernel_rfl) (by kernel_rfl) (by kernel_rfl) (fun _ _ _ h => h) (Or.inl ⟨by rfl, ?_⟩) (by assumption) ?_
          rotate_left
          next => (rintro w' ⟨⟨k0, k1, k2, k3, k4, kb, kl⟩, hN⟩; have hcv := HCH.out _ _ hN; go_simp; (try with_reducible rfl))
          (try simp only [Act.put, List.setIfInBounds_toArray, List.set_cons_zero, List.set_cons_succ])
          refine wpAnyH_take (i := 20) (oi := _) (v := ?_) rfl (by kernel_rfl) (by kernel_rfl) (by kernel_rfl) (fun _ _ _ h => h) (Or.inl ⟨by rfl, ?_⟩) (by assumption) ?_
          rotate_left
          next => (rintro w' ⟨⟨k0, k1, k2, k3, k4, kb, kl⟩, hN⟩; have hcv := HCH.out _ _ hN; go_simp; (try with_reducible rfl))
          (try simp only [Act.put, List.setIfInBounds_toArray, List.set_cons_zero, List.set_cons_succ])
          refine wpAnyH_take (i := 21) (oi := _) (v := ?_) rfl (by kernel_rfl) (by kernel_rfl) (by kernel_rfl) (fun _ _ _ h => h) (Or.inl ⟨by rfl, ?_⟩) (by assumption) ?_
          rotate_left
          next => (rintro w' ⟨⟨k0, k1, k2, k3, k4, kb, kl⟩, hN⟩; have hcv := HCH.out _ _ hN; go_simp; (try with_reducible rfl))
          (try simp only [Act.put, List.setIfInBounds_toArray, List.set_cons_zero, List.set_cons_succ])
          refine wpAnyH_done (by kernel_rfl) ?_ _
          refine NoPanic.normal ?_
          go_wp2_with fail
          go_ret2
          exact ⟨rfl, hS.1.2.2.2.2.2.1⟩
        exact AllReadyH.nil
      exact AllReadyH.nil
    exact AllReadyH.nil
  refine AllReadyH.cons (o := _) rfl (fun K hK => ?_) ?_
  · go_simp
    go_at_call 34
    with_reducible refine (X1 _).mono ?_
    rintro e s1 ⟨rfl, hb1⟩
    have hX : K5 w B (.int .i64 c0.toNat) (.string nm) (.string to) (.int .i64 c1.toNat) (.string tx) s1 := K5.on hS hb1
    refine hK.out _ _ hX (fun _ => ?_)
    clear hK K hS hb1
    (try simp only [Act.put, List.setIfInBounds_toArray, List.set_cons_zero, List.set_cons_succ])
    have hS := hX
    clear hX
    refine wpAnyH_ready (rs := [6, 14]) (by kernel_rfl) (by simp) ?_
    refine AllReadyH.cons (o := _) rfl (fun K hK => ?_) ?_
    · go_simp
      have hX : K5 w B (.int .i64 c0.toNat) (.string nm) (.string to) (.int .i64 c1.toNat) (.string tx) (s1.alloc (.cells #[.int .u8 (c0.toNat : Int), .int .u8 (c1.toNat : Int)] 5)) := K5.alloc hS _
      have hN : N2 c0 c1 s1.heap.size (s1.alloc (.cells #[.int .u8 (c0.toNat : Int), .int .u8 (c1.toNat : Int)] 5)) := (n2_new c0 c1 _ _)
      refine hK.out _ _ hX (fun _ => ?_)
      clear hK K hS
      (try simp only [Act.put, List.setIfInBounds_toArray, List.set_cons_zero, List.set_cons_succ])
      refine wpAnyH_mono (S' := fun V => K5 w B (.int .i64 c0.toNat) (.string nm) (.string to) (.int .i64 c1.toNat) (.string tx) V ∧ N2 c0 c1 s1.heap.size V) (fun _ h => h.1) _ _ _ _ ?_
      have hS : (fun V => K5 w B (.int .i64 c0.toNat) (.string nm) (.string to) (.int .i64 c1.toNat) (.string tx) V ∧ N2 c0 c1 s1.heap.size V) (s1.alloc (.cells #[.int .u8 (c0.toNat : Int), .int .u8 (c1.toNat : Int)] 5)) := ⟨hX, hN⟩
      clear hX hN
      refine wpAnyH_take (i := 7) (oi := _) (v := ?_) rfl (by kernel_rfl) (by kernel_rfl) (by kernel_rfl) (fun _ _ _ h => h) (Or.inl ⟨by rfl, ?_⟩) (by assumption) ?_
      rotate_left
      next => (rintro w' ⟨⟨k0, k1, k2, k3, k4, kb, kl⟩, hN⟩; have hcv := HCH.out _ _ hN; go_simp; (try with_reducible rfl))
      (try simp only [Act.put, List.setIfInBounds_toArray, List.set_cons_zero, List.set_cons_succ])
      refine wpAnyH_take (i := 11) (oi := _) (v := ?_) rfl (by kernel_rfl) (by kernel_rfl) (by kernel_rfl) (fun _ _ _ h => h) (Or.inl ⟨by rfl, ?_⟩) (by assumption) ?_
      rotate_left
      next => (rintro w' ⟨⟨k0, k1, k2, k3, k4, kb, kl⟩, hN⟩; have hcv := HCH.out _ _ hN; go_simp; (try with_reducible rfl))
      (try simp only [Act.put, List.setIfInBounds_toArray, List.set_cons_zero, List.set_cons_succ])
      refine wpAnyH_ready (rs := [14]) (by kernel_rfl) (by simp) ?_
      refine AllReadyH.cons (o := _) rfl (fun K hK => ?_) ?_
      · go_simp
        go_at_call 34
        with_reducible refine (X2 _).mono ?_
        rintro e s2 ⟨rfl, hb2⟩
        have hX : (fun V => K5 w B (.int .i64 c0.toNat) (.string nm) (.string to) (.int .i64 c1.toNat) (.string tx) V ∧ N2 c0 c1 s1.heap.size V) s2 := ⟨K5.on hS.1 hb2, hS.2.on hb2⟩
        refine hK.out _ _ hX (fun _ => ?_)
        clear hK K hS hb2
        (try simp only [Act.put, List.setIfInBounds_toArray, List.set_cons_zero, List.set_cons_succ])
        have hS := hX
        clear hX
        refine wpAnyH_take (i := 15) (oi := _) (v := ?_) rfl (by kernel_rfl) (by kernel_rfl) (by kernel_rfl) (fun _ _ _ h => h) (Or.inl ⟨by rfl, ?_⟩) (by assumption) ?_
        rotate_left
        next => (rintro w' ⟨⟨k0, k1, k2, k3, k4, kb, kl⟩, hN⟩; have hcv := HCH.out _ _ hN; go_simp; (try with_reducible rfl))
        (try simp only [Act.put, List.setIfInBounds_toArray, List.set_cons_zero, List.set_cons_succ])
        refine wpAnyH_ready (rs := [18]) (by kernel_rfl) (by simp) ?_
        refine AllReadyH.cons (o := _) rfl (fun K hK => ?_) ?_
        · go_simp
          go_at_call 34
          with_reducible refine (X3 _).mono ?_
          rintro e s3 ⟨rfl, hb3⟩
          have hX : (fun V => K5 w B (.int .i64 c0.toNat) (.string nm) (.string to) (.int .i64 c1.toNat) (.string tx) V ∧ N2 c0 c1 s1.heap.size V) s3 := ⟨K5.on hS.1 hb3, hS.2.on hb3⟩
          refine hK.out _ _ hX (fun _ => ?_)
          clear hK K hS hb3
          (try simp only [Act.put, List.setIfInBounds_toArray, List.set_cons_zero, List.set_cons_succ])
          have hS := hX
          clear hX
          refine wpAnyH_take (i := 19) (oi := _) (v := ?_) rfl (by kernel_rfl) (by kernel_rfl) (by kernel_rfl) (fun _ _ _ h => h) (Or.inl ⟨by rfl, ?_⟩) (by assumption) ?_
          rotate_left
          next => (rintro w' ⟨⟨k0, k1, k2, k3, k4, kb, kl⟩, hN⟩; have hcv := HCH.out _ _ hN; go_simp; (try with_reducible rfl))
          (try simp only [Act.put, List.setIfInBounds_toArray, List.set_cons_zero, List.set_cons_succ])
          refine wpAnyH_take (i := 20) (oi := _) (v := ?_) rfl (by kernel_rfl) (by kernel_rfl) (by kernel_rfl) (fun _ _ _ h => h) (Or.inl ⟨by rfl, ?_⟩) (by assumption) ?_
          rotate_left
          next => (rintro w' ⟨⟨k0, k1, k2, k3, k4, kb, kl⟩, hN⟩; have hcv := HCH.out _ _ hN; go_simp; (try with_reducible rfl))
          (try simp only [Act.put, List.setIfInBounds_toArray, List.set_cons_zero, List.set_cons_succ])
          refine wpAnyH_take (i := 21) (oi := _) (v := ?_) rfl (by kernel_rfl) (by kernel_rfl) (by kernel_rfl) (fun _ _ _ h => h) (Or.inl ⟨by rfl, ?_⟩) (by assumption) ?_
          rotate_left
          next => (rintro w' ⟨⟨k0, k1, k2, k3, k4, kb, kl⟩, hN⟩; have hcv := HCH.out _ _ hN; go_simp; (try with_reducible rfl))
          (try simp only [Act.put, List.setIfInBounds_toArray, List.set_cons_zero, List.set_cons_succ])
          refine wpAnyH_done (by kernel_rfl) ?_ _
          refine NoPanic.normal ?_
          go_wp2_with fail
          go_ret2
          exact ⟨rfl, hS.1.2.2.2.2.2.1⟩
        exact AllReadyH.nil
      exact AllReadyH.nil
    refine AllReadyH.cons (o := _) rfl (fun K hK => ?_) ?_
    · go_simp
      go_at_call 34
      with_reducible refine (X2 _).mono ?_
      rintro e s2 ⟨rfl, hb2⟩
      have hX : K5 w B (.int .i64 c0.toNat) (.string nm) (.string to) (.int .i64 c1.toNat) (.string tx) s2 := K5.on hS hb2
      refine hK.out _ _ hX (fun _ => ?_)
      clear hK K hS hb2
      (try simp only [Act.put, List.setIfInBounds_toArray, List.set_cons_zero, List.set_cons_succ])
      have hS := hX
      clear hX
      refine wpAnyH_ready (rs := [6, 18]) (by kernel_rfl) (by simp) ?_
      refine AllReadyH.cons (o := _) rfl (fun K hK => ?_) ?_
      · go_simp
        have hX : K5 w B (.int .i64 c0.toNat) (.string nm) (.string to) (.int .i64 c1.toNat) (.string tx) (s2.alloc (.cells #[.int .u8 (c0.toNat : Int), .int .u8 (c1.toNat : Int)] 5)) := K5.alloc hS _
        have hN : N2 c0 c1 s2.heap.size (s2.alloc (.cells #[.int .u8 (c0.toNat : Int), .int .u8 (c1.toNat : Int)] 5)) := (n2_new c0 c1 _ _)
        refine hK.out _ _ hX (fun _ => ?_)
        clear hK K hS
        (try simp only [Act.put, List.setIfInBounds_toArray, List.set_cons_zero, List.set_cons_succ])
        refine wpAnyH_mono (S' := fun V => K5 w B (.int .i64 c0.toNat) (.string nm) (.string to) (.int .i64 c1.toNat) (.string tx) V ∧ N2 c0 c1 s2.heap.size V) (fun _ h => h.1) _ _ _ _ ?_
        have hS : (fun V => K5 w B (.int .i64 c0.toNat) (.string nm) (.string to) (.int .i64 c1.toNat) (.string tx) V ∧ N2 c0 c1 s2.heap.size V) (s2.alloc (.cells #[.int .u8 (c0.toNat : Int), .int .u8 (c1.toNat : Int)] 5)) := ⟨hX, hN⟩
        clear hX hN
        refine wpAnyH_take (i := 7) (oi := _) (v := ?_) rfl (by kernel_rfl) (by kernel_rfl) (by kernel_rfl) (fun _ _ _ h => h) (Or.inl ⟨by rfl, ?_⟩) (by assumption) ?_
        rotate_left
        next => (rintro w' ⟨⟨k0, k1, k2, k3, k4, kb, kl⟩, hN⟩; have hcv := HCH.out _ _ hN; go_simp; (try with_reducible rfl))
        (try simp only [Act.put, List.setIfInBounds_toArray, List.set_cons_zero, List.set_cons_succ])
        refine wpAnyH_take (i := 11) (oi := _) (v := ?_) rfl (by kernel_rfl) (by kernel_rfl) (by kernel_rfl) (fun _ _ _ h => h) (Or.inl ⟨by rfl, ?_⟩) (by assumption) ?_
        rotate_left
        next => (rintro w' ⟨⟨k0, k1, k2, k3, k4, kb, kl⟩, hN⟩; have hcv := HCH.out _ _ hN; go_simp; (try with_reducible rfl))
        (try simp only [Act.put, List.setIfInBounds_toArray, List.set_cons_zero, List.set_cons_succ])
        refine wpAnyH_take (i := 15) (oi := _) (v := ?_) rfl (by kernel_rfl) (by kernel_rfl) (by kernel_rfl) (fun _ _ _ h => h) (Or.inl ⟨by rfl, ?_⟩) (by assumption) ?_
        rotate_left
        next => (rintro w' ⟨⟨k0, k1, k2, k3, k4, kb, kl⟩, hN⟩; have hcv := HCH.out _ _ hN; go_simp; (try with_reducible rfl))
        (try simp only [Act.put, List.setIfInBounds_toArray, List.set_cons_zero, List.set_cons_succ])
        refine wpAnyH_ready (rs := [18]) (by kernel_rfl) (by simp) ?_
        refine AllReadyH.cons (o := _) rfl (fun K hK => ?_) ?_
        · go_simp
          go_at_call 34
          with_reducible refine (X3 _).mono ?_
          rintro e s3 ⟨rfl, hb3⟩
          have hX : (fun V => K5 w B (.int .i64 c0.toNat) (.string nm) (.string to) (.int .i64 c1.toNat) (.string tx) V ∧ N2 c0 c1 s2.heap.size V) s3 := ⟨K5.on hS.1 hb3, hS.2.on hb3⟩
          refine hK.out _ _ hX (fun _ => ?_)
          clear hK K hS hb3
          (try simp only [Act.put, List.setIfInBounds_toArray, List.set_cons_zero, List.set_cons_succ])
          have hS := hX
          clear hX
          refine wpAnyH_take (i := 19) (oi := _) (v := ?_) rfl (by kernel_rfl) (by kernel_rfl) (by kernel_rfl) (fun _ _ _ h => h) (Or.inl ⟨by rfl, ?_⟩) (by assumption) ?_
          rotate_left
          next => (rintro w' ⟨⟨k0, k1, k2, k3, k4, kb, kl⟩, hN⟩; have hcv := HCH.out _ _ hN; go_simp; (try with_reducible rfl))
          (try simp only [Act.put, List.setIfInBounds_toArray, List.set_cons_zero, List.set_cons_succ])
          refine wpAnyH_take (i := 20) (oi := _) (v := ?_) rfl (by kernel_rfl) (by kernel_rfl) (by kernel_rfl) (fun _ _ _ h => h) (Or.inl ⟨by rfl, ?_⟩) (by assumption) ?_
          rotate_left
          next => (rintro w' ⟨⟨k0, k1, k2, k3, k4, kb, kl⟩, hN⟩; have hcv := HCH.out _ _ hN; go_simp; (try with_reducible rfl))
          (try simp only [Act.put, List.setIfInBounds_toArray, List.set_cons_zero, List.set_cons_succ])
          refine wpAnyH_take (i := 21) (oi := _) (v := ?_) rfl (by kernel_rfl) (by kernel_rfl) (by kernel_rfl) (fun _ _ _ h => h) (Or.inl ⟨by rfl, ?_⟩) (by assumption) ?_
          rotate_left
          next => (rintro w' ⟨⟨k0, k1, k2, k3, k4, kb, kl⟩, hN⟩; have hcv := HCH.out _ _ hN; go_simp; (try with_reducible rfl))
          (try simp only [Act.put, List.setIfInBounds_toArray, List.set_cons_zero, List.set_cons_succ])
          refine wpAnyH_done (by kernel_rfl) ?_ _
          refine NoPanic.normal ?_
          go_wp2_with fail
          go_ret2
          exact ⟨rfl, hS.1.2.2.2.2.2.1⟩
        exact AllReadyH.nil
      refine AllReadyH.cons (o := _) rfl (fun K hK => ?_) ?_
      · go_simp
        go_at_call 34
        with_reducible refine (X3 _).mono ?_
        rintro e s3 ⟨rfl, hb3⟩
        have hX : K5 w B (.int .i64 c0.toNat) (.string nm) (.string to) (.int .i64 c1.toNat) (.string tx) s3 := K5.on hS hb3
        refine hK.out _ _ hX (fun _ => ?_)
        clear hK K hS hb3
        (try simp only [Act.put, List.setIfInBounds_toArray, List.set_cons_zero, List.set_cons_succ])
        have hS := hX
        clear hX
        refine wpAnyH_ready (rs := [6]) (by kernel_rfl) (by simp) ?_
        refine AllReadyH.cons (o := _) rfl (fun K hK => ?_) ?_
        · go_simp
          have hX : K5 w B (.int .i64 c0.toNat) (.string nm) (.string to) (.int .i64 c1.toNat) (.string tx) (s3.alloc (.cells #[.int .u8 (c0.toNat : Int), .int .u8 (c1.toNat : Int)] 5)) := K5.alloc hS _
          have hN : N2 c0 c1 s3.heap.size (s3.alloc (.cells #[.int .u8 (c0.toNat : Int), .int .u8 (c1.toNat : Int)] 5)) := (n2_new c0 c1 _ _)
          refine hK.out _ _ hX (fun _ => ?_)
          clear hK K hS
          (try simp only [Act.put, List.setIfInBounds_toArray, List.set_cons_zero, List.set_cons_succ])
          refine wpAnyH_mono (S' := fun V => K5 w B (.int .i64 c0.toNat) (.string nm) (.string to) (.int .i64 c1.toNat) (.string tx) V ∧ N2 c0 c1 s3.heap.size V) (fun _ h => h.1) _ _ _ _ ?_
          have hS : (fun V => K5 w B (.int .i64 c0.toNat) (.string nm) (.string to) (.int .i64 c1.toNat) (.string tx) V ∧ N2 c0 c1 s3.heap.size V) (s3.alloc (.cells #[.int .u8 (c0.toNat : Int), .int .u8 (c1.toNat : Int)] 5)) := ⟨hX, hN⟩
          clear hX hN
          refine wpAnyH_take (i := 7) (oi := _) (v := ?_) rfl (by kernel_rfl) (by kernel_rfl) (by kernel_rfl) (fun _ _ _ h => h) (Or.inl ⟨by rfl, ?_⟩) (by assumption) ?_
          rotate_left
          next => (rintro w' ⟨⟨k0, k1, k2, k3, k4, kb, kl⟩, hN⟩; have hcv := HCH.out _ _ hN; go_simp; (try with_reducible rfl))
          (try simp only [Act.put, List.setIfInBounds_toArray, List.set_cons_zero, List.set_cons_succ])
          refine wpAnyH_take (i := 11) (oi := _) (v := ?_) rfl (by kernel_rfl) (by kernel_rfl) (by kernel_rfl) (fun _ _ _ h => h) (Or.inl ⟨by rfl, ?_⟩) (by assumption) ?_
          rotate_left
          next => (rintro w' ⟨⟨k0, k1, k2, k3, k4, kb, kl⟩, hN⟩; have hcv := HCH.out _ _ hN; go_simp; (try with_reducible rfl))
          (try simp only [Act.put, List.setIfInBounds_toArray, List.set_cons_zero, List.set_cons_succ])
          refine wpAnyH_take (i := 15) (oi := _) (v := ?_) rfl (by kernel_rfl) (by kernel_rfl) (by kernel_rfl) (fun _ _ _ h => h) (Or.inl ⟨by rfl, ?_⟩) (by assumption) ?_
          rotate_left
          next => (rintro w' ⟨⟨k0, k1, k2, k3, k4, kb, kl⟩, hN⟩; have hcv := HCH.out _ _ hN; go_simp; (try with_reducible rfl))
          (try simp only [Act.put, List.setIfInBounds_toArray, List.set_cons_zero, List.set_cons_succ])
          refine wpAnyH_take (i := 19) (oi := _) (v := ?_) rfl (by kernel_rfl) (by kernel_rfl) (by kernel_rfl) (fun _ _ _ h => h) (Or.inl ⟨by rfl, ?_⟩) (by assumption) ?_
          rotate_left
          next => (rintro w' ⟨⟨k0, k1, k2, k3, k4, kb, kl⟩, hN⟩; have hcv := HCH.out _ _ hN; go_simp; (try with_reducible rfl))
          (try simp only [Act.put, List.setIfInBounds_toArray, List.set_cons_zero, List.set_cons_succ])
          refine wpAnyH_take (i := 20) (oi := _) (v := ?_) rfl (by kernel_rfl) (by kernel_rfl) (by kernel_rfl) (fun _ _ _ h => h) (Or.inl ⟨by rfl, ?_⟩) (by assumption) ?_
          rotate_left
          next => (rintro w' ⟨⟨k0, k1, k2, k3, k4, kb, kl⟩, hN⟩; have hcv := HCH.out _ _ hN; go_simp; (try with_reducible rfl))
          (try simp only [Act.put, List.setIfInBounds_toArray, List.set_cons_zero, List.set_cons_succ])
          refine wpAnyH_take (i := 21) (oi := _) (v := ?_) rfl (by kernel_rfl) (by kernel_rfl) (by kernel_rfl) (fun _ _ _ h => h) (Or.inl ⟨by rfl, ?_⟩) (by assumption) ?_
          rotate_left
          next => (rintro w' ⟨⟨k0, k1, k2, k3, k4, kb, kl⟩, hN⟩; have hcv := HCH.out _ _ hN; go_simp; (try with_reducible rfl))
          (try simp only [Act.put, List.setIfInBounds_toArray, List.set_cons_zero, List.set_cons_succ])
          refine wpAnyH_done (by kernel_rfl) ?_ _
          refine NoPanic.normal ?_
          go_wp2_with fail
          go_ret2
          exact ⟨rfl, hS.1.2.2.2.2.2.1⟩
        exact AllReadyH.nil
      exact AllReadyH.nil
    exact AllReadyH.nil
  exact AllReadyH.nil

end Go.Proofs.Ythccdoejnklidaa
