import Derived.Test.YtenkdpogdfcbgaaGreatLogW2
import Derived.Test.YtenkdpogdfcbgaaGreatUse
import Derived.Deep.RegionHeld3
/- The walks of log.text and log.Encode. -/
namespace Go.Proofs.YtenkdpogdfcbgaaGreat
open Go.RowKit

theorem addr_addL (b j : Nat) : (⟨b, 0, none⟩ : Addr).add j = ⟨b, j, none⟩ := by unfold Addr.add; split <;> simp_all

set_option maxRecDepth 100000 in
set_option maxHeartbeats 1000000 in
theorem text_any (s T : ByteArray) (w : World) (hs : s.size ≤ 255) (hT : T.data.toList = Lg.tx s.data.toList) :
    Calls Tryz.prog 60 #[.string s] w fun e w' => e = .returned (.string T) ∧ Below w.heap.size w w' := by
  have hl : s.data.toList.length = s.size := Array.length_toList ..
  obtain ⟨n, hn⟩ : ∃ n, s.size = n := ⟨_, rfl⟩
  obtain ⟨c, hc⟩ : ∃ x, x = UInt8.ofNat n := ⟨_, rfl⟩
  have hk0 : (n : Int) = (c.toNat : Int) := by rw [hc, UInt8.toNat_ofNat']; omega
  have hres : (⟨[c].toArray⟩ : ByteArray) ++ s = T := by
    apply ByteArray.ext
    apply Array.toList_inj.mp
    rw [hT]
    unfold Lg.tx
    rw [hl, hn, ← hc]
    simp
  obtain ⟨H, hH⟩ : ∃ H : ByteArray, H = ⟨[c].toArray⟩ := ⟨_, rfl⟩
  have hHs : H.size = 1 := by rw [hH]; rfl
  rw [← hH] at hres
  rw [← hres]
  obtain ⟨W, hW⟩ : ∃ W, W = w.alloc (.cells #[.int .u8 (n : Int)] 5) := ⟨_, rfl⟩
  have hB : Below w.heap.size w W := by rw [hW]; exact (Below.refl _ w).alloc (Nat.le_refl _) _
  have hcells : ∀ (j : Nat) (hj : j < [c].length), W.cell? ((⟨w.heap.size, 0, none⟩ : Addr).add j) = some (.int .u8 (([c][j]).toNat : Int)) := by
    intro j hj
    rw [addr_addL, hW, hk0]
    rcases j with _ | j
    · exact cell_new w (k := 0) rfl
    · exact absurd hj (by simp)
  have hcv := run_convert_bytes_back (P := Tryz.prog) W 107 9 5 ⟨w.heap.size, 0, none⟩ 1 [c] Tryz.underlying107 Tryz.underlying5 Tryz.underlying9 hcells
  rw [show [c].length = 1 from rfl, ← hH, hW] at hcv
  have HB := Lib.hid hB
  rw [hW] at HB
  rw [hn] at hs
  clear hcells hB hW hH hc hk0 hl hres hT
  go_enter Tryz.func60, Tryz.ntmps60
  go_wp2_with fail
  go_ret
  exact ⟨rfl, HB.out⟩

theorem wpAnyH_mono {P : Program} {md : Region.Mode} {ops : Array Oper} {Q : Exit → Act → World → Prop} {S S' : World → Prop} (h : ∀ w, S' w → S w) :
    ∀ (fuel : Nat) (listed : Array Bool) (a : Act) (w : World), wpAnyH P md ops Q S' fuel listed a w → wpAnyH P md ops Q S fuel listed a w
  | 0, _, _, _, hw => hw
  | fuel + 1, _, _, _, hw => ⟨hw.1, fun i hi => wpOp_mono (fun a' w' h' => ⟨h _ h'.1, wpAnyH_mono h fuel _ a' w' h'.2⟩) (hw.2 i hi)⟩

/-- A deed's box, and what stands below. -/
abbrev K5 (w : World) (B : Nat) (k nm to a tx : Value) (V : World) : Prop :=
  V.cell? ⟨B, 0, none⟩ = some k ∧ V.cell? ⟨B, 1, none⟩ = some nm ∧ V.cell? ⟨B, 2, none⟩ = some to ∧ V.cell? ⟨B, 3, none⟩ = some a ∧ V.cell? ⟨B, 4, none⟩ = some tx ∧ Below w.heap.size w V ∧ B < V.heap.size

theorem K5.on {w V V' : World} {B : Nat} {k nm to a tx : Value} (h : K5 w B k nm to a tx V) (hb : Below V.heap.size V V') : K5 w B k nm to a tx V' := by
  obtain ⟨c0, c1, c2, c3, c4, hB, hl⟩ := h
  exact ⟨by rw [hb.cell (p := ⟨B, 0, none⟩) hl]; exact c0, by rw [hb.cell (p := ⟨B, 1, none⟩) hl]; exact c1, by rw [hb.cell (p := ⟨B, 2, none⟩) hl]; exact c2, by rw [hb.cell (p := ⟨B, 3, none⟩) hl]; exact c3,
    by rw [hb.cell (p := ⟨B, 4, none⟩) hl]; exact c4, hB.trans (hb.mono hB.size), Nat.lt_of_lt_of_le hl hb.size⟩

theorem K5.drew {w V : World} {B : Nat} {k nm to a tx : Value} (h : K5 w B k nm to a tx V) : K5 w B k nm to a tx V.drew := by
  obtain ⟨c0, c1, c2, c3, c4, hB, hl⟩ := h
  exact ⟨c0, c1, c2, c3, c4, Below.drew hB, hl⟩

theorem K5.alloc {w V : World} {B : Nat} {k nm to a tx : Value} (h : K5 w B k nm to a tx V) (o : Obj) : K5 w B k nm to a tx (V.alloc o) := h.on ((Below.refl _ V).alloc (Nat.le_refl _) o)

theorem k5_new (w : World) (T : TypeId) (k nm to a tx : Value) : K5 w w.heap.size k nm to a tx (w.alloc (.cells #[k, nm, to, a, tx] T)) :=
  ⟨cell_new w (k := 0) rfl, cell_new w (k := 1) rfl, cell_new w (k := 2) rfl, cell_new w (k := 3) rfl, cell_new w (k := 4) rfl, (Below.refl _ w).alloc (Nat.le_refl _) _, by rw [World.size_alloc]; omega⟩

/-- Two bytes that were just laid. -/
def N2 (c0 c1 : UInt8) (B : Nat) (V : World) : Prop := V.cell? ⟨B, 0, none⟩ = some (.int .u8 c0.toNat) ∧ V.cell? ⟨B, 1, none⟩ = some (.int .u8 c1.toNat) ∧ B < V.heap.size

theorem n2_new (c0 c1 : UInt8) (V : World) (T : TypeId) : N2 c0 c1 V.heap.size (V.alloc (.cells #[.int .u8 (c0.toNat : Int), .int .u8 (c1.toNat : Int)] T)) :=
  ⟨cell_new V (k := 0) rfl, cell_new V (k := 1) rfl, by rw [World.size_alloc]; omega⟩

theorem N2.on {c0 c1 : UInt8} {B : Nat} {V V' : World} (h : N2 c0 c1 B V) (hb : Below V.heap.size V V') : N2 c0 c1 B V' :=
  ⟨by rw [hb.cell (p := ⟨B, 0, none⟩) h.2.2]; exact h.1, by rw [hb.cell (p := ⟨B, 1, none⟩) h.2.2]; exact h.2.1, Nat.lt_of_lt_of_le h.2.2 hb.size⟩

theorem N2.drew {c0 c1 : UInt8} {B : Nat} {V : World} (h : N2 c0 c1 B V) : N2 c0 c1 B V.drew := h

theorem n2_conv {c0 c1 : UInt8} {B : Nat} {V : World} (h : N2 c0 c1 B V) : (convert 107 9 (.slice (some ⟨B, 0, none⟩) 2 2)).run Tryz.prog V = .ok (.string ⟨#[c0, c1]⟩) V := by
  have := run_convert_bytes_back (P := Tryz.prog) V 107 9 5 ⟨B, 0, none⟩ 2 [c0, c1] Tryz.underlying107 Tryz.underlying5 Tryz.underlying9 (by
    intro j hj
    rw [addr_addL]
    rcases j with _ | _ | j
    · exact h.1
    · exact h.2.1
    · exact absurd hj (by simp))
  exact this

set_option linter.unusedSimpArgs false in
set_option maxRecDepth 100000 in
set_option maxHeartbeats 4000000 in
theorem Encode_core (c0 c1 : UInt8) (nm to tx T1 T2 T3 : ByteArray) (w : World)
    (C1 : ∀ w, Calls Tryz.prog 54 #[.agg #[.int .i64 c0.toNat, .string nm, .string to, .int .i64 c1.toNat, .string tx]] w fun e w' => e = .returned (.int .i64 0) ∧ Below w.heap.size w w')
    (X1 : ∀ w, Calls Tryz.prog 60 #[.string nm] w fun e w' => e = .returned (.string T1) ∧ Below w.heap.size w w')
    (X2 : ∀ w, Calls Tryz.prog 60 #[.string to] w fun e w' => e = .returned (.string T2) ∧ Below w.heap.size w w')
    (X3 : ∀ w, Calls Tryz.prog 60 #[.string tx] w fun e w' => e = .returned (.string T3) ∧ Below w.heap.size w w')
    (z1 : T1.size ≤ 256) (z2 : T2.size ≤ 256) (z3 : T3.size ≤ 256) :
    Calls Tryz.prog 28 #[.agg #[.int .i64 c0.toNat, .string nm, .string to, .int .i64 c1.toNat, .string tx]] w fun e w' => e = .returned (.tuple #[.string (((⟨#[c0, c1]⟩ : ByteArray) ++ T1) ++ T2 ++ T3), .int .i64 0]) ∧ Below w.heap.size w w' := by
  have HK0 := Lib.hid (k5_new w 29 (.int .i64 c0.toNat) (.string nm) (.string to) (.int .i64 c1.toNat) (.string tx))
  have l0 := c0.toNat_lt
  have l1 := c1.toNat_lt
  have p0 : IntKind.u8.wrap (c0.toNat : Int) = (c0.toNat : Int) := by unfold IntKind.wrap; simp [IntKind.bits, IntKind.signed]; omega
  have p1 : IntKind.u8.wrap (c1.toNat : Int) = (c1.toNat : Int) := by unfold IntKind.wrap; simp [IntKind.bits, IntKind.signed]; omega
  have hcv := fun V => n2_conv (n2_new c0 c1 V 5)
  obtain ⟨H, hH⟩ : ∃ H : ByteArray, H = ⟨#[c0, c1]⟩ := ⟨_, rfl⟩
  have hHs : H.size = 2 := by rw [hH]; rfl
  have HC : ∀ (B : Nat) (V : World), N2 c0 c1 B V → (convert 107 9 (.slice (some ⟨B, 0, none⟩) 2 2)).run Tryz.prog V = .ok (.string H) V := fun B V h => by rw [hH]; exact n2_conv h
  have HCH := Lib.hid HC
  have hcv' : ∀ V : World, (convert 107 9 (.slice (some ⟨V.heap.size, 0, none⟩) 2 2)).run Tryz.prog (V.alloc (.cells #[.int .u8 (c0.toNat : Int), .int .u8 (c1.toNat : Int)] 5)).drew = .ok (.string H) (V.alloc (.cells #[.int .u8 (c0.toNat : Int), .int .u8 (c1.toNat : Int)] 5)).drew := fun V => HC _ _ (n2_new c0 c1 V 5).drew
  rw [← hH] at hcv ⊢
  clear hH HC
  have q1 : ¬ (9223372036854775807 < H.size + T1.size) := by omega
  have q2 : ¬ (9223372036854775807 < H.size + T1.size + T2.size) := by omega
  have q3 : ¬ (9223372036854775807 < H.size + T1.size + T2.size + T3.size) := by omega
  clear hHs z1 z2 z3
  go_enter Tryz.func28, Tryz.ntmps28
  go_wp2_with fail
  with_reducible refine (C1 _).mono ?_
  rintro e w1 ⟨rfl, hb1⟩
  have HK1 := Lib.hid (HK0.out.on hb1)
  clear hb1 HK0 C1
  generalize w.heap.size = B at *
  obtain ⟨k0, k1, k2, k3, k4, kb, kl⟩ := HK1.out
  go_wp2_with fail
  refine wp_region_noPanic ?_
  refine wp_region_held_drew (S := K5 w B (.int .i64 c0.toNat) (.string nm) (.string to) (.int .i64 c1.toNat) (.string tx)) (by kernel_rfl) (K5.drew HK1.out) (fun hS => ?_)
  refine wpAnyH_take (i := 0) (oi := _) (v := ?_) rfl (by kernel_rfl) (by kernel_rfl) (by kernel_rfl) (fun _ _ _ h => h) (Or.inl ⟨by rfl, ?_⟩) (by assumption) ?_
  rotate_left
  next => (rintro w' ⟨k0, k1, k2, k3, k4, kb, kl⟩; go_simp; (try with_reducible rfl))
  (try simp only [Act.put, List.setIfInBounds_toArray, List.set_cons_zero, List.set_cons_succ])
  refine wpAnyH_take (i := 1) (oi := _) (v := ?_) rfl (by kernel_rfl) (by kernel_rfl) (by kernel_rfl) (fun _ _ _ h => h) (Or.inl ⟨by rfl, ?_⟩) (by assumption) ?_
  rotate_left
  next => (rintro w' ⟨k0, k1, k2, k3, k4, kb, kl⟩; go_simp; (try with_reducible rfl))
  (try simp only [Act.put, List.setIfInBounds_toArray, List.set_cons_zero, List.set_cons_succ])
  refine wpAnyH_take (i := 2) (oi := _) (v := ?_) rfl (by kernel_rfl) (by kernel_rfl) (by kernel_rfl) (fun _ _ _ h => h) (Or.inl ⟨by rfl, ?_⟩) (by assumption) ?_
  rotate_left
  next => (rintro w' ⟨k0, k1, k2, k3, k4, kb, kl⟩; go_simp; (try with_reducible rfl))
  (try simp only [Act.put, List.setIfInBounds_toArray, List.set_cons_zero, List.set_cons_succ])
  refine wpAnyH_take (i := 3) (oi := _) (v := ?_) rfl (by kernel_rfl) (by kernel_rfl) (by kernel_rfl) (fun _ _ _ h => h) (Or.inl ⟨by rfl, ?_⟩) (by assumption) ?_
  rotate_left
  next => (rintro w' ⟨k0, k1, k2, k3, k4, kb, kl⟩; go_simp; (try with_reducible rfl))
  (try simp only [Act.put, List.setIfInBounds_toArray, List.set_cons_zero, List.set_cons_succ])
  refine wpAnyH_take (i := 4) (oi := _) (v := ?_) rfl (by kernel_rfl) (by kernel_rfl) (by kernel_rfl) (fun _ _ _ h => h) (Or.inl ⟨by rfl, ?_⟩) (by assumption) ?_
  rotate_left
  next => (rintro w' ⟨k0, k1, k2, k3, k4, kb, kl⟩; go_simp; (try with_reducible rfl))
  (try simp only [Act.put, List.setIfInBounds_toArray, List.set_cons_zero, List.set_cons_succ])
  refine wpAnyH_take (i := 5) (oi := _) (v := ?_) rfl (by kernel_rfl) (by kernel_rfl) (by kernel_rfl) (fun _ _ _ h => h) (Or.inl ⟨by rfl, ?_⟩) (by assumption) ?_
  rotate_left
  next => (rintro w' ⟨k0, k1, k2, k3, k4, kb, kl⟩; go_simp; (try with_reducible rfl))
  (try simp only [Act.put, List.setIfInBounds_toArray, List.set_cons_zero, List.set_cons_succ])
  refine wpAnyH_take (i := 8) (oi := _) (v := ?_) rfl (by kernel_rfl) (by kernel_rfl) (by kernel_rfl) (fun _ _ _ h => h) (Or.inl ⟨by rfl, ?_⟩) (by assumption) ?_
  rotate_left
  next => (rintro w' ⟨k0, k1, k2, k3, k4, kb, kl⟩; go_simp; (try with_reducible rfl))
  (try simp only [Act.put, List.setIfInBounds_toArray, List.set_cons_zero, List.set_cons_succ])
  refine wpAnyH_take (i := 9) (oi := _) (v := ?_) rfl (by kernel_rfl) (by kernel_rfl) (by kernel_rfl) (fun _ _ _ h => h) (Or.inl ⟨by rfl, ?_⟩) (by assumption) ?_
  rotate_left
  next => (rintro w' ⟨k0, k1, k2, k3, k4, kb, kl⟩; go_simp; (try with_reducible rfl))
  (try simp only [Act.put, List.setIfInBounds_toArray, List.set_cons_zero, List.set_cons_succ])
  refine wpAnyH_take (i := 12) (oi := _) (v := ?_) rfl (by kernel_rfl) (by kernel_rfl) (by kernel_rfl) (fun _ _ _ h => h) (Or.inl ⟨by rfl, ?_⟩) (by assumption) ?_
  rotate_left
  next => (rintro w' ⟨k0, k1, k2, k3, k4, kb, kl⟩; go_simp; (try with_reducible rfl))
  (try simp only [Act.put, List.setIfInBounds_toArray, List.set_cons_zero, List.set_cons_succ])
  refine wpAnyH_take (i := 13) (oi := _) (v := ?_) rfl (by kernel_rfl) (by kernel_rfl) (by kernel_rfl) (fun _ _ _ h => h) (Or.inl ⟨by rfl, ?_⟩) (by assumption) ?_
  rotate_left
  next => (rintro w' ⟨k0, k1, k2, k3, k4, kb, kl⟩; go_simp; (try with_reducible rfl))
  (try simp only [Act.put, List.setIfInBounds_toArray, List.set_cons_zero, List.set_cons_succ])
  refine wpAnyH_take (i := 16) (oi := _) (v := ?_) rfl (by kernel_rfl) (by kernel_rfl) (by kernel_rfl) (fun _ _ _ h => h) (Or.inl ⟨by rfl, ?_⟩) (by assumption) ?_
  rotate_left
  next => (rintro w' ⟨k0, k1, k2, k3, k4, kb, kl⟩; go_simp; (try with_reducible rfl))
  (try simp only [Act.put, List.setIfInBounds_toArray, List.set_cons_zero, List.set_cons_succ])
  refine wpAnyH_take (i := 17) (oi := _) (v := ?_) rfl (by kernel_rfl) (by kernel_rfl) (by kernel_rfl) (fun _ _ _ h => h) (Or.inl ⟨by rfl, ?_⟩) (by assumption) ?_
  rotate_left
  next => (rintro w' ⟨k0, k1, k2, k3, k4, kb, kl⟩; go_simp; (try with_reducible rfl))
  (try simp only [Act.put, List.setIfInBounds_toArray, List.set_cons_zero, List.set_cons_succ])
  refine wpAnyH_ready (rs := [6, 10]) (by kernel_rfl) (by simp) ?_
  refine AllReadyH.cons (o := _) rfl (fun K hK => ?_) ?_
  · go_simp
    have hX : K5 w B (.int .i64 c0.toNat) (.string nm) (.string to) (.int .i64 c1.toNat) (.string tx) (w1.alloc (.cells #[.int .u8 (c0.toNat : Int), .int .u8 (c1.toNat : Int)] 5)).drew := K5.drew (K5.alloc HK1.out _)
    have hN : N2 c0 c1 w1.heap.size (w1.alloc (.cells #[.int .u8 (c0.toNat : Int), .int .u8 (c1.toNat : Int)] 5)).drew := (n2_new c0 c1 _ _).drew
    refine hK.out _ _ hX (fun _ => ?_)
    clear hK K hS
    (try simp only [Act.put, List.setIfInBounds_toArray, List.set_cons_zero, List.set_cons_succ])
    refine wpAnyH_mono (S' := fun V => K5 w B (.int .i64 c0.toNat) (.string nm) (.string to) (.int .i64 c1.toNat) (.string tx) V ∧ N2 c0 c1 w1.heap.size V) (fun _ h => h.1) _ _ _ _ ?_
    have hS : (fun V => K5 w B (.int .i64 c0.toNat) (.string nm) (.string to) (.int .i64 c1.toNat) (.string tx) V ∧ N2 c0 c1 w1.heap.size V) (w1.alloc (.cells #[.int .u8 (c0.toNat : Int), .int .u8 (c1.toNat : Int)] 5)).drew := ⟨hX, hN⟩
    clear hX hN
    refine wpAnyH_take (i := 7) (oi := _) (v := ?_) rfl (by kernel_rfl) (by kernel_rfl) (by kernel_rfl) (fun _ _ _ h => h) (Or.inl ⟨by rfl, ?_⟩) (by assumption) ?_
    rotate_left
    next => (rintro w' ⟨⟨k0, k1, k2, k3, k4, kb, kl⟩, hN⟩; have hcv := HCH.out _ _ hN; go_simp; (try with_reducible rfl))
    (try simp only [Act.put, List.setIfInBounds_toArray, List.set_cons_zero, List.set_cons_succ])
    refine wpAnyH_ready (rs := [10]) (by kernel_rfl) (by simp) ?_
    refine AllReadyH.cons (o := _) rfl (fun K hK => ?_) ?_
    · go_simp
      go_at_call 60
      with_reducible refine (X1 _).mono ?_
      rintro e s1 ⟨rfl, hb1⟩
      have hX : (fun V => K5 w B (.int .i64 c0.toNat) (.string nm) (.string to) (.int .i64 c1.toNat) (.string tx) V ∧ N2 c0 c1 w1.heap.size V) s1 := ⟨K5.on hS.1 hb1, hS.2.on hb1⟩
      refine hK.out _ _ hX (fun _ => ?_)
      clear hK K hS hb1
      (try simp only [Act.put, List.setIfInBounds_toArray, List.set_cons_zero, List.set_cons_succ])
      have hS := hX
      clear hX
      refine wpAnyH_take (i := 11) (oi := _) (v := ?_) rfl (by kernel_rfl) (by kernel_rfl) (by kernel_rfl) (fun _ _ _ h => h) (Or.inl ⟨by rfl, ?_⟩) (by assumption) ?_
      rotate_left
      next => (rintro w' ⟨⟨k0, k1, k2, k3, k4, kb, kl⟩, hN⟩; have hcv := HCH.out _ _ hN; go_simp; (try with_reducible rfl))
      (try simp only [Act.put, List.setIfInBounds_toArray, List.set_cons_zero, List.set_cons_succ])
      refine wpAnyH_ready (rs := [14]) (by kernel_rfl) (by simp) ?_
      refine AllReadyH.cons (o := _) rfl (fun K hK => ?_) ?_
      · go_simp
        go_at_call 60
        with_reducible refine (X2 _).mono ?_
        rintro e s2 ⟨rfl, hb2⟩
        have hX : (fun V => K5 w B (.int .i64 c0.toNat) (.string nm) (.string to) (.int .i64 c1.toNat) (.string tx) V ∧ N2 c0 c1 w1.heap.size V) s2 := ⟨K5.on hS.1 hb2, hS.2.on hb2⟩
        refine hK.out _ _ hX (fun _ => ?_)
        clear hK K hS hb2
        (try simp only [Act.put, List.setIfInBounds_toArray, List.set_cons_zero, List.set_cons_succ])
        have hS := hX
        clear hX
        refine wpAnyH_take (i := 15) (oi := _) (v := ?_) rfl (by kernel_rfl) (by kernel_rfl) (by kernel_rfl) (fun _ _ _ h => h) (Or.inl ⟨by rfl, ?_⟩) (by assumption) ?_
        rotate_left
        next => (rintro w' ⟨⟨k0, k1, k2, k3, k4, kb, kl⟩, hN⟩; have hcv := HCH.out _ _ hN; go_simp; (try with_reducible rfl))
        (try simp only [Act.put, List.setIfInBounds_toArray, List.set_cons_zero, List.set_cons_succ])
        refine wpAnyH_ready (rs := [18]) (by kernel_rfl) (by simp) ?_
        refine AllReadyH.cons (o := _) rfl (fun K hK => ?_) ?_
        · go_simp
          go_at_call 60
          with_reducible refine (X3 _).mono ?_
          rintro e s3 ⟨rfl, hb3⟩
          have hX : (fun V => K5 w B (.int .i64 c0.toNat) (.string nm) (.string to) (.int .i64 c1.toNat) (.string tx) V ∧ N2 c0 c1 w1.heap.size V) s3 := ⟨K5.on hS.1 hb3, hS.2.on hb3⟩
          refine hK.out _ _ hX (fun _ => ?_)
          clear hK K hS hb3
          (try simp only [Act.put, List.setIfInBounds_toArray, List.set_cons_zero, List.set_cons_succ])
          have hS := hX
          clear hX
          refine wpAnyH_take (i := 19) (oi := _) (v := ?_) rfl (by kernel_rfl) (by kernel_rfl) (by kernel_rfl) (fun _ _ _ h => h) (Or.inl ⟨by rfl, ?_⟩) (by assumption) ?_
          rotate_left
          next => (rintro w' ⟨⟨k0, k1, k2, k3, k4, kb, kl⟩, hN⟩; have hcv := HCH.out _ _ hN; go_simp; (try with_reducible rfl))
          (try simp only [Act.put, List.setIfInBounds_toArray, List.set_cons_zero, List.set_cons_succ])
          refine wpAnyH_take (i := 20) (oi := _) (v := ?_) rfl (by kernel_rfl) (by kernel_rfl) (by kernel_rfl) (fun _ _ _ h => h) (Or.inl ⟨by rfl, ?_⟩) (by assumption) ?_
          rotate_left
          next => (rintro w' ⟨⟨k0, k1, k2, k3, k4, kb, kl⟩, hN⟩; have hcv := HCH.out _ _ hN; go_simp; (try with_reducible rfl))
          (try simp only [Act.put, List.setIfInBounds_toArray, List.set_cons_zero, List.set_cons_succ])
          refine wpAnyH_take (i := 21) (oi := _) (v := ?_) rfl (by kernel_rfl) (by kernel_rfl) (by kernel_rfl) (fun _ _ _ h => h) (Or.inl ⟨by rfl, ?_⟩) (by assumption) ?_
          rotate_left
          next => (rintro w' ⟨⟨k0, k1, k2, k3, k4, kb, kl⟩, hN⟩; have hcv := HCH.out _ _ hN; go_simp; (try with_reducible rfl))
          (try simp only [Act.put, List.setIfInBounds_toArray, List.set_cons_zero, List.set_cons_succ])
          refine wpAnyH_done (by kernel_rfl) ?_ _
          refine NoPanic.normal ?_
          go_wp2_with fail
          go_ret2
          exact ⟨rfl, hS.1.2.2.2.2.2.1⟩
        exact AllReadyH.nil
      exact AllReadyH.nil
    exact AllReadyH.nil
  refine AllReadyH.cons (o := _) rfl (fun K hK => ?_) ?_
  · go_simp
    go_at_call 60
    with_reducible refine (X1 _).mono ?_
    rintro e s1 ⟨rfl, hb1⟩
    have hX : K5 w B (.int .i64 c0.toNat) (.string nm) (.string to) (.int .i64 c1.toNat) (.string tx) s1 := K5.on hS hb1
    refine hK.out _ _ hX (fun _ => ?_)
    clear hK K hS hb1
    (try simp only [Act.put, List.setIfInBounds_toArray, List.set_cons_zero, List.set_cons_succ])
    have hS := hX
    clear hX
    refine wpAnyH_ready (rs := [6, 14]) (by kernel_rfl) (by simp) ?_
    refine AllReadyH.cons (o := _) rfl (fun K hK => ?_) ?_
    · go_simp
      have hX : K5 w B (.int .i64 c0.toNat) (.string nm) (.string to) (.int .i64 c1.toNat) (.string tx) (s1.alloc (.cells #[.int .u8 (c0.toNat : Int), .int .u8 (c1.toNat : Int)] 5)) := K5.alloc hS _
      have hN : N2 c0 c1 s1.heap.size (s1.alloc (.cells #[.int .u8 (c0.toNat : Int), .int .u8 (c1.toNat : Int)] 5)) := (n2_new c0 c1 _ _)
      refine hK.out _ _ hX (fun _ => ?_)
      clear hK K hS
      (try simp only [Act.put, List.setIfInBounds_toArray, List.set_cons_zero, List.set_cons_succ])
      refine wpAnyH_mono (S' := fun V => K5 w B (.int .i64 c0.toNat) (.string nm) (.string to) (.int .i64 c1.toNat) (.string tx) V ∧ N2 c0 c1 s1.heap.size V) (fun _ h => h.1) _ _ _ _ ?_
      have hS : (fun V => K5 w B (.int .i64 c0.toNat) (.string nm) (.string to) (.int .i64 c1.toNat) (.string tx) V ∧ N2 c0 c1 s1.heap.size V) (s1.alloc (.cells #[.int .u8 (c0.toNat : Int), .int .u8 (c1.toNat : Int)] 5)) := ⟨hX, hN⟩
      clear hX hN
      refine wpAnyH_take (i := 7) (oi := _) (v := ?_) rfl (by kernel_rfl) (by kernel_rfl) (by kernel_rfl) (fun _ _ _ h => h) (Or.inl ⟨by rfl, ?_⟩) (by assumption) ?_
      rotate_left
      next => (rintro w' ⟨⟨k0, k1, k2, k3, k4, kb, kl⟩, hN⟩; have hcv := HCH.out _ _ hN; go_simp; (try with_reducible rfl))
      (try simp only [Act.put, List.setIfInBounds_toArray, List.set_cons_zero, List.set_cons_succ])
      refine wpAnyH_take (i := 11) (oi := _) (v := ?_) rfl (by kernel_rfl) (by kernel_rfl) (by kernel_rfl) (fun _ _ _ h => h) (Or.inl ⟨by rfl, ?_⟩) (by assumption) ?_
      rotate_left
      next => (rintro w' ⟨⟨k0, k1, k2, k3, k4, kb, kl⟩, hN⟩; have hcv := HCH.out _ _ hN; go_simp; (try with_reducible rfl))
      (try simp only [Act.put, List.setIfInBounds_toArray, List.set_cons_zero, List.set_cons_succ])
      refine wpAnyH_ready (rs := [14]) (by kernel_rfl) (by simp) ?_
      refine AllReadyH.cons (o := _) rfl (fun K hK => ?_) ?_
      · go_simp
        go_at_call 60
        with_reducible refine (X2 _).mono ?_
        rintro e s2 ⟨rfl, hb2⟩
        have hX : (fun V => K5 w B (.int .i64 c0.toNat) (.string nm) (.string to) (.int .i64 c1.toNat) (.string tx) V ∧ N2 c0 c1 s1.heap.size V) s2 := ⟨K5.on hS.1 hb2, hS.2.on hb2⟩
        refine hK.out _ _ hX (fun _ => ?_)
        clear hK K hS hb2
        (try simp only [Act.put, List.setIfInBounds_toArray, List.set_cons_zero, List.set_cons_succ])
        have hS := hX
        clear hX
        refine wpAnyH_take (i := 15) (oi := _) (v := ?_) rfl (by kernel_rfl) (by kernel_rfl) (by kernel_rfl) (fun _ _ _ h => h) (Or.inl ⟨by rfl, ?_⟩) (by assumption) ?_
        rotate_left
        next => (rintro w' ⟨⟨k0, k1, k2, k3, k4, kb, kl⟩, hN⟩; have hcv := HCH.out _ _ hN; go_simp; (try with_reducible rfl))
        (try simp only [Act.put, List.setIfInBounds_toArray, List.set_cons_zero, List.set_cons_succ])
        refine wpAnyH_ready (rs := [18]) (by kernel_rfl) (by simp) ?_
        refine AllReadyH.cons (o := _) rfl (fun K hK => ?_) ?_
        · go_simp
          go_at_call 60
          with_reducible refine (X3 _).mono ?_
          rintro e s3 ⟨rfl, hb3⟩
          have hX : (fun V => K5 w B (.int .i64 c0.toNat) (.string nm) (.string to) (.int .i64 c1.toNat) (.string tx) V ∧ N2 c0 c1 s1.heap.size V) s3 := ⟨K5.on hS.1 hb3, hS.2.on hb3⟩
          refine hK.out _ _ hX (fun _ => ?_)
          clear hK K hS hb3
          (try simp only [Act.put, List.setIfInBounds_toArray, List.set_cons_zero, List.set_cons_succ])
          have hS := hX
          clear hX
          refine wpAnyH_take (i := 19) (oi := _) (v := ?_) rfl (by kernel_rfl) (by kernel_rfl) (by kernel_rfl) (fun _ _ _ h => h) (Or.inl ⟨by rfl, ?_⟩) (by assumption) ?_
          rotate_left
          next => (rintro w' ⟨⟨k0, k1, k2, k3, k4, kb, kl⟩, hN⟩; have hcv := HCH.out _ _ hN; go_simp; (try with_reducible rfl))
          (try simp only [Act.put, List.setIfInBounds_toArray, List.set_cons_zero, List.set_cons_succ])
          refine wpAnyH_take (i := 20) (oi := _) (v := ?_) rfl (by kernel_rfl) (by kernel_rfl) (by kernel_rfl) (fun _ _ _ h => h) (Or.inl ⟨by rfl, ?_⟩) (by assumption) ?_
          rotate_left
          next => (rintro w' ⟨⟨k0, k1, k2, k3, k4, kb, kl⟩, hN⟩; have hcv := HCH.out _ _ hN; go_simp; (try with_reducible rfl))
          (try simp only [Act.put, List.setIfInBounds_toArray, List.set_cons_zero, List.set_cons_succ])
          refine wpAnyH_take (i := 21) (oi := _) (v := ?_) rfl (by kernel_rfl) (by kernel_rfl) (by kernel_rfl) (fun _ _ _ h => h) (Or.inl ⟨by rfl, ?_⟩) (by assumption) ?_
          rotate_left
          next => (rintro w' ⟨⟨k0, k1, k2, k3, k4, kb, kl⟩, hN⟩; have hcv := HCH.out _ _ hN; go_simp; (try with_reducible rfl))
          (try simp only [Act.put, List.setIfInBounds_toArray, List.set_cons_zero, List.set_cons_succ])
          refine wpAnyH_done (by kernel_rfl) ?_ _
          refine NoPanic.normal ?_
          go_wp2_with fail
          go_ret2
          exact ⟨rfl, hS.1.2.2.2.2.2.1⟩
        exact AllReadyH.nil
      exact AllReadyH.nil
    refine AllReadyH.cons (o := _) rfl (fun K hK => ?_) ?_
    · go_simp
      go_at_call 60
      with_reducible refine (X2 _).mono ?_
      rintro e s2 ⟨rfl, hb2⟩
      have hX : K5 w B (.int .i64 c0.toNat) (.string nm) (.string to) (.int .i64 c1.toNat) (.string tx) s2 := K5.on hS hb2
      refine hK.out _ _ hX (fun _ => ?_)
      clear hK K hS hb2
      (try simp only [Act.put, List.setIfInBounds_toArray, List.set_cons_zero, List.set_cons_succ])
      have hS := hX
      clear hX
      refine wpAnyH_ready (rs := [6, 18]) (by kernel_rfl) (by simp) ?_
      refine AllReadyH.cons (o := _) rfl (fun K hK => ?_) ?_
      · go_simp
        have hX : K5 w B (.int .i64 c0.toNat) (.string nm) (.string to) (.int .i64 c1.toNat) (.string tx) (s2.alloc (.cells #[.int .u8 (c0.toNat : Int), .int .u8 (c1.toNat : Int)] 5)) := K5.alloc hS _
        have hN : N2 c0 c1 s2.heap.size (s2.alloc (.cells #[.int .u8 (c0.toNat : Int), .int .u8 (c1.toNat : Int)] 5)) := (n2_new c0 c1 _ _)
        refine hK.out _ _ hX (fun _ => ?_)
        clear hK K hS
        (try simp only [Act.put, List.setIfInBounds_toArray, List.set_cons_zero, List.set_cons_succ])
        refine wpAnyH_mono (S' := fun V => K5 w B (.int .i64 c0.toNat) (.string nm) (.string to) (.int .i64 c1.toNat) (.string tx) V ∧ N2 c0 c1 s2.heap.size V) (fun _ h => h.1) _ _ _ _ ?_
        have hS : (fun V => K5 w B (.int .i64 c0.toNat) (.string nm) (.string to) (.int .i64 c1.toNat) (.string tx) V ∧ N2 c0 c1 s2.heap.size V) (s2.alloc (.cells #[.int .u8 (c0.toNat : Int), .int .u8 (c1.toNat : Int)] 5)) := ⟨hX, hN⟩
        clear hX hN
        refine wpAnyH_take (i := 7) (oi := _) (v := ?_) rfl (by kernel_rfl) (by kernel_rfl) (by kernel_rfl) (fun _ _ _ h => h) (Or.inl ⟨by rfl, ?_⟩) (by assumption) ?_
        rotate_left
        next => (rintro w' ⟨⟨k0, k1, k2, k3, k4, kb, kl⟩, hN⟩; have hcv := HCH.out _ _ hN; go_simp; (try with_reducible rfl))
        (try simp only [Act.put, List.setIfInBounds_toArray, List.set_cons_zero, List.set_cons_succ])
        refine wpAnyH_take (i := 11) (oi := _) (v := ?_) rfl (by kernel_rfl) (by kernel_rfl) (by kernel_rfl) (fun _ _ _ h => h) (Or.inl ⟨by rfl, ?_⟩) (by assumption) ?_
        rotate_left
        next => (rintro w' ⟨⟨k0, k1, k2, k3, k4, kb, kl⟩, hN⟩; have hcv := HCH.out _ _ hN; go_simp; (try with_reducible rfl))
        (try simp only [Act.put, List.setIfInBounds_toArray, List.set_cons_zero, List.set_cons_succ])
        refine wpAnyH_take (i := 15) (oi := _) (v := ?_) rfl (by kernel_rfl) (by kernel_rfl) (by kernel_rfl) (fun _ _ _ h => h) (Or.inl ⟨by rfl, ?_⟩) (by assumption) ?_
        rotate_left
        next => (rintro w' ⟨⟨k0, k1, k2, k3, k4, kb, kl⟩, hN⟩; have hcv := HCH.out _ _ hN; go_simp; (try with_reducible rfl))
        (try simp only [Act.put, List.setIfInBounds_toArray, List.set_cons_zero, List.set_cons_succ])
        refine wpAnyH_ready (rs := [18]) (by kernel_rfl) (by simp) ?_
        refine AllReadyH.cons (o := _) rfl (fun K hK => ?_) ?_
        · go_simp
          go_at_call 60
          with_reducible refine (X3 _).mono ?_
          rintro e s3 ⟨rfl, hb3⟩
          have hX : (fun V => K5 w B (.int .i64 c0.toNat) (.string nm) (.string to) (.int .i64 c1.toNat) (.string tx) V ∧ N2 c0 c1 s2.heap.size V) s3 := ⟨K5.on hS.1 hb3, hS.2.on hb3⟩
          refine hK.out _ _ hX (fun _ => ?_)
          clear hK K hS hb3
          (try simp only [Act.put, List.setIfInBounds_toArray, List.set_cons_zero, List.set_cons_succ])
          have hS := hX
          clear hX
          refine wpAnyH_take (i := 19) (oi := _) (v := ?_) rfl (by kernel_rfl) (by kernel_rfl) (by kernel_rfl) (fun _ _ _ h => h) (Or.inl ⟨by rfl, ?_⟩) (by assumption) ?_
          rotate_left
          next => (rintro w' ⟨⟨k0, k1, k2, k3, k4, kb, kl⟩, hN⟩; have hcv := HCH.out _ _ hN; go_simp; (try with_reducible rfl))
          (try simp only [Act.put, List.setIfInBounds_toArray, List.set_cons_zero, List.set_cons_succ])
          refine wpAnyH_take (i := 20) (oi := _) (v := ?_) rfl (by kernel_rfl) (by kernel_rfl) (by kernel_rfl) (fun _ _ _ h => h) (Or.inl ⟨by rfl, ?_⟩) (by assumption) ?_
          rotate_left
          next => (rintro w' ⟨⟨k0, k1, k2, k3, k4, kb, kl⟩, hN⟩; have hcv := HCH.out _ _ hN; go_simp; (try with_reducible rfl))
          (try simp only [Act.put, List.setIfInBounds_toArray, List.set_cons_zero, List.set_cons_succ])
          refine wpAnyH_take (i := 21) (oi := _) (v := ?_) rfl (by kernel_rfl) (by kernel_rfl) (by kernel_rfl) (fun _ _ _ h => h) (Or.inl ⟨by rfl, ?_⟩) (by assumption) ?_
          rotate_left
          next => (rintro w' ⟨⟨k0, k1, k2, k3, k4, kb, kl⟩, hN⟩; have hcv := HCH.out _ _ hN; go_simp; (try with_reducible rfl))
          (try simp only [Act.put, List.setIfInBounds_toArray, List.set_cons_zero, List.set_cons_succ])
          refine wpAnyH_done (by kernel_rfl) ?_ _
          refine NoPanic.normal ?_
          go_wp2_with fail
          go_ret2
          exact ⟨rfl, hS.1.2.2.2.2.2.1⟩
        exact AllReadyH.nil
      refine AllReadyH.cons (o := _) rfl (fun K hK => ?_) ?_
      · go_simp
        go_at_call 60
        with_reducible refine (X3 _).mono ?_
        rintro e s3 ⟨rfl, hb3⟩
        have hX : K5 w B (.int .i64 c0.toNat) (.string nm) (.string to) (.int .i64 c1.toNat) (.string tx) s3 := K5.on hS hb3
        refine hK.out _ _ hX (fun _ => ?_)
        clear hK K hS hb3
        (try simp only [Act.put, List.setIfInBounds_toArray, List.set_cons_zero, List.set_cons_succ])
        have hS := hX
        clear hX
        refine wpAnyH_ready (rs := [6]) (by kernel_rfl) (by simp) ?_
        refine AllReadyH.cons (o := _) rfl (fun K hK => ?_) ?_
        · go_simp
          have hX : K5 w B (.int .i64 c0.toNat) (.string nm) (.string to) (.int .i64 c1.toNat) (.string tx) (s3.alloc (.cells #[.int .u8 (c0.toNat : Int), .int .u8 (c1.toNat : Int)] 5)) := K5.alloc hS _
          have hN : N2 c0 c1 s3.heap.size (s3.alloc (.cells #[.int .u8 (c0.toNat : Int), .int .u8 (c1.toNat : Int)] 5)) := (n2_new c0 c1 _ _)
          refine hK.out _ _ hX (fun _ => ?_)
          clear hK K hS
          (try simp only [Act.put, List.setIfInBounds_toArray, List.set_cons_zero, List.set_cons_succ])
          refine wpAnyH_mono (S' := fun V => K5 w B (.int .i64 c0.toNat) (.string nm) (.string to) (.int .i64 c1.toNat) (.string tx) V ∧ N2 c0 c1 s3.heap.size V) (fun _ h => h.1) _ _ _ _ ?_
          have hS : (fun V => K5 w B (.int .i64 c0.toNat) (.string nm) (.string to) (.int .i64 c1.toNat) (.string tx) V ∧ N2 c0 c1 s3.heap.size V) (s3.alloc (.cells #[.int .u8 (c0.toNat : Int), .int .u8 (c1.toNat : Int)] 5)) := ⟨hX, hN⟩
          clear hX hN
          refine wpAnyH_take (i := 7) (oi := _) (v := ?_) rfl (by kernel_rfl) (by kernel_rfl) (by kernel_rfl) (fun _ _ _ h => h) (Or.inl ⟨by rfl, ?_⟩) (by assumption) ?_
          rotate_left
          next => (rintro w' ⟨⟨k0, k1, k2, k3, k4, kb, kl⟩, hN⟩; have hcv := HCH.out _ _ hN; go_simp; (try with_reducible rfl))
          (try simp only [Act.put, List.setIfInBounds_toArray, List.set_cons_zero, List.set_cons_succ])
          refine wpAnyH_take (i := 11) (oi := _) (v := ?_) rfl (by kernel_rfl) (by kernel_rfl) (by kernel_rfl) (fun _ _ _ h => h) (Or.inl ⟨by rfl, ?_⟩) (by assumption) ?_
          rotate_left
          next => (rintro w' ⟨⟨k0, k1, k2, k3, k4, kb, kl⟩, hN⟩; have hcv := HCH.out _ _ hN; go_simp; (try with_reducible rfl))
          (try simp only [Act.put, List.setIfInBounds_toArray, List.set_cons_zero, List.set_cons_succ])
          refine wpAnyH_take (i := 15) (oi := _) (v := ?_) rfl (by kernel_rfl) (by kernel_rfl) (by kernel_rfl) (fun _ _ _ h => h) (Or.inl ⟨by rfl, ?_⟩) (by assumption) ?_
          rotate_left
          next => (rintro w' ⟨⟨k0, k1, k2, k3, k4, kb, kl⟩, hN⟩; have hcv := HCH.out _ _ hN; go_simp; (try with_reducible rfl))
          (try simp only [Act.put, List.setIfInBounds_toArray, List.set_cons_zero, List.set_cons_succ])
          refine wpAnyH_take (i := 19) (oi := _) (v := ?_) rfl (by kernel_rfl) (by kernel_rfl) (by kernel_rfl) (fun _ _ _ h => h) (Or.inl ⟨by rfl, ?_⟩) (by assumption) ?_
          rotate_left
          next => (rintro w' ⟨⟨k0, k1, k2, k3, k4, kb, kl⟩, hN⟩; have hcv := HCH.out _ _ hN; go_simp; (try with_reducible rfl))
          (try simp only [Act.put, List.setIfInBounds_toArray, List.set_cons_zero, List.set_cons_succ])
          refine wpAnyH_take (i := 20) (oi := _) (v := ?_) rfl (by kernel_rfl) (by kernel_rfl) (by kernel_rfl) (fun _ _ _ h => h) (Or.inl ⟨by rfl, ?_⟩) (by assumption) ?_
          rotate_left
          next => (rintro w' ⟨⟨k0, k1, k2, k3, k4, kb, kl⟩, hN⟩; have hcv := HCH.out _ _ hN; go_simp; (try with_reducible rfl))
          (try simp only [Act.put, List.setIfInBounds_toArray, List.set_cons_zero, List.set_cons_succ])
          refine wpAnyH_take (i := 21) (oi := _) (v := ?_) rfl (by kernel_rfl) (by kernel_rfl) (by kernel_rfl) (fun _ _ _ h => h) (Or.inl ⟨by rfl, ?_⟩) (by assumption) ?_
          rotate_left
          next => (rintro w' ⟨⟨k0, k1, k2, k3, k4, kb, kl⟩, hN⟩; have hcv := HCH.out _ _ hN; go_simp; (try with_reducible rfl))
          (try simp only [Act.put, List.setIfInBounds_toArray, List.set_cons_zero, List.set_cons_succ])
          refine wpAnyH_done (by kernel_rfl) ?_ _
          refine NoPanic.normal ?_
          go_wp2_with fail
          go_ret2
          exact ⟨rfl, hS.1.2.2.2.2.2.1⟩
        exact AllReadyH.nil
      exact AllReadyH.nil
    exact AllReadyH.nil
  exact AllReadyH.nil

end Go.Proofs.YtenkdpogdfcbgaaGreat

/- The walks of log.take and log.Decode; Encode in the form that the laws take. -/
namespace Go.Proofs.YtenkdpogdfcbgaaGreat
open Go.RowKit

theorem results_cell_tmp1 {fn : Func} {p u : Tmp} {ty : TypeId} (h : fn.results = #[.cell p ty, .tmp u]) (tmps : Array Value) (P : Program) (w : World) :
    (results fn tmps).run P w =
      ((asAddr (tmps.getD p undef)).run P w).andThen fun a w₁ => ((loadVar ty a).run P w₁).andThen fun x w₂ => .ok (.tuple #[x, tmps.getD u undef]) w₂ := by
  simp only [results, h]
  simp [Sem.run_bind, Result.andThen]

/-- The rest of a text, as a rewrite rule. -/
theorem sl_fromL {P : Program} {t : TypeId} (hu : P.underlying t = some .string) {s : ByteArray} {x : Int} {a : Nat} (hx : x = a) (hb : a ≤ s.size) :
    ∀ w, (Instr.slice t (.string s) (some (.int .i64 x)) none none).run P w = .ok (.string (s.extract a s.size)) w := by
  intro w
  subst hx
  have := run_slice_string_l (w := w) (t := t) (s := s) hu .i64 (a : Int) (by omega) (by omega)
  simpa using this

set_option maxRecDepth 100000 in
set_option maxHeartbeats 2000000 in
/-- A text with its length ahead is taken. -/
theorem take_core (s A B : ByteArray) (n : Nat) (w : World) (hs : s.size ≤ 100000) (hn : n < 256) (hs1 : n + 1 ≤ s.size) (h0 : bt s.data.toList 0 = n) (hA : s.extract 1 (n + 1) = A) (hB : s.extract (n + 1) s.size = B) :
    Calls Tryz.prog 74 #[.string s] w fun e w' => e = .returned (.tuple #[.string A, .string B, .bool true]) ∧ Below w.heap.size w w' := by
  have he : s.toList.isEmpty = false := by
    cases h : s.toList.isEmpty with
    | false => rfl
    | true => have := empty_size h; omega
  have ix := idx_str Tryz.underlying9 (s := s) (x := 0) (k := 0) rfl (by omega)
  rw [h0] at ix
  have z1 := sl_str Tryz.underlying9 (s := s) (x := 1) (y := (1 : Int) + n) (a := 1) (b := n + 1) rfl (by omega) (by omega) (by omega)
  have z2 := sl_fromL Tryz.underlying9 (s := s) (x := (1 : Int) + n) (a := n + 1) (by omega) (by omega)
  rw [hA] at z1; rw [hB] at z2
  have p0 : IntKind.i64.wrap (n : Int) = (n : Int) := IntWalk.i64_in _ (by omega)
  have p1 : IntKind.i64.wrap ((1 : Int) + n) = (1 : Int) + n := IntWalk.i64_in _ (by omega)
  have HB := Lib.hid (Below.refl w.heap.size w)
  clear hA hB h0
  go_enter Tryz.func74, Tryz.ntmps74
  go_wp2_with fail
  go_quiet (fail)
  go_wp2_with fail
  go_ret3
  exact ⟨rfl, below_drewN HB.out _⟩

theorem take_ok (s A B : ByteArray) (w : World) (hA : A.size < 256) (hs : s.size ≤ 100000) (h : s.data.toList = Lg.tx A.data.toList ++ B.data.toList) :
    Calls Tryz.prog 74 #[.string s] w fun e w' => e = .returned (.tuple #[.string A, .string B, .bool true]) ∧ Below w.heap.size w w' := by
  have hl : A.data.toList.length = A.size := Array.length_toList ..
  have hlB : B.data.toList.length = B.size := Array.length_toList ..
  have hls : s.data.toList.length = s.size := Array.length_toList ..
  have hss : s.size = A.size + 1 + B.size := by rw [← hls, h, List.length_append, Lg.tx, List.length_cons]; omega
  refine take_core s A B A.size w hs hA (by omega) ?_ ?_ ?_
  · rw [h]
    show (((UInt8.ofNat A.data.toList.length :: A.data.toList) ++ B.data.toList).getD 0 0).toNat = ((A.size : Nat) : Int)
    rw [hl]
    show (((UInt8.ofNat A.size).toNat : Nat) : Int) = _
    rw [UInt8.toNat_ofNat']
    omega
  · apply ByteArray.ext
    apply Array.toList_inj.mp
    rw [Lib.extract_data, h]
    show (List.drop 1 (UInt8.ofNat A.data.toList.length :: (A.data.toList ++ B.data.toList))).take _ = _
    rw [List.drop_succ_cons, List.drop_zero, Nat.add_sub_cancel, ← hl, List.take_left]
  · apply ByteArray.ext
    apply Array.toList_inj.mp
    rw [Lib.extract_data, h]
    show (List.drop (A.size + 1) (UInt8.ofNat A.data.toList.length :: (A.data.toList ++ B.data.toList))).take _ = _
    rw [List.drop_succ_cons, ← hl, List.drop_left, List.take_of_length_le (by omega)]

/-- What Encode answers. -/
theorem Encode_bad (k : Int) (nm to : ByteArray) (a : Int) (tx : ByteArray) (w : World) (hn : nm.size ≤ maxLen) (ht : to.size ≤ maxLen) (hx : tx.size ≤ maxLen) (r : Nat)
    (hr : Lg.chk k (Lg.nmB nm.data.toList) (Lg.nmB to.data.toList) a tx.size to.toList.isEmpty tx.toList.isEmpty = r) (h0 : r ≠ 0) :
    Calls Tryz.prog 28 #[.agg #[.int .i64 k, .string nm, .string to, .int .i64 a, .string tx]] w fun e w' => e = .returned (.tuple #[.string ⟨#[]⟩, .int .i64 r]) ∧ Below w.heap.size w w' := by
  have C1 : ∀ w, Calls Tryz.prog 54 #[.agg #[.int .i64 k, .string nm, .string to, .int .i64 a, .string tx]] w fun e w' => e = .returned (.int .i64 r) ∧ Below w.heap.size w w' := fun w => by
    have := Check_any k nm to a tx w hn ht hx
    rwa [hr] at this
  have hb : ((r : Int) != 0) = true := bne_iff_ne.2 (by omega)
  have HK0 := Lib.hid (k5_new w 29 (.int .i64 k) (.string nm) (.string to) (.int .i64 a) (.string tx))
  clear hn ht hx hr h0
  go_enter Tryz.func28, Tryz.ntmps28
  go_wp2_with fail
  with_reducible refine (C1 _).mono ?_
  rintro e w1 ⟨rfl, hb1⟩
  have HK1 := Lib.hid (HK0.out.on hb1)
  clear hb1 HK0 C1
  go_wp2_with fail
  go_ret2
  exact ⟨rfl, HK1.out.2.2.2.2.2.1⟩

theorem Encode_ok (k a : Nat) (nm to tx S : ByteArray) (w : World)
    (hr : Lg.chk k (Lg.nmB nm.data.toList) (Lg.nmB to.data.toList) a tx.size to.toList.isEmpty tx.toList.isEmpty = 0) (hn : nm.size ≤ 12) (ht : to.size ≤ 12) (hx : tx.size ≤ 64) (hk : k ≤ 5) (ha : a ≤ 32)
    (hS : S.data.toList = Lg.enc k a nm.data.toList to.data.toList tx.data.toList) :
    Calls Tryz.prog 28 #[.agg #[.int .i64 k, .string nm, .string to, .int .i64 a, .string tx]] w fun e w' => e = .returned (.tuple #[.string S, .int .i64 0]) ∧ Below w.heap.size w w' := by
  have mk : ∀ s : ByteArray, ∃ T : ByteArray, T.data.toList = Lg.tx s.data.toList := fun s => ⟨⟨(Lg.tx s.data.toList).toArray⟩, by simp⟩
  obtain ⟨T1, h1⟩ := mk nm
  obtain ⟨T2, h2⟩ := mk to
  obtain ⟨T3, h3⟩ := mk tx
  have sz : ∀ {s T : ByteArray}, T.data.toList = Lg.tx s.data.toList → T.size = s.size + 1 := fun {s T} h => by
    have a1 : T.data.toList.length = T.size := Array.length_toList ..
    have a2 : s.data.toList.length = s.size := Array.length_toList ..
    rw [← a1, h, Lg.tx, List.length_cons, a2]
  have s1 := sz h1
  have s2 := sz h2
  have s3 := sz h3
  obtain ⟨c0, hc0⟩ : ∃ c, UInt8.ofNat k = c := ⟨_, rfl⟩
  obtain ⟨c1, hc1⟩ : ∃ c, UInt8.ofNat a = c := ⟨_, rfl⟩
  have e0 : k = c0.toNat := by rw [← hc0, UInt8.toNat_ofNat']; omega
  have e1 : a = c1.toNat := by rw [← hc1, UInt8.toNat_ofNat']; omega
  have hres : ((⟨#[c0, c1]⟩ : ByteArray) ++ T1) ++ T2 ++ T3 = S := by
    apply ByteArray.ext
    apply Array.toList_inj.mp
    rw [hS, Lg.enc, ← h1, ← h2, ← h3, hc0, hc1]
    simp
  subst e0 e1
  have := Encode_core c0 c1 nm to tx T1 T2 T3 w (fun w => by
    have := Check_any c0.toNat nm to c1.toNat tx w (by unfold maxLen; omega) (by unfold maxLen; omega) (by unfold maxLen; omega)
    rwa [hr] at this) (fun w => text_any nm T1 w (by omega) h1) (fun w => text_any to T2 w (by omega) h2) (fun w => text_any tx T3 w (by omega) h3) (by omega) (by omega) (by omega)
  rwa [hres] at this

end Go.Proofs.YtenkdpogdfcbgaaGreat

/- The walk of log.Decode at what Encode wrote. -/
namespace Go.Proofs.YtenkdpogdfcbgaaGreat
open Go.RowKit

/-- What take leaves. -/
abbrev TakeAns (s A B : ByteArray) : Prop := ∀ w, Calls Tryz.prog 74 #[.string s] w fun e w' => e = .returned (.tuple #[.string A, .string B, .bool true]) ∧ Below w.heap.size w w'

/-- The result that lies in cells. -/
theorem dec_result {tmps : Array Value} {W : World} {B : Nat} {k a : Int} {nm to tx : ByteArray} {v : Value} (h2 : tmps.getD 2 undef = .pointer (some ⟨B, 0, none⟩)) (h3 : tmps.getD 3 undef = v)
    (h : Bxs W B [.int .i64 k, .string nm, .string to, .int .i64 a, .string tx]) :
    (results Tryz.f48 tmps).run Tryz.prog W = .ok (.tuple #[.agg #[.int .i64 k, .string nm, .string to, .int .i64 a, .string tx], v]) W := by
  have c0 := h.c 0 _ rfl; have c1 := h.c 1 _ rfl; have c2 := h.c 2 _ rfl; have c3 := h.c 3 _ rfl; have c4 := h.c 4 _ rfl
  rw [results_cell_tmp1 rfl, h2, h3]
  go_simp

set_option maxRecDepth 100000 in
set_option maxHeartbeats 4000000 in
theorem Decode_core (c0 c1 : UInt8) (nm to tx s R0 R1 R2 R3 : ByteArray) (w : World) (hs : 2 ≤ s.size) (hs1 : s.size ≤ 100000) (h0 : bt s.data.toList 0 = c0.toNat) (h1 : bt s.data.toList 1 = c1.toNat) (hR0 : s.extract 2 s.size = R0)
    (t1 : TakeAns R0 nm R1) (t2 : TakeAns R1 to R2) (t3 : TakeAns R2 tx R3) (he : R3.toList.isEmpty = true)
    (C1 : ∀ w, Calls Tryz.prog 54 #[.agg #[.int .i64 c0.toNat, .string nm, .string to, .int .i64 c1.toNat, .string tx]] w fun e w' => e = .returned (.int .i64 0) ∧ Below w.heap.size w w') :
    Calls Tryz.prog 48 #[.string s] w fun e w' => e = .returned (.tuple #[.agg #[.int .i64 c0.toNat, .string nm, .string to, .int .i64 c1.toNat, .string tx], .int .i64 0]) ∧ Below w.heap.size w w' := by
  have i0 := idx_str Tryz.underlying9 (s := s) (x := 0) (k := 0) rfl (by omega)
  have i1 := idx_str Tryz.underlying9 (s := s) (x := 1) (k := 1) rfl (by omega)
  rw [h0] at i0; rw [h1] at i1
  have z2 := sl_fromL Tryz.underlying9 (s := s) (x := 2) (a := 2) rfl (by omega)
  rw [hR0] at z2
  have l0 := c0.toNat_lt
  have l1 := c1.toNat_lt
  have p0 : IntKind.i64.wrap (c0.toNat : Int) = (c0.toNat : Int) := IntWalk.i64_in _ (by omega)
  have p1 : IntKind.i64.wrap (c1.toNat : Int) = (c1.toNat : Int) := IntWalk.i64_in _ (by omega)
  have T1 := Lib.hid t1; have T2 := Lib.hid t2; have T3 := Lib.hid t3; have HC := Lib.hid C1; have HE := Lib.hid he
  clear h0 h1 hR0 t1 t2 t3 C1 he
  have s1 : (w.alloc (.cells #[.int .i64 0, .string ⟨#[]⟩, .string ⟨#[]⟩, .int .i64 0, .string ⟨#[]⟩] 29)).heap.size = w.heap.size + 1 := World.size_alloc ..
  have s2 : ((w.alloc (.cells #[.int .i64 0, .string ⟨#[]⟩, .string ⟨#[]⟩, .int .i64 0, .string ⟨#[]⟩] 29)).alloc (.cells #[.int .i64 (c0.toNat : Int), .string ⟨#[]⟩, .string ⟨#[]⟩, .int .i64 (c1.toNat : Int), .string ⟨#[]⟩] 29)).heap.size = w.heap.size + 1 + 1 := by rw [World.size_alloc, s1]
  have X0 : Bxs ((((w.alloc (.cells #[.int .i64 0, .string ⟨#[]⟩, .string ⟨#[]⟩, .int .i64 0, .string ⟨#[]⟩] 29)).alloc (.cells #[.int .i64 (c0.toNat : Int), .string ⟨#[]⟩, .string ⟨#[]⟩, .int .i64 (c1.toNat : Int), .string ⟨#[]⟩] 29)).alloc (.cells #[.pointer (some ⟨w.heap.size + 1, 1, none⟩), .pointer (some ⟨w.heap.size + 1, 2, none⟩), .pointer (some ⟨w.heap.size + 1, 4, none⟩)] 121)).drew) w.heap.size [.int .i64 0, .string ⟨#[]⟩, .string ⟨#[]⟩, .int .i64 0, .string ⟨#[]⟩] := (((bxs_new w 29 _ _ rfl).alloc _).alloc _).drew
  have X1 : Bxs ((((w.alloc (.cells #[.int .i64 0, .string ⟨#[]⟩, .string ⟨#[]⟩, .int .i64 0, .string ⟨#[]⟩] 29)).alloc (.cells #[.int .i64 (c0.toNat : Int), .string ⟨#[]⟩, .string ⟨#[]⟩, .int .i64 (c1.toNat : Int), .string ⟨#[]⟩] 29)).alloc (.cells #[.pointer (some ⟨w.heap.size + 1, 1, none⟩), .pointer (some ⟨w.heap.size + 1, 2, none⟩), .pointer (some ⟨w.heap.size + 1, 4, none⟩)] 121)).drew) (w.heap.size + 1) [.int .i64 c0.toNat, .string ⟨#[]⟩, .string ⟨#[]⟩, .int .i64 c1.toNat, .string ⟨#[]⟩] := by
    have := ((bxs_new (w.alloc (.cells #[.int .i64 0, .string ⟨#[]⟩, .string ⟨#[]⟩, .int .i64 0, .string ⟨#[]⟩] 29)) 29 #[.int .i64 (c0.toNat : Int), .string ⟨#[]⟩, .string ⟨#[]⟩, .int .i64 (c1.toNat : Int), .string ⟨#[]⟩] _ rfl).alloc (.cells #[.pointer (some ⟨w.heap.size + 1, 1, none⟩), .pointer (some ⟨w.heap.size + 1, 2, none⟩), .pointer (some ⟨w.heap.size + 1, 4, none⟩)] 121)).drew
    rw [s1] at this
    exact this
  have X2 : Bxs ((((w.alloc (.cells #[.int .i64 0, .string ⟨#[]⟩, .string ⟨#[]⟩, .int .i64 0, .string ⟨#[]⟩] 29)).alloc (.cells #[.int .i64 (c0.toNat : Int), .string ⟨#[]⟩, .string ⟨#[]⟩, .int .i64 (c1.toNat : Int), .string ⟨#[]⟩] 29)).alloc (.cells #[.pointer (some ⟨w.heap.size + 1, 1, none⟩), .pointer (some ⟨w.heap.size + 1, 2, none⟩), .pointer (some ⟨w.heap.size + 1, 4, none⟩)] 121)).drew) (w.heap.size + 1 + 1) [.pointer (some ⟨w.heap.size + 1, 1, none⟩), .pointer (some ⟨w.heap.size + 1, 2, none⟩), .pointer (some ⟨w.heap.size + 1, 4, none⟩)] := by
    have := (bxs_new ((w.alloc (.cells #[.int .i64 0, .string ⟨#[]⟩, .string ⟨#[]⟩, .int .i64 0, .string ⟨#[]⟩] 29)).alloc (.cells #[.int .i64 (c0.toNat : Int), .string ⟨#[]⟩, .string ⟨#[]⟩, .int .i64 (c1.toNat : Int), .string ⟨#[]⟩] 29)) 121 #[.pointer (some ⟨w.heap.size + 1, 1, none⟩), .pointer (some ⟨w.heap.size + 1, 2, none⟩), .pointer (some ⟨w.heap.size + 1, 4, none⟩)] _ rfl).drew
    rw [s2] at this
    exact this
  have XB : Below w.heap.size w ((((w.alloc (.cells #[.int .i64 0, .string ⟨#[]⟩, .string ⟨#[]⟩, .int .i64 0, .string ⟨#[]⟩] 29)).alloc (.cells #[.int .i64 (c0.toNat : Int), .string ⟨#[]⟩, .string ⟨#[]⟩, .int .i64 (c1.toNat : Int), .string ⟨#[]⟩] 29)).alloc (.cells #[.pointer (some ⟨w.heap.size + 1, 1, none⟩), .pointer (some ⟨w.heap.size + 1, 2, none⟩), .pointer (some ⟨w.heap.size + 1, 4, none⟩)] 121)).drew) := ((((Below.refl _ w).alloc (Nat.le_refl _) _).alloc (by rw [s1]; omega) _).alloc (by rw [s2]; omega) _).drew
  have H0 := Lib.hid X0; have H1 := Lib.hid X1; have H2 := Lib.hid X2; have HB := Lib.hid XB
  clear s1 s2 X0 X1 X2 XB
  go_enter Tryz.func48, Tryz.ntmps48
  go_wp2_with fail
  go_region
  go_wp2_with fail
  go_loopw [0, 26] (fun sv iv wr => ∃ (x1 x2 x3 : ByteArray), Hid (Bxs wr (w.heap.size + 1) [.int .i64 c0.toNat, .string x1, .string x2, .int .i64 c1.toNat, .string x3]) ∧ Hid (Bxs wr w.heap.size [.int .i64 0, .string ⟨#[]⟩, .string ⟨#[]⟩, .int .i64 0, .string ⟨#[]⟩]) ∧ Hid (Bxs wr (w.heap.size + 1 + 1) [.pointer (some ⟨w.heap.size + 1, 1, none⟩), .pointer (some ⟨w.heap.size + 1, 2, none⟩), .pointer (some ⟨w.heap.size + 1, 4, none⟩)]) ∧ Hid (Below w.heap.size w wr) ∧ ((iv = .int .i64 0 ∧ sv = .string R0 ∧ x1 = ⟨#[]⟩ ∧ x2 = ⟨#[]⟩ ∧ x3 = ⟨#[]⟩) ∨ (iv = .int .i64 1 ∧ sv = .string R1 ∧ x1 = nm ∧ x2 = ⟨#[]⟩ ∧ x3 = ⟨#[]⟩) ∨ (iv = .int .i64 2 ∧ sv = .string R2 ∧ x1 = nm ∧ x2 = to ∧ x3 = ⟨#[]⟩) ∨ (iv = .int .i64 3 ∧ sv = .string R3 ∧ x1 = nm ∧ x2 = to ∧ x3 = tx))) (fun _ iv _ => 3 - (intOf iv).toNat)
  case atStart => exact ⟨_, _, _, H1, H0, H2, HB, Or.inl ⟨rfl, rfl, rfl, rfl, rfl⟩⟩
  case round =>
    clear H0 H1 H2 HB
    obtain ⟨x1, x2, x3, H1, H0, H2, HB, h⟩ := hrel
    rcases h with ⟨rfl, rfl, rfl, rfl, rfl⟩ | ⟨rfl, rfl, rfl, rfl, rfl⟩ | ⟨rfl, rfl, rfl, rfl, rfl⟩ | ⟨rfl, rfl, rfl, rfl, rfl⟩
    · have P0 := H2.out.c 0 _ rfl
      go_wp2_with fail
      with_reducible refine (T1.out _).mono ?_
      rintro e w1 ⟨rfl, hb1⟩
      have G0 := Lib.hid (H0.out.on hb1); have G1 := Lib.hid (H1.out.on hb1); have G2 := Lib.hid (H2.out.on hb1); have GB := Lib.hid (HB.out.trans (hb1.mono HB.out.size))
      have C0 := G1.out.c 1 _ rfl
      have Z0 := G1.out.z 1 (by decide : 1 < 5)
      clear hb1 P0 H0 H1 H2 HB
      go_wp2_with fail
      go_roundw
      case rel => exact ⟨_, _, _, Lib.hid (G1.out.set 1 (by decide : 1 < 5) _ rfl), Lib.hid (G0.out.other (by omega) _), Lib.hid (G2.out.other (by omega) _), Lib.hid (GB.out.setCell (by show _ ≤ _ + 1; omega) _), Or.inr (Or.inl ⟨rfl, rfl, rfl, rfl, rfl⟩)⟩
      case measure => simp [intOf]
    · have P0 := H2.out.c 1 _ rfl
      go_wp2_with fail
      with_reducible refine (T2.out _).mono ?_
      rintro e w1 ⟨rfl, hb1⟩
      have G0 := Lib.hid (H0.out.on hb1); have G1 := Lib.hid (H1.out.on hb1); have G2 := Lib.hid (H2.out.on hb1); have GB := Lib.hid (HB.out.trans (hb1.mono HB.out.size))
      have C0 := G1.out.c 2 _ rfl
      have Z0 := G1.out.z 2 (by decide : 2 < 5)
      clear hb1 P0 H0 H1 H2 HB
      go_wp2_with fail
      go_roundw
      case rel => exact ⟨_, _, _, Lib.hid (G1.out.set 2 (by decide : 2 < 5) _ rfl), Lib.hid (G0.out.other (by omega) _), Lib.hid (G2.out.other (by omega) _), Lib.hid (GB.out.setCell (by show _ ≤ _ + 1; omega) _), Or.inr (Or.inr (Or.inl ⟨rfl, rfl, rfl, rfl, rfl⟩))⟩
      case measure => simp [intOf]
    · have P0 := H2.out.c 2 _ rfl
      go_wp2_with fail
      with_reducible refine (T3.out _).mono ?_
      rintro e w1 ⟨rfl, hb1⟩
      have G0 := Lib.hid (H0.out.on hb1); have G1 := Lib.hid (H1.out.on hb1); have G2 := Lib.hid (H2.out.on hb1); have GB := Lib.hid (HB.out.trans (hb1.mono HB.out.size))
      have C0 := G1.out.c 4 _ rfl
      have Z0 := G1.out.z 4 (by decide : 4 < 5)
      clear hb1 P0 H0 H1 H2 HB
      go_wp2_with fail
      go_roundw
      case rel => exact ⟨_, _, _, Lib.hid (G1.out.set 4 (by decide : 4 < 5) _ rfl), Lib.hid (G0.out.other (by omega) _), Lib.hid (G2.out.other (by omega) _), Lib.hid (GB.out.setCell (by show _ ≤ _ + 1; omega) _), Or.inr (Or.inr (Or.inr ⟨rfl, rfl, rfl, rfl, rfl⟩))⟩
      case measure => simp [intOf]
    · have k0 := H1.out.c 0 _ rfl; have k1 := H1.out.c 1 _ rfl; have k2 := H1.out.c 2 _ rfl; have k3 := H1.out.c 3 _ rfl; have k4 := H1.out.c 4 _ rfl
      have he := HE.out
      go_wp2_with fail
      with_reducible refine (HC.out _).mono ?_
      rintro e w1 ⟨rfl, hb1⟩
      have G0 := Lib.hid (H0.out.on hb1); have G1 := Lib.hid (H1.out.on hb1); have GB := Lib.hid (HB.out.trans (hb1.mono HB.out.size))
      clear hb1 k0 k1 k2 k3 k4 H0 H1 H2 HB
      have k0 := G1.out.c 0 _ rfl; have k1 := G1.out.c 1 _ rfl; have k2 := G1.out.c 2 _ rfl; have k3 := G1.out.c 3 _ rfl; have k4 := G1.out.c 4 _ rfl
      have g0 := G0.out.c 0 _ rfl; have g1 := G0.out.c 1 _ rfl; have g2 := G0.out.c 2 _ rfl; have g3 := G0.out.c 3 _ rfl; have g4 := G0.out.c 4 _ rfl
      have y0 := G0.out.z 0 (by decide : 0 < 5); have y1 := G0.out.z 1 (by decide : 1 < 5); have y2 := G0.out.z 2 (by decide : 2 < 5); have y3 := G0.out.z 3 (by decide : 3 < 5); have y4 := G0.out.z 4 (by decide : 4 < 5)
      go_wp2_with fail
      (try simp only [Exit.inBlock, Exit.then])
      refine bodyPost_ret (v := .tuple #[.agg #[.int .i64 c0.toNat, .string x1, .string x2, .int .i64 c1.toNat, .string x3], .int .i64 0]) ?_ rfl ⟨rfl, ?_⟩
      · exact dec_result rfl rfl (G0.out.set5 _ _ _ _ _)
      · exact below_set5 GB.out (Nat.le_refl _) _ _ _ _ _

theorem list_back {s : ByteArray} {l : List UInt8} (h : s.data.toList = l) (hl : l.length ≤ 100000) : s.size ≤ 100000 := by
  have : s.data.toList.length = s.size := Array.length_toList ..
  rw [← this, h]; exact hl

theorem Decode_ok (k a : Nat) (nm to tx S : ByteArray) (w : World)
    (hr : Lg.chk k (Lg.nmB nm.data.toList) (Lg.nmB to.data.toList) a tx.size to.toList.isEmpty tx.toList.isEmpty = 0) (hn : nm.size ≤ 12) (ht : to.size ≤ 12) (hx : tx.size ≤ 64) (hk : k ≤ 5) (ha : a ≤ 32)
    (hS : S.data.toList = Lg.enc k a nm.data.toList to.data.toList tx.data.toList) :
    Calls Tryz.prog 48 #[.string S] w fun e w' => e = .returned (.tuple #[.agg #[.int .i64 k, .string nm, .string to, .int .i64 a, .string tx], .int .i64 0]) ∧ Below w.heap.size w w' := by
  have ln : nm.data.toList.length = nm.size := Array.length_toList ..
  have lt : to.data.toList.length = to.size := Array.length_toList ..
  have lx : tx.data.toList.length = tx.size := Array.length_toList ..
  have lS : S.data.toList.length = S.size := Array.length_toList ..
  obtain ⟨c0, hc0⟩ : ∃ c, UInt8.ofNat k = c := ⟨_, rfl⟩
  obtain ⟨c1, hc1⟩ : ∃ c, UInt8.ofNat a = c := ⟨_, rfl⟩
  have e0 : k = c0.toNat := by rw [← hc0, UInt8.toNat_ofNat']; omega
  have e1 : a = c1.toNat := by rw [← hc1, UInt8.toNat_ofNat']; omega
  have tl : ∀ s : ByteArray, (Lg.tx s.data.toList).length = s.size + 1 := fun s => by
    have : s.data.toList.length = s.size := Array.length_toList ..
    rw [Lg.tx, List.length_cons, this]
  obtain ⟨R2, h2⟩ : ∃ R : ByteArray, R.data.toList = Lg.tx tx.data.toList := ⟨⟨(Lg.tx tx.data.toList).toArray⟩, by simp⟩
  obtain ⟨R1, h1⟩ : ∃ R : ByteArray, R.data.toList = Lg.tx to.data.toList ++ R2.data.toList := ⟨⟨(Lg.tx to.data.toList ++ R2.data.toList).toArray⟩, by simp⟩
  obtain ⟨R0, h0⟩ : ∃ R : ByteArray, R.data.toList = Lg.tx nm.data.toList ++ R1.data.toList := ⟨⟨(Lg.tx nm.data.toList ++ R1.data.toList).toArray⟩, by simp⟩
  have hS2 : S.data.toList = [c0, c1] ++ R0.data.toList := by
    rw [hS, Lg.enc, h0, h1, h2, hc0, hc1]
    simp
  have q2 : R2.data.toList.length = tx.size + 1 := by rw [h2, tl]
  have q1 : R1.data.toList.length = to.size + 1 + (tx.size + 1) := by rw [h1, List.length_append, tl, q2]
  have q0 : R0.data.toList.length = nm.size + 1 + (to.size + 1 + (tx.size + 1)) := by rw [h0, List.length_append, tl, q1]
  have qS : S.size = 2 + (nm.size + 1 + (to.size + 1 + (tx.size + 1))) := by rw [← lS, hS2, List.length_append, q0]; rfl
  have r2 : R2.size ≤ 100000 := list_back rfl (by omega)
  have r1 : R1.size ≤ 100000 := list_back rfl (by omega)
  have r0 : R0.size ≤ 100000 := list_back rfl (by omega)
  subst e0 e1
  refine Decode_core c0 c1 nm to tx S R0 R1 R2 ⟨#[]⟩ w (by omega) (by omega) ?_ ?_ ?_ (fun w => take_ok R0 nm R1 w (by omega) r0 h0) (fun w => take_ok R1 to R2 w (by omega) r1 h1)
    (fun w => take_ok R2 tx ⟨#[]⟩ w (by omega) r2 (by rw [h2]; simp)) (by rw [ByteArray.toList_eq]; rfl) (fun w => by
      have := Check_any c0.toNat nm to c1.toNat tx w (by unfold maxLen; omega) (by unfold maxLen; omega) (by unfold maxLen; omega)
      rwa [hr] at this)
  · rw [hS2]; rfl
  · rw [hS2]; rfl
  · apply ByteArray.ext
    apply Array.toList_inj.mp
    rw [Lib.extract_data, List.take_of_length_le (by rw [List.length_drop, lS]; exact Nat.le_refl _), hS2]
    rfl

end Go.Proofs.YtenkdpogdfcbgaaGreat
