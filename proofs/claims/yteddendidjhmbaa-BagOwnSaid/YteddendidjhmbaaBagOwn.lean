/- BagOwn: a bag that is handed in stays as it is, and what is answered shares nothing with it; for every input within the form's reach; what was there stands below. -/
import Derived.Test.YteddendidjhmbaaOwnI
import Derived.Test.YteddendidjhmbaaVoC
import Derived.Deep.Slices
namespace Go.Proofs.Yteddendidjhmbaa
open Go.RowKit

section
open Go.Deep Go.ChangeShapes Go.WideShapes
theorem slice_len2 {H : Type} {enc : TypeId × Value → H} {P : Program} {w : World} {base : Nat} {spare : Nat → Bool} {held : Bool} {t e : TypeId} {fuel : Nat} {cs : List Value} {x : DataW H × List MemPlace} {a : Option Addr} {len cap : Nat}
    (ht : P.underlying t = some (.slice e)) (h : DataW.trod enc P w base spare held fuel t cs = some x) (hcs : cs = [.slice a len cap]) : len = 0 ∨ ∃ E S, x.1 = DataW.slice E S ∧ E.length = len := by
  rcases open_slice ht h with ⟨h0, _⟩ | ⟨a', len', cap', m, n, D, Pl, h0, -, -, -, -, hx, -⟩
  · rw [h0] at hcs
    simp at hcs
    exact Or.inl hcs.2.1.symm
  · rw [h0] at hcs
    simp at hcs
    obtain ⟨-, rfl, -⟩ := hcs
    exact Or.inr ⟨_, _, congrArg Prod.fst hx, by simp⟩
end

theorem own_form {w : World} {base n : Nat} {e : TypeId} {size : Nat} {v : Value} {xs : List Value} (h : w.ownsRow base e size v n xs) : ∃ a c, v = .slice a n c ∧ c ≤ 9223372036854775807 := by
  rcases h.2 with ⟨hv, h0⟩ | ⟨g, cap, cur, hv, -, -, -, h2, -⟩
  · exact ⟨none, 0, by rw [hv, h0], Nat.zero_le _⟩
  · exact ⟨_, cap, hv, by unfold maxLen at h2; omega⟩

theorem own_capb {w : World} {base n c m : Nat} {a : Option Addr} {e : TypeId} {size : Nat} {xs : List Value} (h : w.ownsRow base e size (.slice a n c) m xs) : c ≤ 9223372036854775807 := by
  have := (own_cap h).2.1
  unfold maxLen at this
  omega

theorem own_skip {w w' : World} {base n : Nat} {e : TypeId} {size : Nat} {v : Value} {xs : List Value} {row : Option Nat} (h : w.ownsRow base e size v n xs) (hg : w.grownBy w' row) (hr : ∀ k, row = some k → k < base) : w'.ownsRow base e size v n xs :=
  own_kept2 h hg fun k hk e => by have := hr k e; have := row_base h k hk; omega

theorem Bg.put_len2 (l : List Bg.It) (t : ByteArray) : (Bg.putR Bg.Pr l t).l.length ≤ 64 := put_len l t
theorem Bg.drop_len2 (l : List Bg.It) (id : Bg.Id) : (Bg.dropR Bg.Pr l id).1.length ≤ 64 := by
  unfold Bg.dropR
  split
  · exact Nat.zero_le _
  · rename_i h
    have hl := Bg.check_len (Decidable.not_not.1 h)
    split
    · exact Nat.zero_le _
    · rename_i i _
      dsimp only
      unfold Bg.less
      split
      · split
        · rw [List.length_append, List.length_take, List.length_drop]; omega
        · rw [List.length_set]; exact hl
      · exact hl

set_option maxRecDepth 100000 in
set_option maxHeartbeats 8000000 in
theorem bagOwn_walk (a0 : Option Addr) (len0 cap0 : Nat) (t0 : List Bg.It) (a1 : ByteArray) (i2 : Bool) (x2 y2 : Int) (w : World) (w0 : IArg w a0 len0 cap0 t0) (bnd0 : len0 * 40 ≤ 140737488351232) (w1 : a1.size ≤ 140737488351232) (_w2 : (Lit.int .i64 x2).wf = true) (_w3 : (Lit.int .i64 y2).wf = true) :
    Calls Try.prog 7 #[.slice a0 len0 cap0, .string a1, .agg #[.bool i2, .int .i64 x2, .int .i64 y2]] w fun e w' => e = .returned (.bool true) ∧ Below w.heap.size w w' := by
  have hn : len0 ≤ 3518437208781 := by omega
  have hs1 : a1.size ≤ maxLen := by unfold maxLen; omega
  have hB0 := (Below.refl w.heap.size w).alloc (Nat.le_refl _) (.cells #[.bool i2, .int .i64 x2, .int .i64 y2] 26)
  have HX0 := Lib.hid (bxs_new w 26 #[.bool i2, .int .i64 x2, .int .i64 y2] [.bool i2, .int .i64 x2, .int .i64 y2] rfl)
  have HB0 := Lib.hid hB0
  have HT0 := Lib.hid (w0.1.keep hB0)
  have HSM := Lib.hid w0.2.1
  have HTL := Lib.hid w0.1.len
  have T1 := two_I (w.alloc (.cells #[.bool i2, .int .i64 x2, .int .i64 y2] 26))
  clear w0 hB0 bnd0 w1
  go_enter Try.func7, Try.ntmps7
  go_wp2_with fail
  with_reducible refine T1.mono ?_
  rintro e v1 ⟨ax, cx, rfl, -, hb1⟩
  have HB1 := Lib.hid (HB0.out.trans (hb1.mono HB0.out.size))
  have HX1 := Lib.hid (HX0.out.on hb1)
  have HT1 := Lib.hid (HT0.out.keep hb1)
  clear hb1 T1
  have ha1 := (Below.refl v1.heap.size v1).alloc (Nat.le_refl _) (.cells #[.int .i64 0, .int .i64 77, .string ⟨#[]⟩, .int .i64 0] 37)
  have HB2 := Lib.hid (HB1.out.trans (ha1.mono HB1.out.size))
  have HX2 := Lib.hid (HX1.out.on ha1)
  have HT2 := Lib.hid (HT1.out.keep ha1)
  have HM2 := Lib.hid (bxs_new v1 37 #[.int .i64 0, .int .i64 77, .string ⟨#[]⟩, .int .i64 0] [.int .i64 0, .int .i64 77, .string ⟨#[]⟩, .int .i64 0] rfl)
  have CT := roomy_I a0 len0 cap0 0 77 0 ⟨#[]⟩ t0 _ HT2.out (by omega)
  clear ha1
  go_wp2_with fail
  with_reducible refine CT.mono ?_
  rintro e v3 ⟨g, C, hC, rfl, hg, hR, hb3⟩
  have HB3 := Lib.hid (HB2.out.trans (hb3.mono HB2.out.size))
  have HX3 := Lib.hid (HX2.out.on hb3)
  have HT3 := Lib.hid (HT2.out.keep hb3)
  have HM3 := Lib.hid (HM2.out.on hb3)
  have HR3 := Lib.hid hR
  have hCm : C ≤ maxLen := by unfold maxLen; omega
  have hgl : g < v3.heap.size := by obtain ⟨f, h1, -⟩ := hR; exact row_lt h1
  have hgw : w.heap.size ≤ g := Nat.le_trans HB2.out.size hg
  have HI3 := Lib.hid (own_isl0 (hR.own (base := 0) HTL.out hC (Nat.zero_le _) hCm) HTL.out)
  have HC := Lib.hid hC
  clear hb3 hR hC hg CT
  have CT := Put_I (some ⟨g, 0, none⟩) len0 C t0 a1 v3 HI3.out HSM.out hs1
  obtain ⟨RP, hRP⟩ : ∃ R, Bg.putR Bg.Pr t0 a1 = R := ⟨_, rfl⟩
  have hNP := Bg.put_len2 t0 a1
  rw [hRP] at CT hNP
  obtain ⟨lP, ⟨iP, xP, yP⟩, eP⟩ := RP
  dsimp only at hNP
  clear hRP
  go_wp2_with fail
  with_reducible refine CT.mono ?_
  rintro e v4 ⟨a4, n4, c4, rfl, o4, l4, hb4⟩
  dsimp only at o4 l4
  have hc4 := hb4.alloc hb4.size (.cells #[.bool iP, .int .i64 xP, .int .i64 yP] 26)
  have HB4 := Lib.hid (HB3.out.trans (hc4.mono HB3.out.size))
  have HX4 := Lib.hid (HX3.out.on hc4)
  have HT4 := Lib.hid (HT3.out.keep hc4)
  have HM4 := Lib.hid (HM3.out.on hc4)
  have HR4 := Lib.hid (HR3.out.on hc4)
  have HI4 := Lib.hid (HI3.out.keep hc4)
  have HA4 := Lib.hid (o4.alloc (.cells #[.bool iP, .int .i64 xP, .int .i64 yP] 26))
  have hlA : ∀ k, (Value.slice a4 n4 c4).ownBlock = some k → k < v4.heap.size := fun k hk => own_block_lt o4 k hk
  have HLA := Lib.hid hlA
  have hcapA := own_capb o4
  have HLN := Lib.hid l4
  have HN4 : Hid (n4 ≤ 64) := Lib.hid (by omega)
  have hz34 : v3.heap.size ≤ v4.heap.size := hb4.size
  clear o4 hb4 hc4 CT hlA l4
  have x0 := HX4.out.c 0 _ rfl; have x1 := HX4.out.c 1 _ rfl; have x3 := HX4.out.c 2 _ rfl
  have CT := Drop_I (some ⟨g, 0, none⟩) len0 C t0 i2 x2 y2 _ HI4.out HSM.out
  obtain ⟨RD, hRD⟩ : ∃ R, Bg.dropR Bg.Pr t0 ⟨i2, x2, y2⟩ = R := ⟨_, rfl⟩
  have hND := Bg.drop_len2 t0 ⟨i2, x2, y2⟩
  rw [hRD] at CT hND
  obtain ⟨lD, eD⟩ := RD
  dsimp only at CT hND
  clear hRD
  go_wp2_with fail
  with_reducible refine CT.mono ?_
  rintro e v5 ⟨a5, n5, c5, rfl, o5, l5, hb5⟩
  have HB5 := Lib.hid (HB4.out.trans (hb5.mono HB4.out.size))
  have HT5 := Lib.hid (HT4.out.keep hb5)
  have HM5 := Lib.hid (HM4.out.on hb5)
  have HR5 := Lib.hid (HR4.out.on hb5)
  have HI5 := Lib.hid (HI4.out.keep hb5)
  have HA5 := Lib.hid (own_keep HA4.out hb5)
  have HD5 := Lib.hid o5
  have HLD := Lib.hid l5
  have HN5 : Hid (n5 ≤ 64) := Lib.hid (by omega)
  have hz45 : v4.heap.size < v5.heap.size := by have := hb5.size; rw [World.size_alloc] at this; omega
  clear o5 l5 hb5 CT x0 x1 x3
  have CT := Equal_I2 (some ⟨g, 0, none⟩) a0 len0 C cap0 t0 v5 HI5.out HT5.out (by omega)
  have m0 := HM5.out.c 0 _ rfl; have m1 := HM5.out.c 1 _ rfl; have m2 := HM5.out.c 2 _ rfl; have m3 := HM5.out.c 3 _ rfl
  have MK : ∀ j, Calls Try.prog 29 #[.slice (some ⟨g, 0, none⟩) len0 C, .agg #[.int .i64 0, .int .i64 77, .string ⟨#[]⟩, .int .i64 0]] (v5.drewN j) fun e w' => e = .returned (.bool true) ∧ Below (v5.drewN j).heap.size (v5.drewN j) w' := fun j => marked_I g len0 C 0 77 0 ⟨#[]⟩ t0 _ (HR5.out.on (below_drewN (Below.refl _ _) j)) HTL.out HC.out (by omega)
  go_wp2_with fail
  with_reducible refine CT.mono ?_
  rintro e v6 ⟨rfl, j6, rfl⟩
  clear CT
  go_wp2_with fail
  with_reducible refine (MK j6).mono ?_
  rintro e v7 ⟨rfl, hb7⟩
  have hd7 : Below v5.heap.size v5 v7 := (below_drewN (Below.refl v5.heap.size v5) j6).trans (hb7.mono (below_drewN (Below.refl v5.heap.size v5) j6).size)
  have HB7 := Lib.hid (HB5.out.trans (hd7.mono HB5.out.size))
  have HR7 := Lib.hid (HR5.out.on hd7)
  have HA7 := Lib.hid (own_keep HA5.out hd7)
  have HD7 := Lib.hid (own_keep HD5.out hd7)
  have hz57 := hd7.size
  clear hb7 hd7 MK m0 m1 m2 m3
  have CT := Clone_I a4 n4 c4 lP v7 (own_isl0 HA7.out HLN.out) (by have := HN4.out; omega)
  go_wp2_with fail
  with_reducible refine CT.mono ?_
  rintro e v8 ⟨u8, rfl, o8, hb8⟩
  obtain ⟨a8, c8, rfl, -⟩ := own_form o8
  have HB8 := Lib.hid (HB7.out.trans (hb8.mono HB7.out.size))
  have HR8 := Lib.hid (HR7.out.on hb8)
  have HA8 := Lib.hid (own_keep HA7.out hb8)
  have HD8 := Lib.hid (own_keep HD7.out hb8)
  have HP8 := Lib.hid o8
  have hz78 := hb8.size
  clear o8 hb8 CT
  have CT := Clone_I a5 n5 c5 lD v8 (own_isl0 HD8.out HLD.out) (by have := HN5.out; omega)
  go_wp2_with fail
  with_reducible refine CT.mono ?_
  rintro e v9 ⟨u9, rfl, o9, hb9⟩
  obtain ⟨a9, c9, rfl, -⟩ := own_form o9
  have HB9 := Lib.hid (HB8.out.trans (hb9.mono HB8.out.size))
  have HR9 := Lib.hid (HR8.out.on hb9)
  have HA9 := Lib.hid (own_keep HA8.out hb9)
  have HD9 := Lib.hid (own_keep HD8.out hb9)
  have HP9 := Lib.hid (own_keep HP8.out hb9)
  have HQ9 := Lib.hid o9
  have hz89 := hb9.size
  clear o9 hb9 CT
  have CT := spoil_I (some ⟨g, 0, none⟩) len0 C 0 0 0 5 ⟨#[]⟩ (tv t0) v9 (HR9.out.own HTL.out HC.out (Nat.zero_le _) hCm) (by have := HC.out; omega)
  go_wp2_with fail
  with_reducible refine CT.mono ?_
  rintro e v10 ⟨rfl, g10⟩
  have hgr : ∀ k, (Value.slice (some ⟨g, 0, none⟩) len0 C).ownBlock = some k → k = g := fun k e => by cases e; rfl
  have HB10 := Lib.hid (HB9.out.grown g10 HB9.out.size (fun k e => by have := hgr k e; omega))
  have HA10 := Lib.hid (own_skip HA9.out g10 (fun k e => by have := hgr k e; omega))
  have HD10 := Lib.hid (own_skip HD9.out g10 (fun k e => by have := hgr k e; rw [World.size_alloc]; omega))
  have HP10 := Lib.hid (own_skip HP9.out g10 (fun k e => by have := hgr k e; omega))
  have HQ10 := Lib.hid (own_skip HQ9.out g10 (fun k e => by have := hgr k e; omega))
  have hz10 := g10.size
  clear g10 CT hgr
  have CT := Equal_I a4 a8 n4 c4 c8 lP v10 (own_isl0 HA10.out HLN.out) (own_isl0 HP10.out HLN.out) (by have := HN4.out; omega)
  have SP : ∀ j, Calls Try.prog 31 #[.slice a4 n4 c4, .agg #[.int .i64 0, .int .i64 0, .string ⟨#[]⟩, .int .i64 0]] (v10.drewN j) fun e w' => e = .returned (.tuple #[]) ∧ (v10.drewN j).grownBy w' (Value.slice a4 n4 c4).ownBlock := fun j => spoil_I a4 n4 c4 _ 0 0 0 ⟨#[]⟩ (tv lP) _ (own_keep HA10.out (below_drewN (Below.refl _ _) j)) hcapA
  go_wp2_with fail
  with_reducible refine CT.mono ?_
  rintro e v11 ⟨rfl, j11, rfl⟩
  clear CT
  go_wp2_with fail
  with_reducible refine (SP j11).mono ?_
  rintro e v12 ⟨rfl, g12⟩
  have hdb := below_drewN (Below.refl v10.heap.size v10) j11
  have HB11 := Lib.hid (HB10.out.trans (hdb.mono HB10.out.size))
  have hbA : ∀ k, (Value.slice a4 n4 c4).ownBlock = some k → v3.heap.size ≤ k := fun k e => row_base HA10.out k e
  have hw3 := HB3.out.size
  have HB12 := Lib.hid (HB11.out.grown g12 HB11.out.size (fun k e => Nat.le_trans hw3 (hbA k e)))
  have HD12 := Lib.hid (own_skip (own_keep HD10.out hdb) g12 (fun k e => by have := HLA.out k e; rw [World.size_alloc]; omega))
  have HQ12 := Lib.hid (own_skip (own_keep HQ10.out hdb) g12 (fun k e => by have := HLA.out k e; omega))
  clear g12 SP hdb
  have CT := Equal_I a5 a9 n5 c5 c9 lD v12 (own_isl0 HD12.out HLD.out) (own_isl0 HQ12.out HLD.out) (by have := HN5.out; omega)
  go_wp2_with fail
  with_reducible refine CT.mono ?_
  rintro e v13 ⟨rfl, j13, rfl⟩
  clear CT
  go_wp2_with fail
  go_ret
  exact ⟨rfl, below_drewN HB12.out j13⟩

end Go.Proofs.Yteddendidjhmbaa
