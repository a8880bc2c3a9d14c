import Derived.Test.YtenkdpogdfcbgaaSgM
/- The walk of seg.live. -/
namespace Go.Proofs.Ytenkdpogdfcbgaa.Sg
open Go.Proofs.Ytenkdpogdfcbgaa

theorem ok_found {b : List Bg.It} {r : R} {i : Nat} (h : b.findIdx? (Bg.hit r.id) = some i) : ∃ hi : i < b.length, okB b r = Bg.same r.tx b[i] := by
  obtain ⟨hi, h1, h2⟩ := List.findIdx?_eq_some_iff_getElem.1 h
  have : b.find? (Bg.hit r.id) = some b[i] := List.find?_eq_some_iff_getElem.2 ⟨h1, i, hi, rfl, fun j hj => by simpa using h2 j hj⟩
  exact ⟨hi, by unfold okB; rw [this]; rfl⟩
theorem ok_none {b : List Bg.It} {r : R} (h : b.findIdx? (Bg.hit r.id) = none) : okB b r = false := by
  have : b.find? (Bg.hit r.id) = none := by
    rw [List.find?_eq_none]
    intro x hx
    have := List.findIdx?_eq_none_iff.1 h x hx
    simp [this]
  unfold okB
  rw [this]
  rfl
theorem seen_cons (b : List Bg.It) (r : R) (t : List R) (id : Bg.Id) : seenB b (r :: t) id = ((okB b r && decide (r.id = id)) || seenB b t id) := rfl
theorem flat_len {l : List (List R)} (h : ∀ s ∈ l, s.length ≤ 25) : l.flatten.length ≤ l.length * 25 := by
  induction l with
  | nil => simp
  | cons s l ih =>
    rw [List.flatten_cons, List.length_append, List.length_cons]
    have := h s List.mem_cons_self
    have := ih fun t ht => h t (List.mem_cons_of_mem _ ht)
    omega
/-- A record that is not live: nothing is seen that was not seen. -/
theorem seen_same {b : List Bg.It} {r : R} {t : List R} {L : List Bg.Id} (hL : ∀ id, id ∈ L ↔ seenB b t id = true) (h : okB b r = true → seenB b t r.id = true) (id : Bg.Id) : id ∈ L ↔ seenB b (r :: t) id = true := by
  rw [seen_cons, hL, Bool.or_eq_true, Bool.and_eq_true, decide_eq_true_iff]
  exact ⟨Or.inr, fun h1 => h1.elim (fun ⟨h2, h3⟩ => h3 ▸ h h2) (fun h4 => h4)⟩
theorem seen_new {b : List Bg.It} {r : R} {t : List R} {L : List Bg.Id} (hL : ∀ id, id ∈ L ↔ seenB b t id = true) (h : okB b r = true) (id : Bg.Id) : id ∈ r.id :: L ↔ seenB b (r :: t) id = true := by
  rw [seen_cons, List.mem_cons, hL, Bool.or_eq_true, Bool.and_eq_true, decide_eq_true_iff]
  exact ⟨fun h1 => h1.elim (fun h2 => Or.inl ⟨h, h2.symm⟩) Or.inr, fun h1 => h1.elim (fun h2 => Or.inl h2.2.symm) Or.inr⟩
theorem ok_idOk {b : List Bg.It} {r : R} (hB : Bg.Good b) (h : okB b r = true) : IdOk r.id := by
  unfold okB at h
  cases hf : b.find? (Bg.hit r.id) with
  | none => rw [hf] at h; cases h
  | some x =>
    have hx := List.find?_some hf
    have hm := List.mem_of_find?_eq_some hf
    obtain ⟨h1, h2, h3⟩ := Bg.hitB.1 hx
    obtain ⟨h4, h5, h6, h7⟩ := (Bg.one_fit (hB.one x hm)).1
    exact ⟨by rw [← h2]; exact WalkArith.wf_i64 (by omega), by rw [← h3]; exact WalkArith.wf_i64 (by omega)⟩

end Go.Proofs.Ytenkdpogdfcbgaa.Sg

namespace Go.Proofs.Ytenkdpogdfcbgaa
open Go.RowKit

theorem flgs_step {b : List Bg.It} {l : List (List Sg.R)} {q : Nat} {s : List Sg.R} (h : l[q]? = some s) : (List.replicate (q + 1) ([] : List Bool) ++ Sg.flgs b (l.drop (q + 1))).set q (Sg.flg b s (l.drop (q + 1)).flatten) = List.replicate q [] ++ Sg.flgs b (l.drop q) ∧ (l.drop q).flatten = s ++ (l.drop (q + 1)).flatten := by
  obtain ⟨hq, rfl⟩ := List.getElem?_eq_some_iff.1 h
  have hd : l.drop q = l[q] :: l.drop (q + 1) := List.drop_eq_getElem_cons hq
  rw [hd]
  refine ⟨?_, rfl⟩
  rw [List.replicate_succ', List.append_assoc, List.set_append_right _ _ (by simp), List.length_replicate, Nat.sub_self]
  rfl

theorem flg_step {b : List Bg.It} {s tl : List Sg.R} {j : Nat} {r : Sg.R} (h : s[j]? = some r) (x : Bool) (hx : (Sg.okB b r && !Sg.seenB b (s.drop (j + 1) ++ tl) r.id) = x) :
    (List.replicate (j + 1) false ++ Sg.flg b (s.drop (j + 1)) tl).set j x = List.replicate j false ++ Sg.flg b (s.drop j) tl ∧ s.drop j ++ tl = r :: (s.drop (j + 1) ++ tl) := by
  obtain ⟨hj, rfl⟩ := List.getElem?_eq_some_iff.1 h
  have hd : s.drop j = s[j] :: s.drop (j + 1) := List.drop_eq_getElem_cons hj
  rw [hd, Sg.flg, hx]
  refine ⟨?_, rfl⟩
  rw [List.replicate_succ', List.append_assoc, List.set_append_right _ _ (by simp), List.length_replicate, Nat.sub_self]
  rfl

theorem List.set_getElem_self' {α : Type} {l : List α} {j : Nat} {x : α} (h : l[j]? = some x) : l.set j x = l := by
  obtain ⟨h1, rfl⟩ := List.getElem?_eq_some_iff.1 h
  exact List.set_getElem_self h1

theorem Sm.noRow {W : World} {b N : Nat} {L : List Bg.Id} (h : Sm W b N L) {base n size : Nat} {e : TypeId} {v : Value} {xs : List Value} (ho : W.ownsRow base e size v n xs) : v.ownBlock ≠ some b := fun he => by
  obtain ⟨m, D, -, ⟨es, cl, hb, -⟩, -⟩ := h
  rcases ho.2 with ⟨rfl, -⟩ | ⟨g, cap, cur, rfl, -, hh, -⟩
  · cases he
  · have e1 : g = b := Option.some.inj he
    rw [e1, hb] at hh
    cases hh

theorem LvW.map {w w' : World} {base g n c m N : Nat} {L : List Bg.Id} {rs : List Rl} {fl : List (List Bool)} (h : LvW w base g n c rs fl) (hg : w.grownBy w' (some m)) (hm : Sm w m N L) : LvW w' base g n c rs fl :=
  ⟨own_kept2 h.row hg fun k hk e => hm.noRow h.row (by rw [hk, ← e]), h.len, fun i r s h1 h2 => own_kept2 (h.seg i r s h1 h2) hg fun k hk e => hm.noRow (h.seg i r s h1 h2) (by rw [hk, ← e]), h.apart⟩
theorem Sm.grown {W W' : World} {b N k : Nat} {L : List Bg.Id} (h : Sm W b N L) (hg : W.grownBy W' (some k)) (hk : b ≠ k) : Sm W' b N L := h.keep (hg.block b h.lt fun e => hk (Option.some.inj e))

set_option maxRecDepth 100000 in
set_option maxHeartbeats 16000000 in
theorem live_E (a : Option Addr) (n c base : Nat) (rs : List Rl) (l : List (List Sg.R)) (ba : Option Addr) (bn bc : Nat) (bl : List Bg.It) (w : World) (hS : SgW w base a n c rs l) (hG : Sg.Good l) (hI : ISl w ba bn bc bl) (hB : Bg.Good bl) :
    Calls Try.prog 110 #[.slice a n c, .slice ba bn bc] w fun e w' => ∃ g zs, e = .returned (.slice (some ⟨g, 0, none⟩) n n) ∧ LvW w' w.heap.size g n n zs (Sg.flgs bl l) ∧ Below w.heap.size w w' := by
  have hn16 : n ≤ 16 := by rw [← hS.len]; exact hG.len
  have hbn : bn ≤ 64 := by rw [← hI.len]; exact hB.len
  have H25 : Hid (∀ s ∈ l, s.length ≤ 25) := Lib.hid fun s hs => Sg.sok_short (hG.seg s hs)
  obtain ⟨cs, hc1, hc2, hmk⟩ := mk_rows n (by omega)
  have hmm := @run_makeMap Try.prog
  have HS := Lib.hid hS; have HI := Lib.hid hI; have HBG := Lib.hid hB
  have HLN := Lib.hid hS.len
  obtain ⟨W1, hW1⟩ : ∃ W1, (w.alloc (.cells cs 177)).alloc (.map #[] 0) = W1 := ⟨_, rfl⟩
  have HB1 : Hid (Below w.heap.size w W1) := Lib.hid (by rw [← hW1]; exact ((Below.refl w.heap.size w).alloc (Nat.le_refl _) _).alloc (by rw [World.size_alloc]; omega) _)
  have HL1 : Hid (LvW W1 w.heap.size w.heap.size n n (List.replicate n ⟨none, 0, 0⟩) (List.replicate n [] ++ Sg.flgs bl (l.drop n))) := Lib.hid (by
    rw [← hW1]
    have h1 := (World.ownsRow_lit (base := w.heap.size) (e := 177) (size := 1) w cs n (Nat.le_refl _) (by unfold maxLen; omega) (by omega)).alloc (.map #[] 0)
    rw [hc1] at h1
    have hd : l.drop n = [] := List.drop_eq_nil_of_le (by rw [hS.len]; exact Nat.le_refl _)
    rw [hd]
    show LvW _ _ _ _ _ _ (List.replicate n [] ++ [])
    rw [List.append_nil]
    refine ⟨h1, List.length_replicate, fun i r f hr hf => ?_, ?_⟩
    · obtain ⟨-, rfl⟩ := List.getElem?_eq_some_iff.1 hr
      obtain ⟨-, rfl⟩ := List.getElem?_eq_some_iff.1 hf
      rw [List.getElem_replicate, List.getElem_replicate]
      exact World.ownsRow_nil _ _ _ _
    · refine List.pairwise_iff_getElem.2 fun i j hi hj hij k h1 h2 => ?_
      rw [List.getElem_map, List.getElem_replicate] at h1
      cases h1)
  have HM1 : Hid (Sm W1 (w.heap.size + 1) 0 []) := Lib.hid (by
    have := Sm.new (w.alloc (.cells cs 177))
    rw [World.size_alloc] at this
    rw [← hW1]
    exact this)
  have HD0 : Hid (∀ id, id ∈ ([] : List Bg.Id) ↔ Sg.seenB bl (l.drop n).flatten id = true) := Lib.hid fun id => by
    have hd : l.drop n = [] := List.drop_eq_nil_of_le (by rw [hS.len]; exact Nat.le_refl _)
    rw [hd]
    simp [Sg.seenB]
  clear hS hG hI hB hc1 hc2
  go_enter Try.func110, Try.ntmps110
  go_wp2_with fail
  go_loopw [7] (fun v wr => ∃ (p : Nat) (x : Int) (zs : List Rl) (L : List Bg.Id), v = .int .i64 x ∧ p ≤ n ∧ Hid (x + 1 = (p : Int)) ∧ Hid (Below w.heap.size w wr) ∧ Hid (LvW wr w.heap.size w.heap.size n n zs (List.replicate p [] ++ Sg.flgs bl (l.drop p))) ∧ Hid (Sm wr (w.heap.size + 1) (l.drop p).flatten.length L) ∧ Hid (∀ id, id ∈ L ↔ Sg.seenB bl (l.drop p).flatten id = true)) (fun v _ => (intOf v + 1).toNat)
  case atStart => exact ⟨n, (n : Int) - 1, _, [], by first | rfl | (congr 1; exact IntWalk.wrap64_in _ ⟨by omega, by omega⟩), Nat.le_refl _, Lib.hid (by omega), HB1, HL1, Lib.hid (HM1.out.more (Nat.zero_le _)), HD0⟩
  case round =>
    obtain ⟨p, x, zs, L, rfl, hp, HP, HB, HL, HM, HD⟩ := hrel
    rcases p with _ | q
    · obtain rfl : x = -1 := by have := HP.out; omega
      go_wp2_with fail
      go_ret
      exact ⟨_, _, rfl, by have := HL.out; simpa using this, HB.out⟩
    · obtain rfl : x = (q : Int) := by have := HP.out; omega
      have hqn : q < n := by omega
      obtain ⟨g, r, s, rfl, hg, -, c0w, hr, hls, ho⟩ := HS.out.at hqn
      have hs25 := H25.out s (List.mem_of_getElem? hls)
      have hrn : r.n ≤ 25 := by rw [← own_len4 ho]; exact hs25
      have HSL := Lib.hid (own_len4 ho)
      have HO := Lib.hid ho
      obtain ⟨HFS, HFT⟩ := flgs_step (b := bl) hls
      have HFL : Hid (∀ f : List Bool, ((List.replicate (q + 1) ([] : List Bool) ++ Sg.flgs bl (l.drop (q + 1))).set q f)[q]? = some f) := Lib.hid fun f => List.getElem?_set_self (by rw [List.length_append, List.length_replicate]; omega)
      have HT4 : Hid ((l.drop (q + 1)).flatten.length ≤ 400) := Lib.hid (by
        have h1 := Sg.flat_len (l := l.drop (q + 1)) fun s hs => H25.out s (List.mem_of_mem_drop hs)
        have h2 : (l.drop (q + 1)).length ≤ 16 := by rw [List.length_drop, HLN.out]; omega
        omega)
      have HFS := Lib.hid HFS; have HFT := Lib.hid HFT
      generalize (l.drop (q + 1)).flatten = tl at *
      generalize List.replicate (q + 1) ([] : List Bool) ++ Sg.flgs bl (l.drop (q + 1)) = FL at *
      obtain ⟨ra, rn, rc⟩ := r
      dsimp only at c0w hrn HSL HO
      obtain ⟨cs2, hd1, hd2, hmk2⟩ := mk_bools rn (by omega)
      have hal := (Below.refl wr.heap.size wr).alloc (Nat.le_refl _) (.cells cs2 4)
      obtain ⟨gi, hgi⟩ : ∃ gi, wr.heap.size = gi := ⟨_, rfl⟩
      obtain ⟨V1, hV1⟩ : ∃ V1, (wr.alloc (.cells cs2 4)).setCell ⟨w.heap.size, q, none⟩ (.slice (some ⟨gi, 0, none⟩) rn rn) = V1 := ⟨_, rfl⟩
      have hn1 : (wr.alloc (.cells cs2 4)).ownsRow wr.heap.size 4 1 (Rl.v ⟨some ⟨wr.heap.size, 0, none⟩, rn, rn⟩) rn (bv (List.replicate rn false)) := by
        have := World.ownsRow_lit (base := wr.heap.size) (e := 4) (size := 1) wr cs2 rn (Nat.le_refl _) (by unfold maxLen; omega) (by omega)
        rw [hd1] at this
        exact this
      obtain ⟨hlp, hgp⟩ := HL.out.put hqn hal hn1 HB.out.size
      rw [hgi] at hlp hgp
      have hpe : (wr.alloc (.cells cs2 4)).setCell ⟨w.heap.size, q, none⟩ (Rl.v ⟨some ⟨gi, 0, none⟩, rn, rn⟩) = V1 := hV1
      rw [hpe] at hlp hgp
      have HLP := Lib.hid hlp
      have HBP : Hid (Below w.heap.size w V1) := Lib.hid ((HB.out.alloc HB.out.size _).grown hgp (Nat.le_trans HB.out.size hal.size) (fun k e => by have := Option.some.inj e; omega))
      have HMP : Hid (Sm V1 (w.heap.size + 1) tl.length L) := Lib.hid ((HM.out.on hal).grown hgp (by omega))
      have HZQ : Hid ((zs.set q ⟨some ⟨gi, 0, none⟩, rn, rn⟩)[q]? = some ⟨some ⟨gi, 0, none⟩, rn, rn⟩) := Lib.hid (List.getElem?_set_self (by rw [HL.out.rlen]; exact hqn))
      generalize zs.set q ⟨some ⟨gi, 0, none⟩, rn, rn⟩ = z2 at *
      obtain ⟨r0, f0, y0, -, -, -⟩ := (HL.out.keep hal).at hqn
      have yf := (HL.out.keep hal).row.frozenAt q
      have c0 : wr.cell? ⟨g, q, none⟩ = some (.slice ra rn rc) := (HB.out.cell hg).trans c0w
      have c1 : V1.cell? ⟨g, q, none⟩ = some (.slice ra rn rc) := (HBP.out.cell hg).trans c0w
      have HCW := Lib.hid c0w; have HGW := Lib.hid hg
      have hrc := (own_cap ho).1
      clear hn1 hlp hgp hpe hal hr hls ho c0w hd1 hd2 hs25 hg
      go_wp2_with fail
      clear c1 y0 yf
      generalize wr = W0 at *
      go_loopw [8] (fun v wr => ∃ (p2 : Nat) (x : Int) (L2 : List Bg.Id), v = .int .i64 x ∧ p2 ≤ rn ∧ Hid (x + 1 = (p2 : Int)) ∧ Hid (Below w.heap.size w wr) ∧ Hid (LvW wr w.heap.size w.heap.size n n z2 (FL.set q (List.replicate p2 false ++ Sg.flg bl (s.drop p2) tl))) ∧ Hid (Sm wr (w.heap.size + 1) (s.drop p2 ++ tl).length L2) ∧ Hid (∀ id, id ∈ L2 ↔ Sg.seenB bl (s.drop p2 ++ tl) id = true)) (fun v _ => (intOf v + 1).toNat)
      case atStart =>
        have hdr : s.drop rn = [] := List.drop_eq_nil_of_le (by rw [HSL.out]; exact Nat.le_refl _)
        exact ⟨rn, (rn : Int) - 1, L, by first | rfl | (congr 1; exact IntWalk.wrap64_in _ ⟨by omega, by omega⟩), Nat.le_refl _, Lib.hid (by omega), HBP, Lib.hid (by rw [hdr]; simpa [Sg.flg] using HLP.out), Lib.hid (by rw [hdr]; exact HMP.out), Lib.hid (by rw [hdr]; exact HD.out)⟩
      case round =>
        obtain ⟨p2, x, L2, rfl, hp2, HP2, HB2, HL2, HM2, HD2⟩ := hrel
        rcases p2 with _ | j
        · obtain rfl : x = -1 := by have := HP2.out; omega
          have HLE : Hid (LvW wr w.heap.size w.heap.size n n z2 (List.replicate q [] ++ Sg.flgs bl (l.drop q))) := Lib.hid (by rw [← HFS.out]; have := HL2.out; simpa using this)
          have HME : Hid (Sm wr (w.heap.size + 1) (l.drop q).flatten.length L2) := Lib.hid (by rw [HFT.out]; exact HM2.out)
          have HDE : Hid (∀ id, id ∈ L2 ↔ Sg.seenB bl (l.drop q).flatten id = true) := Lib.hid (by rw [HFT.out]; exact HD2.out)
          go_wp2_with fail
          go_roundw
          case rel => exact ⟨q, (q : Int) - 1, z2, L2, by first | rfl | (congr 1; exact IntWalk.wrap64_in _ ⟨by omega, by omega⟩), by omega, Lib.hid (by omega), HB2, HLE, HME, HDE⟩
          case measure => (simp [intOf]; try omega)
        · obtain rfl : x = (j : Int) := by have := HP2.out; omega
          have hjn : j < rn := by omega
          have hjs : j < s.length := by rw [HSL.out]; exact hjn
          obtain ⟨g2, rfl, hg2, d0, d1, d2, d3⟩ := ev_at (own_keep HO.out HB2.out) hjs
          have c0 : wr.cell? ⟨g, q, none⟩ = some (.slice (some ⟨g2, 0, none⟩) rn rc) := (HB2.out.cell HGW.out).trans HCW.out
          have HFG : Hid (∀ x, (Sg.okB bl s[j] && !Sg.seenB bl (s.drop (j + 1) ++ tl) s[j].id) = x → (List.replicate (j + 1) false ++ Sg.flg bl (s.drop (j + 1)) tl).set j x = List.replicate j false ++ Sg.flg bl (s.drop j) tl) := Lib.hid fun x hx => (flg_step (List.getElem?_eq_getElem hjs) x hx).1
          have HDJ : Hid (s.drop j ++ tl = s[j] :: (s.drop (j + 1) ++ tl)) := Lib.hid (flg_step (b := bl) (List.getElem?_eq_getElem hjs) _ rfl).2
          have HRL : Hid ((List.replicate (j + 1) false ++ Sg.flg bl (s.drop (j + 1)) tl)[j]? = some false) := Lib.hid (by rw [List.getElem?_append_left (by simp)]; simp)
          generalize s[j] = r at *
          obtain ⟨⟨f1, f2, f3⟩, f4⟩ := r
          dsimp only at d0 d1 d2 d3
          obtain ⟨B, hB⟩ : ∃ B, wr.heap.size = B := ⟨_, rfl⟩
          obtain ⟨V, hV⟩ : ∃ V, wr.alloc (.cells #[.bool f1, .int .i64 f2, .int .i64 f3, .string f4] 36) = V := ⟨_, rfl⟩
          have hal : Below wr.heap.size wr V := by rw [← hV]; exact (Below.refl wr.heap.size wr).alloc (Nat.le_refl _) _
          have HBX : Hid (Bxs V B [.bool f1, .int .i64 f2, .int .i64 f3, .string f4]) := Lib.hid (by rw [← hV, ← hB]; exact bxs_new wr _ _ _ rfl)
          have HB3 := Lib.hid (HB2.out.trans (hal.mono HB2.out.size))
          have HL3 := Lib.hid (HL2.out.keep hal)
          have HM3 := Lib.hid (HM2.out.on hal)
          have HLN3 : Hid ((s.drop (j + 1) ++ tl).length ≤ 500) := Lib.hid (by have := HT4.out; have := HSL.out; rw [List.length_append, List.length_drop]; omega)
          have HLL3 : Hid ((s.drop j ++ tl).length = (s.drop (j + 1) ++ tl).length + 1) := Lib.hid (by rw [HDJ.out]; rfl)
          have K1 := Find_I ba bn bc bl f1 f2 f3 V (HI.out.keep HB3.out) (by omega)
          have b0 := HBX.out.c 0 _ rfl; have b1 := HBX.out.c 1 _ rfl; have b2 := HBX.out.c 2 _ rfl
          have HGB : Hid (gi < B) := Lib.hid (by
            rw [← hB]
            exact own_block_lt (HL2.out.seg q _ _ HZQ.out (HFL.out _)) gi rfl)
          clear hal HL2 HM2 HB2 hg2
          go_wp2_with fail
          cases hfi : bl.findIdx? (Bg.hit ⟨f1, f2, f3⟩) with
          | none =>
            have HOK : Hid (Sg.okB bl ⟨⟨f1, f2, f3⟩, f4⟩ = false) := Lib.hid (Sg.ok_none hfi)
            have hidx : idx (Bg.hit ⟨f1, f2, f3⟩) bl = -1 := by unfold idx; rw [hfi]
            rw [hidx] at K1
            clear hidx hfi
            with_reducible refine K1.mono ?_
            rintro e V2 ⟨rfl, hb⟩
            have HB4 := Lib.hid (HB3.out.trans (hb.mono HB3.out.size))
            have HL4 := Lib.hid (HL3.out.keep hb)
            have HM4 := Lib.hid (HM3.out.on hb)
            have HLF : Hid (LvW V2 w.heap.size w.heap.size n n z2 (FL.set q (List.replicate j false ++ Sg.flg bl (s.drop j) tl))) := Lib.hid (by
              have h1 := HFG.out false (by rw [HOK.out]; rfl)
              rw [← h1, List.set_getElem_self' HRL.out]
              exact HL4.out)
            have HMF : Hid (Sm V2 (w.heap.size + 1) (s.drop j ++ tl).length L2) := Lib.hid (HM4.out.more (by have := HLL3.out; omega))
            have HDF : Hid (∀ id, id ∈ L2 ↔ Sg.seenB bl (s.drop j ++ tl) id = true) := Lib.hid (by rw [HDJ.out]; exact Sg.seen_same HD2.out (by rw [HOK.out]; intro h; cases h))
            clear K1 hb b0 b1 b2 d0 d1 d2 d3 c0
            go_wp2_with fail
            go_quiet (fail)
            go_wp2_with fail
            go_roundw
            case rel => exact ⟨j, (j : Int) - 1, L2, by first | rfl | (congr 1; exact IntWalk.wrap64_in _ ⟨by omega, by omega⟩), by omega, Lib.hid (by omega), Lib.hid (below_drewN HB4.out _), Lib.hid (HLF.out.keep (below_drewN (Below.refl _ _) _)), Lib.hid (HMF.out.on (below_drewN (Below.refl _ _) _)), HDF⟩
            case measure => (simp [intOf]; try omega)
          | some i =>
            obtain ⟨hil, hok⟩ := Sg.ok_found (r := ⟨⟨f1, f2, f3⟩, f4⟩) hfi
            have hidx : idx (Bg.hit ⟨f1, f2, f3⟩) bl = (i : Int) := by unfold idx; rw [hfi]
            rw [hidx] at K1
            have hib : i < bn := by rw [← HI.out.len]; exact hil
            have hbc := HI.out.cap
            clear hidx hfi
            with_reducible refine K1.mono ?_
            rintro e V2 ⟨rfl, hb⟩
            have HB4 := Lib.hid (HB3.out.trans (hb.mono HB3.out.size))
            have HL4 := Lib.hid (HL3.out.keep hb)
            have HM4 := Lib.hid (HM3.out.on hb)
            have HX4 := Lib.hid (HBX.out.on hb)
            have hk : Bg.same f4 bl[i] = (bl[i].text.toList == f4.toList) := rfl
            obtain ⟨A, ab, ao, as_, rfl, hA, t1, t2, t3, t4⟩ := (HI.out.keep HB4.out).get hil
            generalize bl[i].text = xt at *
            have HOK := Lib.hid (hok.trans hk)
            have e0 := HX4.out.c 0 _ rfl; have e1 := HX4.out.c 1 _ rfl; have e2 := HX4.out.c 2 _ rfl; have e3 := HX4.out.c 3 _ rfl
            clear K1 hb b0 b1 b2 d0 d1 d2 d3 c0 t1 t2 t4 hok hk
            cases hxt : (xt.toList == f4.toList) with
            | false =>
              rw [hxt] at HOK
              have HLF : Hid (LvW V2 w.heap.size w.heap.size n n z2 (FL.set q (List.replicate j false ++ Sg.flg bl (s.drop j) tl))) := Lib.hid (by
                have h1 := HFG.out false (by rw [HOK.out]; rfl)
                rw [← h1, List.set_getElem_self' HRL.out]
                exact HL4.out)
              have HMF : Hid (Sm V2 (w.heap.size + 1) (s.drop j ++ tl).length L2) := Lib.hid (HM4.out.more (by have := HLL3.out; omega))
              have HDF : Hid (∀ id, id ∈ L2 ↔ Sg.seenB bl (s.drop j ++ tl) id = true) := Lib.hid (by rw [HDJ.out]; exact Sg.seen_same HD2.out (by rw [HOK.out]; intro h; cases h))
              go_wp2_with fail
              go_quiet (fail)
              clear t3 e0 e1 e2 e3 hA
              go_wp2_with fail
              go_roundw
              case rel => exact ⟨j, (j : Int) - 1, L2, by first | rfl | (congr 1; exact IntWalk.wrap64_in _ ⟨by omega, by omega⟩), by omega, Lib.hid (by omega), Lib.hid (below_drewN HB4.out _), Lib.hid (HLF.out.keep (below_drewN (Below.refl _ _) _)), Lib.hid (HMF.out.on (below_drewN (Below.refl _ _) _)), HDF⟩
              case measure => (simp [intOf]; try omega)
            | true =>
              rw [hxt] at HOK
              have hid := Sg.ok_idOk HBG.out HOK.out
              obtain ⟨sb, hsb⟩ : ∃ sb, decide ((⟨f1, f2, f3⟩ : Bg.Id) ∈ L2) = sb := ⟨_, rfl⟩
              have hlk : ∀ k, (Instr.lookup 235 (.map (some (w.heap.size + 1))) (.agg #[.bool f1, .int .i64 f2, .int .i64 f3]) false).run Try.prog (V2.drewN k) = .ok (.bool sb) (V2.drewN k) := fun k => by
                rw [← hsb]
                exact (HM4.out.on (below_drewN (Below.refl _ _) k)).look hid
              have HSB := Lib.hid hsb
              clear hsb
              cases sb with
              | true =>
                have HIN : Hid (Sg.seenB bl (s.drop (j + 1) ++ tl) ⟨f1, f2, f3⟩ = true) := Lib.hid ((HD2.out _).1 (of_decide_eq_true HSB.out))
                have HLF : Hid (LvW V2 w.heap.size w.heap.size n n z2 (FL.set q (List.replicate j false ++ Sg.flg bl (s.drop j) tl))) := Lib.hid (by
                  have h1 := HFG.out false (by rw [HOK.out, HIN.out]; rfl)
                  rw [← h1, List.set_getElem_self' HRL.out]
                  exact HL4.out)
                have HMF : Hid (Sm V2 (w.heap.size + 1) (s.drop j ++ tl).length L2) := Lib.hid (HM4.out.more (by have := HLL3.out; omega))
                have HDF : Hid (∀ id, id ∈ L2 ↔ Sg.seenB bl (s.drop j ++ tl) id = true) := Lib.hid (by rw [HDJ.out]; exact Sg.seen_same HD2.out (by intro _; exact HIN.out))
                go_wp2_with fail
                go_quiet (fail)
                clear t3 e0 e1 e2 e3 hA hlk
                go_wp2_with fail
                go_roundw
                case rel => exact ⟨j, (j : Int) - 1, L2, by first | rfl | (congr 1; exact IntWalk.wrap64_in _ ⟨by omega, by omega⟩), by omega, Lib.hid (by omega), Lib.hid (below_drewN HB4.out _), Lib.hid (HLF.out.keep (below_drewN (Below.refl _ _) _)), Lib.hid (HMF.out.on (below_drewN (Below.refl _ _) _)), HDF⟩
                case measure => (simp [intOf]; try omega)
              | false =>
                have HNI : Hid (Sg.seenB bl (s.drop (j + 1) ++ tl) ⟨f1, f2, f3⟩ = false) := Lib.hid (by
                  cases hq : Sg.seenB bl (s.drop (j + 1) ++ tl) ⟨f1, f2, f3⟩ with
                  | false => rfl
                  | true => exact absurd ((HD2.out _).2 hq) (of_decide_eq_false HSB.out))
                go_wp2_with fail
                go_quiet (fail)
                have hbq : Below V2.heap.size V2 (V2.drewN nq) := below_drewN (Below.refl _ _) _
                generalize V2.drewN nq = V3 at *
                have hbd : Below V2.heap.size V2 V3.drew := hbq.drew
                clear t3 e0 e1 e2 e3 hA hlk hbq
                have HL5 := Lib.hid (HL4.out.keep hbd)
                have HM5 := Lib.hid (HM4.out.on hbd)
                have HX5 := Lib.hid (HX4.out.on hbd)
                have HB5 := Lib.hid (HB4.out.trans (hbd.mono HB4.out.size))
                obtain ⟨r5, f5, y0, hr5, hf5, ho5⟩ := HL5.out.at hqn
                rw [HZQ.out] at hr5
                obtain rfl := Option.some.inj hr5
                rw [HFL.out] at hf5
                obtain rfl := Option.some.inj hf5
                obtain ⟨hls, hgs⟩ := HL5.out.store (j := j) HZQ.out (HFL.out _) true
                have i1 : V3.drew.cell? ⟨gi, j, none⟩ = some (.bool false) := by
                  rw [World.ownsRow.cellAt ho5 j (by dsimp only; omega)]
                  unfold bv
                  rw [List.getElem?_map, HRL.out]
                  rfl
                have i2 : V3.drew.frozen? ⟨gi, j, none⟩ = false := World.ownsRow.frozenAt ho5 j
                have hgm : w.heap.size + 1 ≠ gi := fun e => HM5.out.noRow ho5 (by rw [e]; rfl)
                have hm6 := HM5.out.grown hgs hgm
                obtain ⟨W6, hup, hm7, hg7⟩ := hm6.put hid (by have := HLN3.out; unfold maxLen; omega)
                have hup' : (Instr.mapUpdate 235 (.map (some (w.heap.size + 1))) (.agg #[.bool f1, .int .i64 f2, .int .i64 f3]) (.bool true)).run Try.prog (V3.setCell ⟨gi, j, none⟩ (.bool true)).drew = .ok () W6 := hup
                have e0 := HX5.out.c 0 _ rfl; have e1 := HX5.out.c 1 _ rfl; have e2 := HX5.out.c 2 _ rfl
                have hgb : w.heap.size ≤ gi := row_base ho5 gi rfl
                have HLF : Hid (LvW W6 w.heap.size w.heap.size n n z2 (FL.set q (List.replicate j false ++ Sg.flg bl (s.drop j) tl))) := Lib.hid (by
                  have h1 := HFG.out true (by rw [HOK.out, HNI.out]; rfl)
                  have h2 := hls.map hg7 hm6
                  rw [List.set_set, h1] at h2
                  exact h2)
                have HMF : Hid (Sm W6 (w.heap.size + 1) (s.drop j ++ tl).length (⟨f1, f2, f3⟩ :: L2)) := Lib.hid (by rw [HLL3.out]; exact hm7)
                have HDF : Hid (∀ id, id ∈ (⟨f1, f2, f3⟩ : Bg.Id) :: L2 ↔ Sg.seenB bl (s.drop j ++ tl) id = true) := Lib.hid (by rw [HDJ.out]; exact Sg.seen_new (r := ⟨⟨f1, f2, f3⟩, f4⟩) HD2.out HOK.out)
                have HB6 : Hid (Below w.heap.size w W6) := Lib.hid ((HB5.out.grown hgs HB5.out.size (fun k e => by have := Option.some.inj e; omega)).grown hg7 (Nat.le_trans HB5.out.size hgs.size) (fun k e => by have := Option.some.inj e; omega))
                clear hls hgs hm6 hm7 hg7 hr5 hf5 ho5 hbd hup hid hgb hgm
                dsimp only at y0
                have e0' : V3.cell? ⟨B, 0, none⟩ = some (.bool f1) := e0; have e1' : V3.cell? ⟨B, 1, none⟩ = some (.int .i64 f2) := e1; have e2' : V3.cell? ⟨B, 2, none⟩ = some (.int .i64 f3) := e2
                have hn1 : ¬ gi = B := by have := HGB.out; omega
                have hn2 : ¬ B = gi := by have := HGB.out; omega
                go_wp2_with fail
                go_region
                go_wp2_with fail
                go_roundw
                case rel => exact ⟨j, (j : Int) - 1, ⟨f1, f2, f3⟩ :: L2, by first | rfl | (congr 1; exact IntWalk.wrap64_in _ ⟨by omega, by omega⟩), by omega, Lib.hid (by omega), HB6, HLF, HMF, HDF⟩
                case measure => (simp [intOf]; try omega)

end Go.Proofs.Ytenkdpogdfcbgaa
