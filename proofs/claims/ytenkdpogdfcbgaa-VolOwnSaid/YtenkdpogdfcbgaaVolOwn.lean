/- VolOwn: a state that is handed in stays as it is, and what is answered shares nothing with it; for every input. -/
import Derived.Test.YtenkdpogdfcbgaaOwnV
import Derived.Test.YtenkdpogdfcbgaaSameW
import Derived.Test.YtenkdpogdfcbgaaCopyW
import Derived.Test.YtenkdpogdfcbgaaVoH
import Derived.Test.YtenkdpogdfcbgaaMdW
import Derived.Test.YtenkdpogdfcbgaaArgsO
import Derived.Test.YtenkdpogdfcbgaaArgs5
import Derived.Laws.OwnMore
namespace Go.Proofs.Ytenkdpogdfcbgaa
open Go.RowKit

theorem do_small {s : Vo.St} (h : Vo.Right s) (o : Lg.Op) : Vo.Right (Vo.doR s o).s := Vo.do_right h o

set_option maxRecDepth 100000 in
set_option maxHeartbeats 16000000 in
theorem volOwn_core (L0 : Option Addr) (nl cl : Nat) (t0 : List Lg.Op) (ki qi : Int) (tx to_ : ByteArray) (o : Lg.Op) (w : World) (hL : OArg w L0 nl cl t0) (ht : tx.size ≤ maxLen) (hto : to_.size ≤ maxLen) (h1 : o.nm.size ≤ maxLen) (h2 : o.tn.size ≤ maxLen) (h3 : o.tx.size ≤ maxLen) :
    Calls Try.prog 11 #[.slice L0 nl cl, .int .i64 ki, .int .i64 qi, .string tx, .string to_, .agg #[.int .i64 o.k, .string o.nm, .string o.tn, .int .i64 o.a, .string o.tx]] w fun e w' => e = .returned (.bool true) ∧ Below w.heap.size w w' := by
  obtain ⟨w0, hw0⟩ : ∃ w0, w0 = w.alloc (.cells #[.int .i64 o.k, .string o.nm, .string o.tn, .int .i64 o.a, .string o.tx] 55) := ⟨_, rfl⟩
  have hal : Below w.heap.size w w0 := by rw [hw0]; exact (Below.refl w.heap.size w).alloc (Nat.le_refl _) _
  have HB := Lib.hid hal
  have XP : Hid (Bxs w0 w.heap.size [.int .i64 o.k, .string o.nm, .string o.tn, .int .i64 o.a, .string o.tx]) := Lib.hid (by rw [hw0]; exact bxs_new w _ _ _ rfl)
  have B1 := begun_V w0
  rw [hw0] at B1
  have HM1 : Hid (∀ W, Below w.heap.size w W → Calls Try.prog 77 #[.slice L0 nl cl] W (StMade W (Vo.made t0))) := Lib.hid fun W hb => made_V L0 nl cl t0 W ⟨hL.1.keep hb, hL.2⟩
  have HR : Hid (Vo.Right (Vo.made t0)) := Lib.hid (Vo.made_right t0)
  obtain ⟨S, hS⟩ : ∃ S, Vo.made t0 = S := ⟨_, rfl⟩
  rw [hS] at HM1 HR
  obtain ⟨nm, hnm⟩ : ∃ nm, Vo.pick S ki = nm := ⟨_, rfl⟩
  have HO1 := Lib.hid h1; have HO2 := Lib.hid h2; have HO3 := Lib.hid h3; have HTX := Lib.hid ht; have HTO := Lib.hid hto; have HNM := Lib.hid hnm
  clear hal hL ht hto h1 h2 h3 hS hnm
  go_enter Try.func11, Try.ntmps11
  go_wp2_with fail
  with_reducible refine B1.mono ?_
  rintro e v1 ⟨rfl, hb⟩
  rw [← hw0] at hb
  replace HB := Lib.hid (HB.out.trans (hb.mono HB.out.size))
  replace XP := Lib.hid (XP.out.on hb)
  have K2 := HM1.out v1 HB.out
  have HZ1 : Hid (w.heap.size < v1.heap.size) := Lib.hid XP.out.lt
  clear B1 hw0 hb HM1
  go_wp2_with fail
  with_reducible refine K2.mono ?_
  rintro e v2 ⟨a, n, c, b, m, d, rs, rfl, hs, hb⟩
  replace HB := Lib.hid (HB.out.trans (hb.mono HB.out.size))
  replace XP := Lib.hid (XP.out.on hb)
  have hmS : m ≤ 6 := by have := HR.out.len; rw [hs.vlen] at this; omega
  have hnS : n ≤ 64 := by have := HR.out.bag.len; rw [hs.len] at this; omega
  have HMS := Lib.hid hmS; have HNS := Lib.hid hnS; have HID : Hid (∀ v ∈ S.vols, v.ids.length ≤ 1000) := Lib.hid (fun v hv => by have := (HR.out.vol v hv).len; omega)
  have HZ2 : Hid (v1.heap.size ≤ v2.heap.size) := Lib.hid hb.size
  have hI := StW.lies hs
  have hal := (Below.refl v2.heap.size v2).alloc (Nat.le_refl _) (.cells #[.slice a n c, .slice b m d] 53)
  have IST := Lib.hid hI
  replace HB := Lib.hid (HB.out.trans (hal.mono HB.out.size))
  replace XP := Lib.hid (XP.out.on hal)
  replace IST := Lib.hid (IST.out.keep hal)
  have XST := Lib.hid (bxs_new v2 53 #[.slice a n c, .slice b m d] [.slice a n c, .slice b m d] rfl)
  have K3 := copiedK_V a b n c m d _ rs S (v2.alloc (.cells #[.slice a n c, .slice b m d] 53)) IST.out.1 (by omega) (by omega) HID.out
  clear hal hs hb hI K2 hmS hnS
  have x0 := XST.out.c 0 _ rfl; have x1 := XST.out.c 1 _ rfl
  go_wp2_with fail
  with_reducible refine K3.mono ?_
  rintro e v3 ⟨ai, ni, ci, bi, mi, di, ri, rfl, hs, hb, hrm, hrr⟩
  obtain rfl : ni = n := hs.len.symm.trans IST.out.1.len
  obtain rfl : mi = m := hs.vlen.symm.trans IST.out.1.vlen
  obtain ⟨gi, rfl, hci, hrm⟩ := hrm
  have HZ3 : Hid (v2.heap.size < v3.heap.size) := Lib.hid (by have h := hb.size; rw [World.size_alloc] at h; omega)
  replace HB := Lib.hid (HB.out.trans (hb.mono HB.out.size))
  replace XP := Lib.hid (XP.out.on hb)
  replace IST := Lib.hid (IST.out.keep hb)
  replace XST := Lib.hid (XST.out.on hb)
  have hs := hs.low (base' := v2.heap.size) (by rw [World.size_alloc]; omega)
  have IIN := Lib.hid (StW.lies hs)
  have MIN : Hid (RoomI v3 gi ci S.bag ⟨0, 77, ⟨#[]⟩, 0⟩) := Lib.hid hrm
  have RIN := Lib.hid hrr
  have HCI := Lib.hid hci
  clear K3 x0 x1 hs hb hrm hrr hci
  have hal := (Below.refl v3.heap.size v3).alloc (Nat.le_refl _) (.cells #[.slice (some ⟨gi, 0, none⟩) ni ci, .slice bi mi di] 53)
  replace HB := Lib.hid (HB.out.trans (hal.mono HB.out.size))
  replace XP := Lib.hid (XP.out.on hal)
  replace IST := Lib.hid (IST.out.keep hal)
  replace XST := Lib.hid (XST.out.on hal)
  replace IIN := Lib.hid (IIN.out.keep hal)
  replace MIN := Lib.hid (MIN.out.on hal)
  replace RIN := Lib.hid (fun r hr => (RIN.out r hr).blk (fun g _ hl => hal.block g hl))
  have XIN := Lib.hid (bxs_new v3 53 #[.slice (some ⟨gi, 0, none⟩) ni ci, .slice bi mi di] [.slice (some ⟨gi, 0, none⟩) ni ci, .slice bi mi di] rfl)
  have K4 := pick_V a b ni c mi d _ rs S ki (v3.alloc (.cells #[.slice (some ⟨gi, 0, none⟩) ni ci, .slice bi mi di] 53)) IST.out.1 (by have := HMS.out; omega)
  rw [HNM.out] at K4
  clear hal
  have x0 := XST.out.c 0 _ rfl; have x1 := XST.out.c 1 _ rfl
  go_wp2_with fail
  with_reducible refine K4.mono ?_
  rintro e v4 ⟨rfl, hb⟩
  have HZ4 : Hid (v3.heap.size < v4.heap.size) := Lib.hid (by have h := hb.size; rw [World.size_alloc] at h; omega)
  replace HB := Lib.hid (HB.out.trans (hb.mono HB.out.size))
  replace XP := Lib.hid (XP.out.on hb)
  replace IST := Lib.hid (IST.out.keep hb)
  replace XST := Lib.hid (XST.out.on hb)
  replace IIN := Lib.hid (IIN.out.keep hb)
  replace MIN := Lib.hid (MIN.out.on hb)
  replace RIN := Lib.hid (fun r hr => (RIN.out r hr).blk (fun g _ hl => hb.block g hl))
  replace XIN := Lib.hid (XIN.out.on hb)
  clear K4 hb x0 x1
  have K5 := Blocks_V (some ⟨gi, 0, none⟩) bi ni ci mi di _ ri S nm v4 IIN.out.1 HR.out
  have HBS : Hid ((Vo.blocksR S nm).1.length ≤ 1000) := Lib.hid (by have := blocks_small HR.out nm; omega)
  have x0 := XIN.out.c 0 _ rfl; have x1 := XIN.out.c 1 _ rfl
  obtain ⟨BR, hBR⟩ : ∃ BR, Vo.blocksR S nm = BR := ⟨_, rfl⟩
  rw [hBR] at K5 HBS
  obtain ⟨idl, BE⟩ := BR
  dsimp only at HBS
  clear hBR
  go_wp2_with fail
  with_reducible refine K5.mono ?_
  rintro e v5 ⟨aI, nI, cI, rfl, ho, hl, hb⟩
  dsimp only at ho hl
  have HZ5 : Hid (v4.heap.size ≤ v5.heap.size) := Lib.hid hb.size
  replace HB := Lib.hid (HB.out.trans (hb.mono HB.out.size))
  replace XP := Lib.hid (XP.out.on hb)
  replace IST := Lib.hid (IST.out.keep hb)
  replace XST := Lib.hid (XST.out.on hb)
  replace IIN := Lib.hid (IIN.out.keep hb)
  replace MIN := Lib.hid (MIN.out.on hb)
  replace RIN := Lib.hid (fun r hr => (RIN.out r hr).blk (fun g _ hl => hb.block g hl))
  replace XIN := Lib.hid (XIN.out.on hb)
  have OID := Lib.hid ho; have HLI := Lib.hid hl; have BID : Hid (Betw v4.heap.size v5.heap.size [.slice aI nI cI]) := Lib.hid (own_betw ho)
  have HNI : Hid (nI ≤ 1000) := Lib.hid (by have := HBS.out; omega)
  clear K5 ho hl hb x0 x1
  have K6 := Make_V (some ⟨gi, 0, none⟩) bi ni ci mi di _ ri S to_ 3 v5 IIN.out.1 HR.out HTO.out
  have RA : Hid (Vo.Right (Vo.makeR S to_ 3).s) := Lib.hid (Vo.make_right HR.out to_ 3)
  generalize Vo.makeR S to_ 3 = qA at K6 RA
  have x0 := XIN.out.c 0 _ rfl; have x1 := XIN.out.c 1 _ rfl
  go_wp2_with fail
  with_reducible refine K6.mono ?_
  rintro e v6 ⟨aA, nA, cA, bA, mA, dA, rA, rfl, hs, hb⟩
  have HZ6 : Hid (v5.heap.size ≤ v6.heap.size) := Lib.hid (by have h := hb.size; (try rw [World.size_alloc] at h); omega)
  replace HB := Lib.hid (HB.out.trans (hb.mono HB.out.size))
  replace XP := Lib.hid (XP.out.on hb)
  replace IST := Lib.hid (IST.out.keep hb)
  replace XST := Lib.hid (XST.out.on hb)
  replace IIN := Lib.hid (IIN.out.keep hb)
  replace MIN := Lib.hid (MIN.out.on hb)
  replace RIN := Lib.hid (fun r hr => (RIN.out r hr).blk (fun g _ hl => hb.block g hl))
  replace XIN := Lib.hid (XIN.out.on hb)
  replace OID := Lib.hid (own_keep OID.out hb)
  have IA := Lib.hid (StW.lies hs)
  clear K6 hs hb x0 x1
  have hal := (Below.refl v6.heap.size v6).alloc (Nat.le_refl _) (.cells #[.slice aA nA cA, .slice bA mA dA] 53)
  replace HB := Lib.hid (HB.out.trans (hal.mono HB.out.size))
  replace XP := Lib.hid (XP.out.on hal)
  replace IST := Lib.hid (IST.out.keep hal)
  replace XST := Lib.hid (XST.out.on hal)
  replace IIN := Lib.hid (IIN.out.keep hal)
  replace MIN := Lib.hid (MIN.out.on hal)
  replace RIN := Lib.hid (fun r hr => (RIN.out r hr).blk (fun g _ hl => hal.block g hl))
  replace XIN := Lib.hid (XIN.out.on hal)
  replace OID := Lib.hid (own_keep OID.out hal)
  replace IA := Lib.hid (IA.out.keep hal)
  have XA := Lib.hid (bxs_new v6 53 #[.slice aA nA cA, .slice bA mA dA] [.slice aA nA cA, .slice bA mA dA] rfl)
  have K7 := Drop_V (some ⟨gi, 0, none⟩) bi ni ci mi di _ ri S nm (v6.alloc (.cells #[.slice aA nA cA, .slice bA mA dA] 53)) IIN.out.1 HR.out
  have RB : Hid (Vo.Right (Vo.dropR S nm).s) := Lib.hid (Vo.drop_right HR.out nm)
  generalize Vo.dropR S nm = qB at K7 RB
  have x0 := XIN.out.c 0 _ rfl; have x1 := XIN.out.c 1 _ rfl
  clear hal
  go_wp2_with fail
  with_reducible refine K7.mono ?_
  rintro e v7 ⟨aB, nB, cB, bB, mB, dB, rB, rfl, hs, hb⟩
  have HZ7 : Hid (v6.heap.size < v7.heap.size) := Lib.hid (by have h := hb.size; (try rw [World.size_alloc] at h); omega)
  replace HB := Lib.hid (HB.out.trans (hb.mono HB.out.size))
  replace XP := Lib.hid (XP.out.on hb)
  replace IST := Lib.hid (IST.out.keep hb)
  replace XST := Lib.hid (XST.out.on hb)
  replace IIN := Lib.hid (IIN.out.keep hb)
  replace MIN := Lib.hid (MIN.out.on hb)
  replace RIN := Lib.hid (fun r hr => (RIN.out r hr).blk (fun g _ hl => hb.block g hl))
  replace XIN := Lib.hid (XIN.out.on hb)
  replace OID := Lib.hid (own_keep OID.out hb)
  replace IA := Lib.hid (IA.out.keep hb)
  replace XA := Lib.hid (XA.out.on hb)
  have hs := hs.low (base' := v6.heap.size) (by rw [World.size_alloc]; omega)
  have IB := Lib.hid (StW.lies hs)
  clear K7 hs hb x0 x1
  have hal := (Below.refl v7.heap.size v7).alloc (Nat.le_refl _) (.cells #[.slice aB nB cB, .slice bB mB dB] 53)
  replace HB := Lib.hid (HB.out.trans (hal.mono HB.out.size))
  replace XP := Lib.hid (XP.out.on hal)
  replace IST := Lib.hid (IST.out.keep hal)
  replace XST := Lib.hid (XST.out.on hal)
  replace IIN := Lib.hid (IIN.out.keep hal)
  replace MIN := Lib.hid (MIN.out.on hal)
  replace RIN := Lib.hid (fun r hr => (RIN.out r hr).blk (fun g _ hl => hal.block g hl))
  replace XIN := Lib.hid (XIN.out.on hal)
  replace OID := Lib.hid (own_keep OID.out hal)
  replace IA := Lib.hid (IA.out.keep hal)
  replace XA := Lib.hid (XA.out.on hal)
  replace IB := Lib.hid (IB.out.keep hal)
  have XB := Lib.hid (bxs_new v7 53 #[.slice aB nB cB, .slice bB mB dB] [.slice aB nB cB, .slice bB mB dB] rfl)
  have K8 := Trim_V (some ⟨gi, 0, none⟩) bi ni ci mi di _ ri S nm qi (v7.alloc (.cells #[.slice aB nB cB, .slice bB mB dB] 53)) IIN.out.1 HR.out
  have RC : Hid (Vo.Right (Vo.trimR S nm qi).s) := Lib.hid (Vo.trim_right HR.out nm qi)
  generalize Vo.trimR S nm qi = qC at K8 RC
  have x0 := XIN.out.c 0 _ rfl; have x1 := XIN.out.c 1 _ rfl
  clear hal
  go_wp2_with fail
  with_reducible refine K8.mono ?_
  rintro e v8 ⟨aC, nC, cC, bC, mC, dC, rC, rfl, hs, hb⟩
  have HZ8 : Hid (v7.heap.size < v8.heap.size) := Lib.hid (by have h := hb.size; (try rw [World.size_alloc] at h); omega)
  replace HB := Lib.hid (HB.out.trans (hb.mono HB.out.size))
  replace XP := Lib.hid (XP.out.on hb)
  replace IST := Lib.hid (IST.out.keep hb)
  replace XST := Lib.hid (XST.out.on hb)
  replace IIN := Lib.hid (IIN.out.keep hb)
  replace MIN := Lib.hid (MIN.out.on hb)
  replace RIN := Lib.hid (fun r hr => (RIN.out r hr).blk (fun g _ hl => hb.block g hl))
  replace XIN := Lib.hid (XIN.out.on hb)
  replace OID := Lib.hid (own_keep OID.out hb)
  replace IA := Lib.hid (IA.out.keep hb)
  replace XA := Lib.hid (XA.out.on hb)
  replace IB := Lib.hid (IB.out.keep hb)
  replace XB := Lib.hid (XB.out.on hb)
  have hs := hs.low (base' := v7.heap.size) (by rw [World.size_alloc]; omega)
  have IC := Lib.hid (StW.lies hs)
  clear K8 hs hb x0 x1
  have hal := (Below.refl v8.heap.size v8).alloc (Nat.le_refl _) (.cells #[.slice aC nC cC, .slice bC mC dC] 53)
  replace HB := Lib.hid (HB.out.trans (hal.mono HB.out.size))
  replace XP := Lib.hid (XP.out.on hal)
  replace IST := Lib.hid (IST.out.keep hal)
  replace XST := Lib.hid (XST.out.on hal)
  replace IIN := Lib.hid (IIN.out.keep hal)
  replace MIN := Lib.hid (MIN.out.on hal)
  replace RIN := Lib.hid (fun r hr => (RIN.out r hr).blk (fun g _ hl => hal.block g hl))
  replace XIN := Lib.hid (XIN.out.on hal)
  replace OID := Lib.hid (own_keep OID.out hal)
  replace IA := Lib.hid (IA.out.keep hal)
  replace XA := Lib.hid (XA.out.on hal)
  replace IB := Lib.hid (IB.out.keep hal)
  replace XB := Lib.hid (XB.out.on hal)
  replace IC := Lib.hid (IC.out.keep hal)
  have XC := Lib.hid (bxs_new v8 53 #[.slice aC nC cC, .slice bC mC dC] [.slice aC nC cC, .slice bC mC dC] rfl)
  have K9 := Write_V (some ⟨gi, 0, none⟩) bi ni ci mi di _ ri S nm tx qi (v8.alloc (.cells #[.slice aC nC cC, .slice bC mC dC] 53)) IIN.out.1 HR.out HTX.out
  have RD : Hid (Vo.Right (Vo.writeR S nm qi tx).s) := Lib.hid (Vo.vwrite_right HR.out nm qi tx)
  generalize Vo.writeR S nm qi tx = qD at K9 RD
  have x0 := XIN.out.c 0 _ rfl; have x1 := XIN.out.c 1 _ rfl
  clear hal
  go_wp2_with fail
  with_reducible refine K9.mono ?_
  rintro e v9 ⟨aD, nD, cD, bD, mD, dD, rD, rfl, hs, hb⟩
  have HZ9 : Hid (v8.heap.size < v9.heap.size) := Lib.hid (by have h := hb.size; (try rw [World.size_alloc] at h); omega)
  replace HB := Lib.hid (HB.out.trans (hb.mono HB.out.size))
  replace XP := Lib.hid (XP.out.on hb)
  replace IST := Lib.hid (IST.out.keep hb)
  replace XST := Lib.hid (XST.out.on hb)
  replace IIN := Lib.hid (IIN.out.keep hb)
  replace MIN := Lib.hid (MIN.out.on hb)
  replace RIN := Lib.hid (fun r hr => (RIN.out r hr).blk (fun g _ hl => hb.block g hl))
  replace XIN := Lib.hid (XIN.out.on hb)
  replace OID := Lib.hid (own_keep OID.out hb)
  replace IA := Lib.hid (IA.out.keep hb)
  replace XA := Lib.hid (XA.out.on hb)
  replace IB := Lib.hid (IB.out.keep hb)
  replace XB := Lib.hid (XB.out.on hb)
  replace IC := Lib.hid (IC.out.keep hb)
  replace XC := Lib.hid (XC.out.on hb)
  have hs := hs.low (base' := v8.heap.size) (by rw [World.size_alloc]; omega)
  have ID := Lib.hid (StW.lies hs)
  clear K9 hs hb x0 x1
  have hal := (Below.refl v9.heap.size v9).alloc (Nat.le_refl _) (.cells #[.slice aD nD cD, .slice bD mD dD] 53)
  replace HB := Lib.hid (HB.out.trans (hal.mono HB.out.size))
  replace XP := Lib.hid (XP.out.on hal)
  replace IST := Lib.hid (IST.out.keep hal)
  replace XST := Lib.hid (XST.out.on hal)
  replace IIN := Lib.hid (IIN.out.keep hal)
  replace MIN := Lib.hid (MIN.out.on hal)
  replace RIN := Lib.hid (fun r hr => (RIN.out r hr).blk (fun g _ hl => hal.block g hl))
  replace XIN := Lib.hid (XIN.out.on hal)
  replace OID := Lib.hid (own_keep OID.out hal)
  replace IA := Lib.hid (IA.out.keep hal)
  replace XA := Lib.hid (XA.out.on hal)
  replace IB := Lib.hid (IB.out.keep hal)
  replace XB := Lib.hid (XB.out.on hal)
  replace IC := Lib.hid (IC.out.keep hal)
  replace XC := Lib.hid (XC.out.on hal)
  replace ID := Lib.hid (ID.out.keep hal)
  have XD := Lib.hid (bxs_new v9 53 #[.slice aD nD cD, .slice bD mD dD] [.slice aD nD cD, .slice bD mD dD] rfl)
  have K10 := Clone_V (some ⟨gi, 0, none⟩) bi ni ci mi di _ ri S nm to_ (v9.alloc (.cells #[.slice aD nD cD, .slice bD mD dD] 53)) IIN.out.1 HR.out HTO.out
  have RE : Hid (Vo.Right (Vo.cloneR S nm to_).s) := Lib.hid (Vo.clone_right HR.out nm to_)
  generalize Vo.cloneR S nm to_ = qE at K10 RE
  have x0 := XIN.out.c 0 _ rfl; have x1 := XIN.out.c 1 _ rfl
  clear hal
  go_wp2_with fail
  with_reducible refine K10.mono ?_
  rintro e v10 ⟨aE, nE, cE, bE, mE, dE, rE, rfl, hs, hb⟩
  have HZ10 : Hid (v9.heap.size < v10.heap.size) := Lib.hid (by have h := hb.size; (try rw [World.size_alloc] at h); omega)
  replace HB := Lib.hid (HB.out.trans (hb.mono HB.out.size))
  replace XP := Lib.hid (XP.out.on hb)
  replace IST := Lib.hid (IST.out.keep hb)
  replace XST := Lib.hid (XST.out.on hb)
  replace IIN := Lib.hid (IIN.out.keep hb)
  replace MIN := Lib.hid (MIN.out.on hb)
  replace RIN := Lib.hid (fun r hr => (RIN.out r hr).blk (fun g _ hl => hb.block g hl))
  replace XIN := Lib.hid (XIN.out.on hb)
  replace OID := Lib.hid (own_keep OID.out hb)
  replace IA := Lib.hid (IA.out.keep hb)
  replace XA := Lib.hid (XA.out.on hb)
  replace IB := Lib.hid (IB.out.keep hb)
  replace XB := Lib.hid (XB.out.on hb)
  replace IC := Lib.hid (IC.out.keep hb)
  replace XC := Lib.hid (XC.out.on hb)
  replace ID := Lib.hid (ID.out.keep hb)
  replace XD := Lib.hid (XD.out.on hb)
  have hs := hs.low (base' := v9.heap.size) (by rw [World.size_alloc]; omega)
  have IE := Lib.hid (StW.lies hs)
  clear K10 hs hb x0 x1
  have hal := (Below.refl v10.heap.size v10).alloc (Nat.le_refl _) (.cells #[.slice aE nE cE, .slice bE mE dE] 53)
  replace HB := Lib.hid (HB.out.trans (hal.mono HB.out.size))
  replace XP := Lib.hid (XP.out.on hal)
  replace IST := Lib.hid (IST.out.keep hal)
  replace XST := Lib.hid (XST.out.on hal)
  replace IIN := Lib.hid (IIN.out.keep hal)
  replace MIN := Lib.hid (MIN.out.on hal)
  replace RIN := Lib.hid (fun r hr => (RIN.out r hr).blk (fun g _ hl => hal.block g hl))
  replace XIN := Lib.hid (XIN.out.on hal)
  replace OID := Lib.hid (own_keep OID.out hal)
  replace IA := Lib.hid (IA.out.keep hal)
  replace XA := Lib.hid (XA.out.on hal)
  replace IB := Lib.hid (IB.out.keep hal)
  replace XB := Lib.hid (XB.out.on hal)
  replace IC := Lib.hid (IC.out.keep hal)
  replace XC := Lib.hid (XC.out.on hal)
  replace ID := Lib.hid (ID.out.keep hal)
  replace XD := Lib.hid (XD.out.on hal)
  replace IE := Lib.hid (IE.out.keep hal)
  have XE := Lib.hid (bxs_new v10 53 #[.slice aE nE cE, .slice bE mE dE] [.slice aE nE cE, .slice bE mE dE] rfl)
  have K11 := Copy_V (some ⟨gi, 0, none⟩) bi ni ci mi di _ ri S nm nm none 0 0 0 [] (v10.alloc (.cells #[.slice aE nE cE, .slice bE mE dE] 53)) IIN.out.1 HR.out (World.ownsRow_nil _ _ _ _) (Nat.zero_le _)
  have RF : Hid (Vo.Right (Vo.copyR S nm nm []).s) := Lib.hid (copyR_right HR.out nm nm [])
  generalize Vo.copyR S nm nm [] = qF at K11 RF
  have x0 := XIN.out.c 0 _ rfl; have x1 := XIN.out.c 1 _ rfl
  clear hal
  go_wp2_with fail
  with_reducible refine K11.mono ?_
  rintro e v11 ⟨aF, nF, cF, bF, mF, dF, rF, rfl, hs, hb⟩
  have HZ11 : Hid (v10.heap.size < v11.heap.size) := Lib.hid (by have h := hb.size; (try rw [World.size_alloc] at h); omega)
  replace HB := Lib.hid (HB.out.trans (hb.mono HB.out.size))
  replace XP := Lib.hid (XP.out.on hb)
  replace IST := Lib.hid (IST.out.keep hb)
  replace XST := Lib.hid (XST.out.on hb)
  replace IIN := Lib.hid (IIN.out.keep hb)
  replace MIN := Lib.hid (MIN.out.on hb)
  replace RIN := Lib.hid (fun r hr => (RIN.out r hr).blk (fun g _ hl => hb.block g hl))
  replace XIN := Lib.hid (XIN.out.on hb)
  replace OID := Lib.hid (own_keep OID.out hb)
  replace IA := Lib.hid (IA.out.keep hb)
  replace XA := Lib.hid (XA.out.on hb)
  replace IB := Lib.hid (IB.out.keep hb)
  replace XB := Lib.hid (XB.out.on hb)
  replace IC := Lib.hid (IC.out.keep hb)
  replace XC := Lib.hid (XC.out.on hb)
  replace ID := Lib.hid (ID.out.keep hb)
  replace XD := Lib.hid (XD.out.on hb)
  replace IE := Lib.hid (IE.out.keep hb)
  replace XE := Lib.hid (XE.out.on hb)
  have hs := hs.low (base' := v10.heap.size) (by rw [World.size_alloc]; omega)
  have IF := Lib.hid (StW.lies hs)
  clear K11 hs hb x0 x1
  have hal := (Below.refl v11.heap.size v11).alloc (Nat.le_refl _) (.cells #[.slice aF nF cF, .slice bF mF dF] 53)
  replace HB := Lib.hid (HB.out.trans (hal.mono HB.out.size))
  replace XP := Lib.hid (XP.out.on hal)
  replace IST := Lib.hid (IST.out.keep hal)
  replace XST := Lib.hid (XST.out.on hal)
  replace IIN := Lib.hid (IIN.out.keep hal)
  replace MIN := Lib.hid (MIN.out.on hal)
  replace RIN := Lib.hid (fun r hr => (RIN.out r hr).blk (fun g _ hl => hal.block g hl))
  replace XIN := Lib.hid (XIN.out.on hal)
  replace OID := Lib.hid (own_keep OID.out hal)
  replace IA := Lib.hid (IA.out.keep hal)
  replace XA := Lib.hid (XA.out.on hal)
  replace IB := Lib.hid (IB.out.keep hal)
  replace XB := Lib.hid (XB.out.on hal)
  replace IC := Lib.hid (IC.out.keep hal)
  replace XC := Lib.hid (XC.out.on hal)
  replace ID := Lib.hid (ID.out.keep hal)
  replace XD := Lib.hid (XD.out.on hal)
  replace IE := Lib.hid (IE.out.keep hal)
  replace XE := Lib.hid (XE.out.on hal)
  replace IF := Lib.hid (IF.out.keep hal)
  have XF := Lib.hid (bxs_new v11 53 #[.slice aF nF cF, .slice bF mF dF] [.slice aF nF cF, .slice bF mF dF] rfl)
  have K12 := Do_V (some ⟨gi, 0, none⟩) bi ni ci mi di _ ri S o (v11.alloc (.cells #[.slice aF nF cF, .slice bF mF dF] 53)) IIN.out.1 HR.out HO1.out HO2.out HO3.out
  have RG : Hid (Vo.Right (Vo.doR S o).s) := Lib.hid (Vo.do_right HR.out o)
  generalize Vo.doR S o = qG at K12 RG
  have x0 := XIN.out.c 0 _ rfl; have x1 := XIN.out.c 1 _ rfl
  have p0 := XP.out.c 0 _ rfl; have p1 := XP.out.c 1 _ rfl; have p2 := XP.out.c 2 _ rfl; have p3 := XP.out.c 3 _ rfl; have p4 := XP.out.c 4 _ rfl
  clear hal
  go_wp2_with fail
  with_reducible refine K12.mono ?_
  rintro e v12 ⟨aG, nG, cG, bG, mG, dG, rG, rfl, hs, hb⟩
  have HZ12 : Hid (v11.heap.size < v12.heap.size) := Lib.hid (by have h := hb.size; (try rw [World.size_alloc] at h); omega)
  replace HB := Lib.hid (HB.out.trans (hb.mono HB.out.size))
  replace XP := Lib.hid (XP.out.on hb)
  replace IST := Lib.hid (IST.out.keep hb)
  replace XST := Lib.hid (XST.out.on hb)
  replace IIN := Lib.hid (IIN.out.keep hb)
  replace MIN := Lib.hid (MIN.out.on hb)
  replace RIN := Lib.hid (fun r hr => (RIN.out r hr).blk (fun g _ hl => hb.block g hl))
  replace XIN := Lib.hid (XIN.out.on hb)
  replace OID := Lib.hid (own_keep OID.out hb)
  replace IA := Lib.hid (IA.out.keep hb)
  replace XA := Lib.hid (XA.out.on hb)
  replace IB := Lib.hid (IB.out.keep hb)
  replace XB := Lib.hid (XB.out.on hb)
  replace IC := Lib.hid (IC.out.keep hb)
  replace XC := Lib.hid (XC.out.on hb)
  replace ID := Lib.hid (ID.out.keep hb)
  replace XD := Lib.hid (XD.out.on hb)
  replace IE := Lib.hid (IE.out.keep hb)
  replace XE := Lib.hid (XE.out.on hb)
  replace IF := Lib.hid (IF.out.keep hb)
  replace XF := Lib.hid (XF.out.on hb)
  have hs := hs.low (base' := v11.heap.size) (by rw [World.size_alloc]; omega)
  have IG := Lib.hid (StW.lies hs)
  clear K12 hs hb x0 x1 p0 p1 p2 p3 p4
  have hal := (Below.refl v12.heap.size v12).alloc (Nat.le_refl _) (.cells #[.slice aG nG cG, .slice bG mG dG] 53)
  replace HB := Lib.hid (HB.out.trans (hal.mono HB.out.size))
  replace XP := Lib.hid (XP.out.on hal)
  replace IST := Lib.hid (IST.out.keep hal)
  replace XST := Lib.hid (XST.out.on hal)
  replace IIN := Lib.hid (IIN.out.keep hal)
  replace MIN := Lib.hid (MIN.out.on hal)
  replace RIN := Lib.hid (fun r hr => (RIN.out r hr).blk (fun g _ hl => hal.block g hl))
  replace XIN := Lib.hid (XIN.out.on hal)
  replace OID := Lib.hid (own_keep OID.out hal)
  replace IA := Lib.hid (IA.out.keep hal)
  replace XA := Lib.hid (XA.out.on hal)
  replace IB := Lib.hid (IB.out.keep hal)
  replace XB := Lib.hid (XB.out.on hal)
  replace IC := Lib.hid (IC.out.keep hal)
  replace XC := Lib.hid (XC.out.on hal)
  replace ID := Lib.hid (ID.out.keep hal)
  replace XD := Lib.hid (XD.out.on hal)
  replace IE := Lib.hid (IE.out.keep hal)
  replace XE := Lib.hid (XE.out.on hal)
  replace IF := Lib.hid (IF.out.keep hal)
  replace XF := Lib.hid (XF.out.on hal)
  replace IG := Lib.hid (IG.out.keep hal)
  have XG := Lib.hid (bxs_new v12 53 #[.slice aG nG cG, .slice bG mG dG] [.slice aG nG cG, .slice bG mG dG] rfl)
  clear XP
  have K13 := Same_V (some ⟨gi, 0, none⟩) a bi b ni ci mi di ni c mi d _ _ ri rs S (v12.alloc (.cells #[.slice aG nG cG, .slice bG mG dG] 53)) IIN.out.1 IST.out.1 HR.out
  clear hal
  have x0 := XIN.out.c 0 _ rfl; have x1 := XIN.out.c 1 _ rfl; have y0 := XST.out.c 0 _ rfl; have y1 := XST.out.c 1 _ rfl
  go_wp2_with fail
  with_reducible refine K13.mono ?_
  rintro e v13 ⟨rfl, hb⟩
  have HZ13 : Hid (v12.heap.size < v13.heap.size) := Lib.hid (by have h := hb.size; rw [World.size_alloc] at h; omega)
  replace HB := Lib.hid (HB.out.trans (hb.mono HB.out.size))
  replace IST := Lib.hid (IST.out.keep hb)
  replace XST := Lib.hid (XST.out.on hb)
  replace IIN := Lib.hid (IIN.out.keep hb)
  replace MIN := Lib.hid (MIN.out.on hb)
  replace RIN := Lib.hid (fun r hr => (RIN.out r hr).blk (fun g _ hl => hb.block g hl))
  replace XIN := Lib.hid (XIN.out.on hb)
  replace OID := Lib.hid (own_keep OID.out hb)
  replace IA := Lib.hid (IA.out.keep hb)
  replace XA := Lib.hid (XA.out.on hb)
  replace IB := Lib.hid (IB.out.keep hb)
  replace XB := Lib.hid (XB.out.on hb)
  replace IC := Lib.hid (IC.out.keep hb)
  replace XC := Lib.hid (XC.out.on hb)
  replace ID := Lib.hid (ID.out.keep hb)
  replace XD := Lib.hid (XD.out.on hb)
  replace IE := Lib.hid (IE.out.keep hb)
  replace XE := Lib.hid (XE.out.on hb)
  replace IF := Lib.hid (IF.out.keep hb)
  replace XF := Lib.hid (XF.out.on hb)
  replace IG := Lib.hid (IG.out.keep hb)
  replace XG := Lib.hid (XG.out.on hb)
  clear K13 hb x0 x1 y0 y1
  have K14 := marked_I gi ni ci 0 77 0 ⟨#[]⟩ S.bag v13 MIN.out IIN.out.1.len HCI.out (by have := HNS.out; omega)
  clear XST IST MIN
  have x0 := XIN.out.c 0 _ rfl
  go_wp2_with fail
  with_reducible refine K14.mono ?_
  rintro e v14 ⟨rfl, hb⟩
  have HZ14 : Hid (v13.heap.size ≤ v14.heap.size) := Lib.hid hb.size
  replace HB := Lib.hid (HB.out.trans (hb.mono HB.out.size))
  replace IIN := Lib.hid (IIN.out.keep hb)
  replace RIN := Lib.hid (fun r hr => (RIN.out r hr).blk (fun g _ hl => hb.block g hl))
  replace XIN := Lib.hid (XIN.out.on hb)
  replace OID := Lib.hid (own_keep OID.out hb)
  replace IA := Lib.hid (IA.out.keep hb)
  replace XA := Lib.hid (XA.out.on hb)
  replace IB := Lib.hid (IB.out.keep hb)
  replace XB := Lib.hid (XB.out.on hb)
  replace IC := Lib.hid (IC.out.keep hb)
  replace XC := Lib.hid (XC.out.on hb)
  replace ID := Lib.hid (ID.out.keep hb)
  replace XD := Lib.hid (XD.out.on hb)
  replace IE := Lib.hid (IE.out.keep hb)
  replace XE := Lib.hid (XE.out.on hb)
  replace IF := Lib.hid (IF.out.keep hb)
  replace XF := Lib.hid (XF.out.on hb)
  replace IG := Lib.hid (IG.out.keep hb)
  replace XG := Lib.hid (XG.out.on hb)
  clear K14 hb x0
  have x1 := XIN.out.c 1 _ rfl
  have HRL : Hid (ri.length = mi) := Lib.hid IIN.out.1.rlen
  go_wp2_with fail
  clear x1
  go_loopw [117] (fun v wr => ∃ k : Nat, k ≤ mi ∧ v = .int .i64 k ∧ Hid (Below v14.heap.size v14 wr)) (fun v _ => mi - (intOf v).toNat)
  case atStart => exact ⟨0, Nat.zero_le _, rfl, Lib.hid (Below.refl _ _)⟩
  case round =>
    obtain ⟨k, hk, rfl, HP⟩ := hrel
    by_cases hlt : k < mi
    · have hm6 := HMS.out
      have hkr : k < ri.length := by rw [HRL.out]; exact hlt
      obtain ⟨g, rfl, hg, c0, c1⟩ := rv_at (own_keep IIN.out.1.row HP.out) hkr
      obtain ⟨g2, xs, hra, hrc, hxl, hrm⟩ := RIN.out ri[k] (List.getElem_mem hkr)
      have hn1 : ri[k].n ≤ 1000 := by
        obtain ⟨-, -, e3⟩ := IIN.out.1.vol k ri[k] (S.vols[k]'(by rw [IIN.out.1.vlen]; exact hlt)) (List.getElem?_eq_getElem hkr) (List.getElem?_eq_getElem _)
        rw [← e3]
        exact HID.out _ (List.getElem_mem _)
      have hb := (Below.refl wr.heap.size wr).alloc (Nat.le_refl _) (.cells #[.string ri[k].name, .slice ri[k].a ri[k].n ri[k].c] 59)
      have K2 := marked_Id g2 ri[k].n ri[k].c false 0 78 xs _ ((hrm.blk (HP.out.block _ hrm.lt)).blk (hb.block _ (Nat.lt_of_lt_of_le hrm.lt HP.out.size))) hxl hrc (by omega)
      have HPB := Lib.hid (HP.out.trans (hb.mono HP.out.size))
      rw [hra] at c1 K2 HPB
      clear hb hrc hn1 hrm hxl
      generalize ri[k].name = kn at *
      generalize ri[k].n = k1 at *
      generalize ri[k].c = k2 at *
      clear hra
      go_wp2_with fail
      with_reducible refine K2.mono ?_
      rintro e w2 ⟨rfl, hg2⟩
      have HP2 := Lib.hid (HPB.out.trans (hg2.mono HPB.out.size))
      clear K2 hg2 c0 c1
      go_wp2_with fail
      go_roundw
      case rel => exact ⟨k + 1, hlt, by go_num, HP2⟩
      case measure => simp [intOf]; omega
    · obtain rfl : mi = k := by omega
      clear hlt hk
      have hb := HP.out
      clear HP
      generalize wr = W1 at *
      have HZ15 : Hid (v14.heap.size ≤ W1.heap.size) := Lib.hid hb.size
      clear RIN
      replace HB := Lib.hid (HB.out.trans (hb.mono HB.out.size))
      replace IIN := Lib.hid (IIN.out.keep hb)
      replace XIN := Lib.hid (XIN.out.on hb)
      replace OID := Lib.hid (own_keep OID.out hb)
      replace IA := Lib.hid (IA.out.keep hb)
      replace XA := Lib.hid (XA.out.on hb)
      replace IB := Lib.hid (IB.out.keep hb)
      replace XB := Lib.hid (XB.out.on hb)
      replace IC := Lib.hid (IC.out.keep hb)
      replace XC := Lib.hid (XC.out.on hb)
      replace ID := Lib.hid (ID.out.keep hb)
      replace XD := Lib.hid (XD.out.on hb)
      replace IE := Lib.hid (IE.out.keep hb)
      replace XE := Lib.hid (XE.out.on hb)
      replace IF := Lib.hid (IF.out.keep hb)
      replace XF := Lib.hid (XF.out.on hb)
      replace IG := Lib.hid (IG.out.keep hb)
      replace XG := Lib.hid (XG.out.on hb)
      clear hb
      have a0 := XA.out.c 0 _ rfl; have a1 := XA.out.c 1 _ rfl
      have b0 := XB.out.c 0 _ rfl; have b1 := XB.out.c 1 _ rfl
      have c0 := XC.out.c 0 _ rfl; have c1 := XC.out.c 1 _ rfl
      have d0 := XD.out.c 0 _ rfl; have d1 := XD.out.c 1 _ rfl
      have e0 := XE.out.c 0 _ rfl; have e1 := XE.out.c 1 _ rfl
      have f0 := XF.out.c 0 _ rfl; have f1 := XF.out.c 1 _ rfl
      have g0 := XG.out.c 0 _ rfl; have g1 := XG.out.c 1 _ rfl
      go_wp2_with fail
      clear a0 a1 b0 b1 c0 c1 d0 d1 e0 e1 f0 f1 g0 g1
      clear XA XB XC XD XE XF XG
      have hal := (Below.refl W1.heap.size W1).alloc (Nat.le_refl _) (.cells #[.slice aA nA cA, .slice bA mA dA, .slice aB nB cB, .slice bB mB dB, .slice aC nC cC, .slice bC mC dC, .slice aD nD cD, .slice bD mD dD, .slice aE nE cE, .slice bE mE dE, .slice aF nF cF, .slice bF mF dF, .slice aG nG cG, .slice bG mG dG] 53)
      replace HB := Lib.hid (HB.out.trans (hal.mono HB.out.size))
      replace IIN := Lib.hid (IIN.out.keep hal)
      replace XIN := Lib.hid (XIN.out.on hal)
      replace OID := Lib.hid (own_keep OID.out hal)
      replace IA := Lib.hid (IA.out.keep hal)
      replace IB := Lib.hid (IB.out.keep hal)
      replace IC := Lib.hid (IC.out.keep hal)
      replace ID := Lib.hid (ID.out.keep hal)
      replace IE := Lib.hid (IE.out.keep hal)
      replace IF := Lib.hid (IF.out.keep hal)
      replace IG := Lib.hid (IG.out.keep hal)
      obtain ⟨xs, hxs⟩ : ∃ xs : List Sx, xs = [⟨aA, nA, cA, bA, mA, dA, rA⟩, ⟨aB, nB, cB, bB, mB, dB, rB⟩, ⟨aC, nC, cC, bC, mC, dC, rC⟩, ⟨aD, nD, cD, bD, mD, dD, rD⟩, ⟨aE, nE, cE, bE, mE, dE, rE⟩, ⟨aF, nF, cF, bF, mF, dF, rF⟩, ⟨aG, nG, cG, bG, mG, dG, rG⟩] := ⟨_, rfl⟩
      obtain ⟨ys, hys⟩ : ∃ ys : List Sy, ys = [⟨⟨aA, nA, cA, bA, mA, dA, rA⟩, qA.s, v5.heap.size, v6.heap.size⟩, ⟨⟨aB, nB, cB, bB, mB, dB, rB⟩, qB.s, v6.heap.size, v7.heap.size⟩, ⟨⟨aC, nC, cC, bC, mC, dC, rC⟩, qC.s, v7.heap.size, v8.heap.size⟩, ⟨⟨aD, nD, cD, bD, mD, dD, rD⟩, qD.s, v8.heap.size, v9.heap.size⟩, ⟨⟨aE, nE, cE, bE, mE, dE, rE⟩, qE.s, v9.heap.size, v10.heap.size⟩, ⟨⟨aF, nF, cF, bF, mF, dF, rF⟩, qF.s, v10.heap.size, v11.heap.size⟩, ⟨⟨aG, nG, cG, bG, mG, dG, rG⟩, qG.s, v11.heap.size, v12.heap.size⟩] := ⟨_, rfl⟩
      obtain ⟨Wa, hWa⟩ : ∃ Wa, W1.alloc (.cells #[.slice aA nA cA, .slice bA mA dA, .slice aB nB cB, .slice bB mB dB, .slice aC nC cC, .slice bC mC dC, .slice aD nD cD, .slice bD mD dD, .slice aE nE cE, .slice bE mE dE, .slice aF nF cF, .slice bF mF dF, .slice aG nG cG, .slice bG mG dG] 53) = Wa := ⟨_, rfl⟩
      rw [hWa] at HB IIN XIN OID IA IB IC ID IE IF IG
      have hyl : ys.length = 7 := by rw [hys]; rfl
      have RNG : Hid (Rng Wa ys) := Lib.hid (by
        rw [hys]
        refine ⟨?_, ?_⟩
        · simp only [List.forall_mem_cons]
          exact ⟨IA.out, IB.out, IC.out, ID.out, IE.out, IF.out, IG.out, fun y hy => by cases hy⟩
        · have := HZ6.out; have := HZ7.out; have := HZ8.out; have := HZ9.out; have := HZ10.out; have := HZ11.out; have := HZ12.out
          simp only [List.pairwise_cons, List.forall_mem_cons]
          refine ⟨⟨?_, ?_, ?_, ?_, ?_, ?_, ?_⟩, ⟨?_, ?_, ?_, ?_, ?_, ?_⟩, ⟨?_, ?_, ?_, ?_, ?_⟩, ⟨?_, ?_, ?_, ?_⟩, ⟨?_, ?_, ?_⟩, ⟨?_, ?_⟩, ?_, List.Pairwise.nil⟩
          all_goals first | omega | (intro y hy; cases hy))
      have RGT : Hid (∀ y ∈ ys, Vo.Right y.s) := Lib.hid (by
        rw [hys]
        simp only [List.forall_mem_cons]
        exact ⟨RA.out, RB.out, RC.out, RD.out, RE.out, RF.out, RG.out, fun y hy => by cases hy⟩)
      have YLO : Hid (∀ y ∈ ys, v5.heap.size ≤ y.lo ∧ y.hi ≤ v12.heap.size) := Lib.hid (by
        rw [hys]
        have := HZ6.out; have := HZ7.out; have := HZ8.out; have := HZ9.out; have := HZ10.out; have := HZ11.out; have := HZ12.out
        simp only [List.forall_mem_cons]
        refine ⟨?_, ?_, ?_, ?_, ?_, ?_, ?_, fun y hy => by cases hy⟩
        all_goals (constructor <;> omega))
      have OAL : Hid (Wa.ownsRow W1.heap.size 53 2 (.slice (some ⟨W1.heap.size, 0, none⟩) 7 7) 7 (xv (ys.map Sy.x))) := Lib.hid (by
        rw [hys, ← hWa]
        exact World.ownsRow_lit W1 #[.slice aA nA cA, .slice bA mA dA, .slice aB nB cB, .slice bB mB dB, .slice aC nC cC, .slice bC mC dC, .slice aD nD cD, .slice bD mD dD, .slice aE nE cE, .slice bE mE dE, .slice aF nF cF, .slice bF mF dF, .slice aG nG cG, .slice bG mG dG] 7 (Nat.le_refl _) (by unfold maxLen; decide) rfl)
      have HYL := Lib.hid hyl
      have HWA : Hid (W1.heap.size < Wa.heap.size) := Lib.hid (by rw [← hWa, World.size_alloc]; omega)
      rw [hWa]
      clear hal hxs xs hys hWa hyl IA RA IB RB IC RC ID RD IE RE IF RF IG RG
      skip
      obtain ⟨i0, hi0, hz0, hz1, hz2⟩ := info_parts Try.infoState
      go_loopw [35, 137] (fun v x wr => ∃ (k : Nat) (b5 : Option Addr) (d5 : Nat) (zs : List Sx), k ≤ 7 ∧ x = .int .i64 k ∧ v = .slice b5 k d5 ∧ Hid (Below Wa.heap.size Wa wr) ∧ Hid (wr.ownsRow Wa.heap.size 53 2 (.slice b5 k d5) k (xv zs)) ∧ Hid (zs.length = k ∧ ∀ (i : Nat) (z : Sx) (y : Sy), zs[i]? = some z → ys[i]? = some y → z.W wr Wa.heap.size y.s)) (fun _ x _ => 7 - (intOf x).toNat)
      case atStart => exact ⟨0, none, 0, [], Nat.zero_le _, rfl, rfl, Lib.hid (Below.refl _ _), Lib.hid (World.ownsRow_nil _ _ _ _), Lib.hid ⟨rfl, fun i z y h => by simp at h⟩⟩
      case round =>
        obtain ⟨k, b5, d5, zs, hk, rfl, rfl, HP, HW, HZ⟩ := hrel
        by_cases hlt : k < 7
        · have hky : k < ys.length := by rw [HYL.out]; exact hlt
          obtain ⟨y, hy⟩ : ∃ y, ys[k]? = some y := ⟨_, List.getElem?_eq_getElem hky⟩
          have hyx : (ys.map Sy.x)[k]? = some y.x := by rw [List.getElem?_map, hy]; rfl
          obtain ⟨g, hgg, hg, c0, c1⟩ := xv_at (own_keep OAL.out HP.out) hyx
          obtain rfl : W1.heap.size = g := by injection hgg with h; injection h
          have hym := List.mem_of_getElem? hy
          have hyR := RGT.out y hym
          have hIy := RNG.out.1 y hym
          have HYI := Lib.hid hy
          have hIw := hIy.1.keep HP.out
          have hm5 : y.x.m ≤ 6 := by have := hyR.len; rw [hIy.1.vlen] at this; omega
          have hn5 : y.x.n ≤ 64 := by have := hyR.bag.len; rw [hIy.1.len] at this; omega
          have hi5 : ∀ v ∈ y.s.vols, v.ids.length ≤ 1000 := fun v hv => by have := (hyR.vol v hv).len; omega
          have hb := (Below.refl wr.heap.size wr).alloc (Nat.le_refl _) (.cells #[.slice y.x.a y.x.n y.x.c, .slice y.x.b y.x.m y.x.d] 53)
          have K2 := copiedK_V y.x.a y.x.b y.x.n y.x.c y.x.m y.x.d _ y.x.rs y.s _ (hIw.keep hb) (by omega) (by omega) hi5
          have HB5 := Lib.hid hb
          have HPS := Lib.hid HP.out.size
          have hyS : ∃ ps, y.s = ps := ⟨_, rfl⟩
          obtain ⟨ps, hps⟩ := hyS
          rw [hps] at K2
          have HPY := Lib.hid hps
          clear hym hyR hIy hIw hm5 hn5 hi5 hb hyx hgg hg hky hps hy
          generalize y.x.a = f1 at *
          generalize y.x.n = f2 at *
          generalize y.x.c = f3 at *
          generalize y.x.b = f4 at *
          generalize y.x.m = f5 at *
          generalize y.x.d = f6 at *
          go_wp2_with fail
          with_reducible refine K2.mono ?_
          rintro e w2 ⟨e1, e2, e3, e4, e5, e6, er, rfl, hs, hb2, -, -⟩
          have hsz : wr.heap.size < w2.heap.size := by have h := hb2.size; rw [World.size_alloc] at h; omega
          have hq := HB5.out.trans (hb2.mono HB5.out.size)
          have HOO := Lib.hid ((own_keep HW.out hq).alloc (.cells #[.slice e1 e2 e3, .slice e4 e5 e6] 53))
          have H3 : Hid (∀ j u, [Value.slice e1 e2 e3, .slice e4 e5 e6][j]? = some u → (w2.alloc (.cells #[.slice e1 e2 e3, .slice e4 e5 e6] 53)).cell? ((⟨w2.heap.size, 0, none⟩ : Addr).add j) = some u) := Lib.hid fun j u hu => by
            rw [addr_lit, Nat.zero_add]
            exact cell_new w2 (k := j) (by simpa using hu)
          have H4 : Hid (∀ u ∈ [Value.slice e1 e2 e3, .slice e4 e5 e6], u.oneCell' = true) := Lib.hid (by simp [Value.oneCell'])
          have H5 : Hid (k + 1 ≤ maxLen ∧ (k + 1) * 48 ≤ 140737488355328) := Lib.hid ⟨by unfold maxLen; omega, by omega⟩
          have H6 : Hid (Wa.heap.size ≤ (w2.alloc (.cells #[.slice e1 e2 e3, .slice e4 e5 e6] 53)).heap.size) := Lib.hid (by have := HPS.out; rw [World.size_alloc]; omega)
          have HQ : Hid (Below wr.heap.size wr (w2.alloc (.cells #[.slice e1 e2 e3, .slice e4 e5 e6] 53))) := Lib.hid (hq.alloc hq.size _)
          have HSN : Hid (Sx.W ⟨e1, e2, e3, e4, e5, e6, er⟩ (w2.alloc (.cells #[.slice e1 e2 e3, .slice e4 e5 e6] 53)) Wa.heap.size ps) := Lib.hid ((hs.keep ((Below.refl w2.heap.size w2).alloc (Nat.le_refl _) _)).low (by have := HPS.out; rw [World.size_alloc]; omega))
          have HB2 := Lib.hid hb2
          clear hs hb2 hsz hq K2 c0 c1
          go_wp2_with (at_builtin; refine wpList_append_lies _ rfl _ _ _ rfl Wa.heap.size 53 i0 (.agg #[.slice none 0 0, .slice none 0 0]) 2 48 Try.underlying144 hi0 hz0 hz1 hz2 rfl (by decide) (.slice b5 k d5) k (xv zs) rfl HOO.out ⟨w2.heap.size, 0, none⟩ 1 1 [.slice e1 e2 e3, .slice e4 e5 e6] rfl rfl H3.out H4.out (by decide) H5.out.1 H5.out.2 H6.out _ rfl ?_)
          intro g6 cap6 w6 q1 q2 q3 q4
          have HBE : Hid (Below Wa.heap.size Wa w6) := Lib.hid ((HP.out.trans (HQ.out.mono HPS.out)).grown q2 H6.out (fun j e => row_base HOO.out j e))
          have HWE : Hid (w6.ownsRow Wa.heap.size 53 2 (.slice (some ⟨g6, 0, none⟩) (k + 1) cap6) (k + 1) (xv (zs ++ [⟨e1, e2, e3, e4, e5, e6, er⟩]))) := Lib.hid (by rw [xv_app]; exact q1)
          have HZE : Hid ((zs ++ [(⟨e1, e2, e3, e4, e5, e6, er⟩ : Sx)]).length = k + 1 ∧ ∀ (i : Nat) (z : Sx) (y : Sy), (zs ++ [(⟨e1, e2, e3, e4, e5, e6, er⟩ : Sx)])[i]? = some z → ys[i]? = some y → z.W w6 Wa.heap.size y.s) := Lib.hid ⟨by rw [List.length_append, HZ.out.1]; rfl, fun i z y' hz hy' => by
            by_cases hi : i < k
            · rw [List.getElem?_append_left (by rw [HZ.out.1]; exact hi)] at hz
              exact Sx.W.grow (x := z) (StW.keep (HZ.out.2 i z y' hz hy') HQ.out) HOO.out q2
            · have hik : i = k := by
                have := (List.getElem?_eq_some_iff.1 hz).1
                rw [List.length_append, HZ.out.1] at this
                simp at this
                omega
              subst hik
              rw [List.getElem?_append_right (by rw [HZ.out.1]; exact Nat.le_refl _), HZ.out.1, Nat.sub_self] at hz
              obtain rfl := Option.some.inj hz
              rw [HYI.out] at hy'
              obtain rfl := Option.some.inj hy'
              rw [HPY.out]
              exact HSN.out.grow HOO.out q2⟩
          clear q1 q2 q3 q4 HOO H3 H4 H5 H6 HQ HSN HB2 HB5
          go_wp2_with fail
          go_roundw
          case rel => exact ⟨k + 1, _, _, _, hlt, by go_num, rfl, HBE, HWE, HZE⟩
          case measure => simp [intOf]; omega
        · obtain rfl : k = 7 := by omega
          clear hlt hk
          generalize wr = W2 at *
          have hb := HP.out
          have HZ16 : Hid (Wa.heap.size ≤ W2.heap.size) := Lib.hid hb.size
          clear HP
          replace HB := Lib.hid (HB.out.trans (hb.mono HB.out.size))
          replace IIN := Lib.hid (IIN.out.keep hb)
          replace XIN := Lib.hid (XIN.out.on hb)
          replace OID := Lib.hid (own_keep OID.out hb)
          have RNG_ := Lib.hid (RNG.out.keep hb); clear RNG; have RNG := RNG_; clear RNG_
          have OAL_ := Lib.hid (own_keep OAL.out hb); clear OAL; have OAL := OAL_; clear OAL_
          clear hb
          have K20 := Clone_D aI nI cI _ idl W2 OID.out (by have := HNI.out; omega)
          go_wp2_with fail
          with_reducible refine K20.mono ?_
          rintro e W3 ⟨vw, rfl, ho, hb⟩
          have HZ17 : Hid (W2.heap.size ≤ W3.heap.size) := Lib.hid hb.size
          replace HB := Lib.hid (HB.out.trans (hb.mono HB.out.size))
          replace IIN := Lib.hid (IIN.out.keep hb)
          replace XIN := Lib.hid (XIN.out.on hb)
          replace OID := Lib.hid (own_keep OID.out hb)
          have RNG_ := Lib.hid (RNG.out.keep hb); clear RNG; have RNG := RNG_; clear RNG_
          have OAL_ := Lib.hid (own_keep OAL.out hb); clear OAL; have OAL := OAL_; clear OAL_
          have HW_ := Lib.hid (own_keep HW.out hb); clear HW; have HW := HW_; clear HW_
          have HZ_ : Hid (zs.length = 7 ∧ ∀ (i : Nat) (z : Sx) (y : Sy), zs[i]? = some z → ys[i]? = some y → z.W W3 Wa.heap.size y.s) := Lib.hid ⟨HZ.out.1, fun i z y h1 h2 => StW.keep (HZ.out.2 i z y h1 h2) hb⟩
          clear HZ; have HZ := HZ_; clear HZ_
          obtain ⟨aw, cw, rfl⟩ : ∃ aw cw, vw = .slice aw nI cw := by
            rcases ho.2 with ⟨hv, h0⟩ | ⟨g, cap, cur, hv, -⟩
            · exact ⟨none, 0, by rw [hv, h0]⟩
            · exact ⟨_, _, hv⟩
          have OWA := Lib.hid ho
          have BWA : Hid (Betw W2.heap.size W3.heap.size [.slice aw nI cw]) := Lib.hid (own_betw ho)
          have BIN : Hid (Betw v2.heap.size v3.heap.size (Sx.sp ⟨some ⟨gi, 0, none⟩, ni, ci, bi, mi, di, ri⟩)) := Lib.hid (Sx.In.betw (x := ⟨some ⟨gi, 0, none⟩, ni, ci, bi, mi, di, ri⟩) IIN.out)
          have HORD : Hid (w.heap.size < v2.heap.size ∧ v2.heap.size < v3.heap.size ∧ v3.heap.size < v4.heap.size ∧ v4.heap.size ≤ v5.heap.size ∧ v5.heap.size ≤ v12.heap.size ∧ v12.heap.size ≤ W1.heap.size ∧ W1.heap.size < Wa.heap.size ∧ Wa.heap.size ≤ W2.heap.size ∧ W2.heap.size ≤ W3.heap.size) := Lib.hid (by
            have := HZ1.out; have := HZ2.out; have := HZ3.out; have := HZ4.out; have := HZ5.out; have := HZ6.out; have := HZ7.out; have := HZ8.out; have := HZ9.out; have := HZ10.out; have := HZ11.out; have := HZ12.out; have := HZ13.out; have := HZ14.out; have := HZ15.out; have := HZ16.out; have := HZ17.out; have := HWA.out
            omega)
          clear ho hb K20
          have K21 := spoilt_V (some ⟨gi, 0, none⟩) bi ni ci mi di _ ri S W3 IIN.out.1
          have x0 := XIN.out.c 0 _ rfl; have x1 := XIN.out.c 1 _ rfl
          go_wp2_with fail
          with_reducible refine K21.mono ?_
          rintro e W4 ⟨rfl, hsp⟩
          have HSP : Hid (SpTo W3 W4 (Sx.sp ⟨some ⟨gi, 0, none⟩, ni, ci, bi, mi, di, ri⟩)) := Lib.hid hsp
          have oid4 := hsp.row BIN.out OID.out BID.out (Or.inl (by have := HORD.out; omega))
          have owa4 := hsp.row BIN.out OWA.out BWA.out (Or.inl (by have := HORD.out; omega))
          have K22 := Equal_D aI aw nI cI cw _ _ idl W4 oid4 owa4 HLI.out (by have := HNI.out; omega)
          have hcI := (own_cap oid4).2.1
          have HCI2 : Hid (cI ≤ 9223372036854775807) := Lib.hid (by unfold maxLen at hcI; exact hcI)
          have HO4 := Lib.hid oid4
          clear hsp oid4 owa4 K21 x0 x1 hcI
          go_wp2_with fail
          with_reducible refine K22.mono ?_
          rintro e W5 ⟨rfl, q5, hq5⟩
          have hb5 : Below W4.heap.size W4 W5 := by rw [hq5]; exact below_drewN (Below.refl _ _) q5
          have HSP5 := Lib.hid (HSP.out.below hb5)
          have K23 := spoil_Id aI nI cI _ false 0 0 (dv idl) W5 (own_keep HO4.out hb5) HCI2.out
          clear K22 hq5 hb5 HSP HO4
          go_wp2_with fail
          with_reducible refine K23.mono ?_
          rintro e W6 ⟨rfl, hg⟩
          have HSP6 := Lib.hid (HSP5.out.grown hg)
          have HBP : Hid (Betw v2.heap.size v5.heap.size (Sx.sp ⟨some ⟨gi, 0, none⟩, ni, ci, bi, mi, di, ri⟩ ++ [Value.slice aI nI cI])) := Lib.hid ((BIN.out.wide (Nat.le_refl _) (by have := HORD.out; omega)).app (BID.out.wide (by have := HORD.out; omega) (Nat.le_refl _)))
          clear K23 hg HSP5
          generalize Sx.sp ⟨some ⟨gi, 0, none⟩, ni, ci, bi, mi, di, ri⟩ ++ [Value.slice aI nI cI] = pre at *
          have HSP7 : Hid (SpTo W3 W6 (pre ++ xsp (fst ys 0))) := Lib.hid (by have := HSP6.out; simpa [fst, xsp] using this)
          clear HSP6
          have HOT : Hid (∀ k W, SpTo W3 W (pre ++ xsp (fst ys k)) → W.ownsRow W1.heap.size 53 2 (.slice (some ⟨W1.heap.size, 0, none⟩) 7 7) 7 (xv (ys.map Sy.x)) ∧ W.ownsRow Wa.heap.size 53 2 (.slice b5 7 d5) 7 (xv zs) ∧ ∀ (i : Nat) (z : Sx) (y : Sy), zs[i]? = some z → ys[i]? = some y → z.W W Wa.heap.size y.s) := Lib.hid (fun k W h => by
            have hv : Betw v2.heap.size v12.heap.size (pre ++ xsp (fst ys k)) := (HBP.out.wide (Nat.le_refl _) (by have := HORD.out; omega)).app (RNG.out.betw (fun y hy => ⟨by have := HORD.out; have := (YLO.out y hy).1; omega, (YLO.out y hy).2⟩) k)
            exact ⟨h.row hv OAL.out (own_betw OAL.out) (Or.inl (by have := HORD.out; omega)), h.row hv HW.out (own_betw HW.out) (Or.inl (by have := HORD.out; omega)), fun i z y h1 h2 => (HZ.out.2 i z y h1 h2).st h hv (by have := HORD.out; omega)⟩)
          have HEND : Hid (∀ W, SpTo W3 W (pre ++ xsp (fst ys 7)) → Below w.heap.size w W) := Lib.hid (fun W h => by
            have hv : Betw v2.heap.size v12.heap.size (pre ++ xsp (fst ys 7)) := (HBP.out.wide (Nat.le_refl _) (by have := HORD.out; omega)).app (RNG.out.betw (fun y hy => ⟨by have := HORD.out; have := (YLO.out y hy).1; omega, (YLO.out y hy).2⟩) 7)
            exact SpTo.low HB.out h hv (by have := HORD.out; omega))
          have HZL := Lib.hid HZ.out.1
          go_wp2_with fail
          go_loopw [160] (fun x wr => ∃ k : Nat, k ≤ 7 ∧ x = .int .i64 k ∧ Hid (SpTo W3 wr (pre ++ xsp (fst ys k)))) (fun x _ => 7 - (intOf x).toNat)
          case atStart => exact ⟨0, Nat.zero_le _, rfl, HSP7⟩
          case round =>
            obtain ⟨k, hk, rfl, HP⟩ := hrel
            by_cases hlt : k < 7
            · have hky : k < ys.length := by rw [HYL.out]; exact hlt
              have hkz : k < zs.length := by rw [HZL.out]; exact hlt
              obtain ⟨⟨⟨f1, f2, f3, f4, f5, f6, fr⟩, fs, fl, fh⟩, hy⟩ : ∃ y, ys[k]? = some y := ⟨_, List.getElem?_eq_getElem hky⟩
              obtain ⟨⟨g1, g2, g3, g4, g5, g6, gr⟩, hz⟩ : ∃ z, zs[k]? = some z := ⟨_, List.getElem?_eq_getElem hkz⟩
              have hyx : (ys.map Sy.x)[k]? = some ⟨f1, f2, f3, f4, f5, f6, fr⟩ := by rw [List.getElem?_map, hy]; rfl
              obtain ⟨oal, ohw, ohz⟩ := HOT.out k wr HP.out
              have hzw := ohz k _ _ hz hy
              have hyw := RNG.out.next HP.out HBP.out (fun y hy => (YLO.out y hy).1) hy
              have hyR := RGT.out _ (List.mem_of_getElem? hy)
              obtain ⟨g, hgg, hg, c0, c1⟩ := xv_at oal hyx
              obtain rfl : W1.heap.size = g := by injection hgg with h; injection h
              obtain ⟨gb, rfl, hgb, e0, e1⟩ := xv_at ohw hz
              dsimp only at c0 c1 e0 e1
              obtain ⟨V, hV⟩ : ∃ V, wr.alloc (.cells #[.slice f1 f2 f3, .slice f4 f5 f6] 53) = V := ⟨_, rfl⟩
              have hb : Below wr.heap.size wr V := by rw [← hV]; exact (Below.refl wr.heap.size wr).alloc (Nat.le_refl _) _
              have hbx : Bxs V wr.heap.size [.slice f1 f2 f3, .slice f4 f5 f6] := by rw [← hV]; exact bxs_new wr _ _ _ rfl
              have HWY : Hid (StW V fl f1 f2 f3 f4 f5 f6 fr fs) := Lib.hid (StW.keep hyw hb)
              have HWZ : Hid (StW V Wa.heap.size g1 g2 g3 g4 g5 g6 gr fs) := Lib.hid (StW.keep hzw hb)
              have HXV := Lib.hid hbx
              have HRY : Hid (Vo.Right fs) := Lib.hid hyR
              have HNX : Hid (∀ W W', Below V.heap.size V W → SpTo W W' (.slice f1 f2 f3 :: fr.map Rw.sl ++ [.slice f4 f5 f6]) → SpTo W3 W' (pre ++ xsp (fst ys (k + 1)))) := Lib.hid (fun W W' h1 h2 => SpTo.next (y := ⟨⟨f1, f2, f3, f4, f5, f6, fr⟩, fs, fl, fh⟩) HP.out (hb.trans (h1.mono hb.size)) h2 hy)
              have HD0 : Hid (V.cell? ⟨gb, k * 2, none⟩ = some (.slice g1 g2 g3)) := Lib.hid ((hb.cell hgb).trans e0)
              have HD1 : Hid (V.cell? ⟨gb, k * 2 + 1, none⟩ = some (.slice g4 g5 g6)) := Lib.hid ((hb.cell hgb).trans e1)
              clear oal ohw ohz hzw hyw hyR hgg hg hgb e0 e1 hb hbx hyx hky hkz hy hz
              go_wp2_with fail
              clear c0 c1
              have rw0 : Below V.heap.size V V.drew := Below.drew (Below.refl _ _)
              have kx0 := (HXV.out.on rw0).c 0 _ rfl; have kx1 := (HXV.out.on rw0).c 1 _ rfl
              have kz0 := (rw0.cell (World.block_lt_of_cell? V _ HD0.out)).trans HD0.out; have kz1 := (rw0.cell (World.block_lt_of_cell? V _ HD1.out)).trans HD1.out
              go_region_held3 (fun U => U.cell? ⟨wr.heap.size, 0, none⟩ = some (.slice f1 f2 f3) ∧ U.cell? ⟨wr.heap.size, 1, none⟩ = some (.slice f4 f5 f6) ∧ U.cell? ⟨gb, k * 2, none⟩ = some (.slice g1 g2 g3) ∧ U.cell? ⟨gb, k * 2 + 1, none⟩ = some (.slice g4 g5 g6) ∧ Below V.heap.size V U)
                (first | with_reducible exact ⟨by assumption, by assumption, by assumption, by assumption, by assumption⟩)
                ((first
                  | (go_at_call 44; have rq := Same_V f1 g1 f4 g4 f2 f3 f5 f6 g2 g3 g5 g6 _ _ fr gr fs _ (HWY.out.keep rw0) (HWZ.out.keep rw0) HRY.out; (with_reducible refine rq.mono ?_); clear rq; rintro e U1 ⟨rfl, rh1⟩; have rw1 := rw0.trans (rh1.mono rw0.size); clear rh1; have lx0 := (HXV.out.on rw1).c 0 _ rfl; have lx1 := (HXV.out.on rw1).c 1 _ rfl; have lz0 := (rw1.cell (World.block_lt_of_cell? V _ HD0.out)).trans HD0.out; have lz1 := (rw1.cell (World.block_lt_of_cell? V _ HD1.out)).trans HD1.out)))
              have K2 := spoilt_V f1 f4 f2 f3 f5 f6 _ fr fs U1 (HWY.out.keep rw1)
              have HU1 := Lib.hid rw1
              clear kx0 kx1 kz0 kz1 lz0 lz1 rw0 rw1
              go_wp2_with fail
              with_reducible refine K2.mono ?_
              rintro e U2 ⟨rfl, hsp⟩
              have HP2 := Lib.hid (HNX.out _ _ HU1.out hsp)
              clear K2 hsp lx0 lx1
              go_wp2_with fail
              go_roundw
              case rel => exact ⟨k + 1, hlt, by go_num, HP2⟩
              case measure => simp [intOf]; omega
            · obtain rfl : k = 7 := by omega
              go_wp2_with fail
              go_ret
              exact ⟨rfl, HEND.out _ HP.out⟩

theorem volOwn_walk (a0 : Option Addr) (len0 cap0 : Nat) (t0 : List Lg.Op) (a1 : Int) (a2 : Int) (a3 : ByteArray) (a4 : ByteArray) (a5_0 : Int) (a5_1 : ByteArray) (a5_2 : ByteArray) (a5_3 : Int) (a5_4 : ByteArray) (w : World) (w0 : OArg w a0 len0 cap0 t0) (_ : (Lit.int .i64 a1).wf = true) (_ : (Lit.int .i64 a2).wf = true) (w3 : a3.size ≤ maxLen) (w4 : a4.size ≤ maxLen) (_ : (Lit.int .i64 a5_0).wf = true) (w5 : a5_1.size ≤ maxLen) (w6 : a5_2.size ≤ maxLen) (_ : (Lit.int .i64 a5_3).wf = true) (w7 : a5_4.size ≤ maxLen) :
    Calls Try.prog 11 #[.slice a0 len0 cap0, .int .i64 a1, .int .i64 a2, .string a3, .string a4, .agg #[.int .i64 a5_0, .string a5_1, .string a5_2, .int .i64 a5_3, .string a5_4]] w fun e w' => e = .returned (.bool true) ∧ Below w.heap.size w w' :=
  volOwn_core a0 len0 cap0 t0 a1 a2 a3 a4 ⟨a5_0, a5_1, a5_2, a5_3, a5_4⟩ w w0 w3 w4 w5 w6 w7

end Go.Proofs.Ytenkdpogdfcbgaa
