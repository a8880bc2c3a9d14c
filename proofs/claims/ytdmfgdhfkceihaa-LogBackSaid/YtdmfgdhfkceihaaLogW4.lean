/- The walks of log.take and log.Decode; Encode in the form that the laws take. -/
import Derived.Test.YtdmfgdhfkceihaaLogW3
namespace Go.Proofs.Ytdmfgdhfkceihaa
open Go.RowKit

theorem results_cell_tmp1 {fn : Func} {p u : Tmp} {ty : TypeId} (h : fn.results = #[.cell p ty, .tmp u]) (tmps : Array Value) (P : Program) (w : World) :
    (results fn tmps).run P w =
      ((asAddr (tmps.getD p undef)).run P w).andThen fun a w₁ => ((loadVar ty a).run P w₁).andThen fun x w₂ => .ok (.tuple #[x, tmps.getD u undef]) w₂ := by
  simp only [results, h]
  simp [Sem.run_bind, Result.andThen]

/-- The rest of a text, as a rewrite rule. -/
theorem sl_fromL {P : Program} {t : TypeId} (hu : P.underlying t = some .string) {s : ByteArray} {x : Int} {a : Nat} (hx : x = a) (hb : a ≤ s.size) :
    ∀ w, (Instr.slice t (.string s) (some (.int .i64 x)) none none).run P w = .ok (.string (s.extract a s.size)) w := by
  intro w
  subst hx
  have := run_slice_string_l (w := w) (t := t) (s := s) hu .i64 (a : Int) (by omega) (by omega)
  simpa using this

set_option maxRecDepth 100000 in
set_option maxHeartbeats 2000000 in
/-- A text with its length ahead is taken. -/
theorem take_core (s A B : ByteArray) (n : Nat) (w : World) (hs : s.size ≤ 100000) (hn : n < 256) (hs1 : n + 1 ≤ s.size) (h0 : bt s.data.toList 0 = n) (hA : s.extract 1 (n + 1) = A) (hB : s.extract (n + 1) s.size = B) :
    Calls Try.prog 22 #[.string s] w fun e w' => e = .returned (.tuple #[.string A, .string B, .bool true]) ∧ Below w.heap.size w w' := by
  have he : s.toList.isEmpty = false := by
    cases h : s.toList.isEmpty with
    | false => rfl
    | true => have := empty_size h; omega
  have ix := idx_str Try.underlying9 (s := s) (x := 0) (k := 0) rfl (by omega)
  rw [h0] at ix
  have z1 := sl_str Try.underlying9 (s := s) (x := 1) (y := (1 : Int) + n) (a := 1) (b := n + 1) rfl (by omega) (by omega) (by omega)
  have z2 := sl_fromL Try.underlying9 (s := s) (x := (1 : Int) + n) (a := n + 1) (by omega) (by omega)
  rw [hA] at z1; rw [hB] at z2
  have p0 : IntKind.i64.wrap (n : Int) = (n : Int) := IntWalk.i64_in _ (by omega)
  have p1 : IntKind.i64.wrap ((1 : Int) + n) = (1 : Int) + n := IntWalk.i64_in _ (by omega)
  have HB := Lib.hid (Below.refl w.heap.size w)
  clear hA hB h0
  go_enter Try.func22, Try.ntmps22
  go_wp2_with fail
  go_quiet (fail)
  go_wp2_with fail
  go_ret3
  exact ⟨rfl, below_drewN HB.out _⟩

theorem take_ok (s A B : ByteArray) (w : World) (hA : A.size < 256) (hs : s.size ≤ 100000) (h : s.data.toList = Lg.tx A.data.toList ++ B.data.toList) :
    Calls Try.prog 22 #[.string s] w fun e w' => e = .returned (.tuple #[.string A, .string B, .bool true]) ∧ Below w.heap.size w w' := by
  have hl : A.data.toList.length = A.size := Array.length_toList ..
  have hlB : B.data.toList.length = B.size := Array.length_toList ..
  have hls : s.data.toList.length = s.size := Array.length_toList ..
  have hss : s.size = A.size + 1 + B.size := by rw [← hls, h, List.length_append, Lg.tx, List.length_cons]; omega
  refine take_core s A B A.size w hs hA (by omega) ?_ ?_ ?_
  · rw [h]
    show (((UInt8.ofNat A.data.toList.length :: A.data.toList) ++ B.data.toList).getD 0 0).toNat = ((A.size : Nat) : Int)
    rw [hl]
    show (((UInt8.ofNat A.size).toNat : Nat) : Int) = _
    rw [UInt8.toNat_ofNat']
    omega
  · apply ByteArray.ext
    apply Array.toList_inj.mp
    rw [Lib.extract_data, h]
    show (List.drop 1 (UInt8.ofNat A.data.toList.length :: (A.data.toList ++ B.data.toList))).take _ = _
    rw [List.drop_succ_cons, List.drop_zero, Nat.add_sub_cancel, ← hl, List.take_left]
  · apply ByteArray.ext
    apply Array.toList_inj.mp
    rw [Lib.extract_data, h]
    show (List.drop (A.size + 1) (UInt8.ofNat A.data.toList.length :: (A.data.toList ++ B.data.toList))).take _ = _
    rw [List.drop_succ_cons, ← hl, List.drop_left, List.take_of_length_le (by omega)]

/-- What Encode answers. -/
theorem Encode_bad (k : Int) (nm to : ByteArray) (a : Int) (tx : ByteArray) (w : World) (hn : nm.size ≤ maxLen) (ht : to.size ≤ maxLen) (hx : tx.size ≤ maxLen) (r : Nat)
    (hr : Lg.chk k (Lg.nmB nm.data.toList) (Lg.nmB to.data.toList) a tx.size to.toList.isEmpty tx.toList.isEmpty = r) (h0 : r ≠ 0) :
    Calls Try.prog 9 #[.agg #[.int .i64 k, .string nm, .string to, .int .i64 a, .string tx]] w fun e w' => e = .returned (.tuple #[.string ⟨#[]⟩, .int .i64 r]) ∧ Below w.heap.size w w' := by
  have C1 : ∀ w, Calls Try.prog 20 #[.agg #[.int .i64 k, .string nm, .string to, .int .i64 a, .string tx]] w fun e w' => e = .returned (.int .i64 r) ∧ Below w.heap.size w w' := fun w => by
    have := Check_any k nm to a tx w hn ht hx
    rwa [hr] at this
  have hb : ((r : Int) != 0) = true := bne_iff_ne.2 (by omega)
  have HK0 := Lib.hid (k5_new w 23 (.int .i64 k) (.string nm) (.string to) (.int .i64 a) (.string tx))
  clear hn ht hx hr h0
  go_enter Try.func9, Try.ntmps9
  go_wp2_with fail
  with_reducible refine (C1 _).mono ?_
  rintro e w1 ⟨rfl, hb1⟩
  have HK1 := Lib.hid (HK0.out.on hb1)
  clear hb1 HK0 C1
  go_wp2_with fail
  go_ret2
  exact ⟨rfl, HK1.out.2.2.2.2.2.1⟩

theorem Encode_ok (k a : Nat) (nm to tx S : ByteArray) (w : World)
    (hr : Lg.chk k (Lg.nmB nm.data.toList) (Lg.nmB to.data.toList) a tx.size to.toList.isEmpty tx.toList.isEmpty = 0) (hn : nm.size ≤ 12) (ht : to.size ≤ 12) (hx : tx.size ≤ 64) (hk : k ≤ 5) (ha : a ≤ 32)
    (hS : S.data.toList = Lg.enc k a nm.data.toList to.data.toList tx.data.toList) :
    Calls Try.prog 9 #[.agg #[.int .i64 k, .string nm, .string to, .int .i64 a, .string tx]] w fun e w' => e = .returned (.tuple #[.string S, .int .i64 0]) ∧ Below w.heap.size w w' := by
  have mk : ∀ s : ByteArray, ∃ T : ByteArray, T.data.toList = Lg.tx s.data.toList := fun s => ⟨⟨(Lg.tx s.data.toList).toArray⟩, by simp⟩
  obtain ⟨T1, h1⟩ := mk nm
  obtain ⟨T2, h2⟩ := mk to
  obtain ⟨T3, h3⟩ := mk tx
  have sz : ∀ {s T : ByteArray}, T.data.toList = Lg.tx s.data.toList → T.size = s.size + 1 := fun {s T} h => by
    have a1 : T.data.toList.length = T.size := Array.length_toList ..
    have a2 : s.data.toList.length = s.size := Array.length_toList ..
    rw [← a1, h, Lg.tx, List.length_cons, a2]
  have s1 := sz h1
  have s2 := sz h2
  have s3 := sz h3
  obtain ⟨c0, hc0⟩ : ∃ c, UInt8.ofNat k = c := ⟨_, rfl⟩
  obtain ⟨c1, hc1⟩ : ∃ c, UInt8.ofNat a = c := ⟨_, rfl⟩
  have e0 : k = c0.toNat := by rw [← hc0, UInt8.toNat_ofNat']; omega
  have e1 : a = c1.toNat := by rw [← hc1, UInt8.toNat_ofNat']; omega
  have hres : ((⟨#[c0, c1]⟩ : ByteArray) ++ T1) ++ T2 ++ T3 = S := by
    apply ByteArray.ext
    apply Array.toList_inj.mp
    rw [hS, Lg.enc, ← h1, ← h2, ← h3, hc0, hc1]
    simp
  subst e0 e1
  have := Encode_core c0 c1 nm to tx T1 T2 T3 w (fun w => by
    have := Check_any c0.toNat nm to c1.toNat tx w (by unfold maxLen; omega) (by unfold maxLen; omega) (by unfold maxLen; omega)
    rwa [hr] at this) (fun w => text_any nm T1 w (by omega) h1) (fun w => text_any to T2 w (by omega) h2) (fun w => text_any tx T3 w (by omega) h3) (by omega) (by omega) (by omega)
  rwa [hres] at this

end Go.Proofs.Ytdmfgdhfkceihaa
