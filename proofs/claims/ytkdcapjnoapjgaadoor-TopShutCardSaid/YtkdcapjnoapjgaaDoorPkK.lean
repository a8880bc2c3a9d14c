/- pack's functions as the laws use them. -/
import Derived.Test.YtkdcapjnoapjgaaDoorPkW5
namespace Go.Proofs.YtkdcapjnoapjgaaDoor
open Go.RowKit Go.Shelf

theorem ba_of (l : List UInt8) (B : ByteArray) (h : B.data.toList = l) : (⟨l.toArray⟩ : ByteArray) = B := by
  subst h; simp

/-- The bits of tokens. -/
theorem Bits_as (a : Option Addr) (n c : Nat) (ts : List Lz.Tk) (B : ByteArray) (w : World) (hT : KArg w a n c ts) (hE : Lz.expE [] ts = 0) (hB : B.data.toList = Pk.bits ts) :
    Calls Tryd.prog 15 #[.slice a n c] w fun e w' => e = .returned (.tuple #[.string B, .int .i64 0]) ∧ Below w.heap.size w w' := by
  have := Bits_ok a n c ts w hT hE
  rwa [ba_of _ B hB] at this

theorem Bytes_as (s B : ByteArray) (l : List UInt8) (w : World) (hl : s.data.toList = l) (hs : s.size ≤ 100000000) (hb : Gr.bitsB l = true) (hB : B.data.toList = Pk.by_ l) :
    Calls Tryd.prog 16 #[.string s] w fun e w' => e = .returned (.tuple #[.string B, .int .i64 0]) ∧ Below w.heap.size w w' := by
  subst hl
  exact Bytes_ok s B w hs hb (ba_of _ B hB).symm

/-- Bytes of bits, read. -/
theorem Unbytes_by (s B : ByteArray) (l : List UInt8) (w : World) (hs : s.size ≤ 2000000) (hl : s.data.toList = Pk.by_ l) (hb : Gr.bitsB l = true) (hB : B.data.toList = l) :
    Calls Tryd.prog 20 #[.string s] w fun e w' => e = .returned (.tuple #[.string B, .int .i64 0]) ∧ Below w.heap.size w w' := by
  refine (Unbytes_to s w hs).mono ?_
  rintro e w' ⟨h, hbl⟩
  obtain ⟨h1, h2⟩ := Pk.un_by hb
  unfold UnR at h
  rw [hl, h1, h2] at h
  rcases h with ⟨-, -, he⟩ | ⟨h | h, -⟩
  · rw [List.dropLast_concat, ba_of l B hB] at he
    exact ⟨he, hbl⟩
  · simp at h
  · rw [List.length_append, List.length_singleton] at h
    omega

/-- Bits of tokens, read. -/
def TokK (w : World) (ts : List Lz.Tk) (n : Nat) (e : Ending) (w' : World) : Prop := ∃ a c, e = .returned (.tuple #[.slice a n c, .int .i64 0]) ∧ KArg w' a n c ts ∧ Below w.heap.size w w'

theorem Tokens_bits (s : ByteArray) (ts : List Lz.Tk) (n : Nat) (w : World) (hs : s.size ≤ 100000000) (hl : s.data.toList = Pk.bits ts) (hE : Lz.expE [] ts = 0) (hn : ts.length = n) :
    Calls Tryd.prog 21 #[.string s] w (TokK w ts n) := by
  refine (Tokens_to s w hs).mono ?_
  rintro e w' ⟨a, m, c, he, hk, hb⟩
  rw [hl, Pk.tkns_bits hE] at he hk
  have hm : ts.length = m := hk.len
  obtain rfl : n = m := hn.symm.trans hm
  exact ⟨a, c, he, hk, hb⟩

theorem karg_litP (w : World) (T : TypeId) (ts : List Lz.Tk) (cs : Array Value) (n : Nat) (hcs : cs = (kv ts).toArray) (hn : ts.length = n) (hm : n ≤ maxLen) : KArg (w.alloc (.cells cs T)) (some ⟨w.heap.size, 0, none⟩) n n ts := ⟨fun _ => ⟨_, rfl, fun j t hj => by
    obtain ⟨k1, k2, k3⟩ := kv_get hj
    rw [addr_lit0, addr_lit0, addr_lit0]
    subst hcs
    exact ⟨cell_new w (by simpa using k1), cell_new w (by simpa using k2), cell_new w (by simpa using k3)⟩⟩, hn, Nat.le_refl _, hm⟩

theorem size_of_list {B : ByteArray} {l : List UInt8} (h : B.data.toList = l) : B.size = l.length := by
  rw [← h]; exact (Array.length_toList ..).symm

end Go.Proofs.YtkdcapjnoapjgaaDoor
