/- Witness: the hash. -/
import Derived.Test.YtgjahejhpkbecaaGreatDoorProg
import Derived.Test.YtgjahejhpkbecaaGreatDoorBase
import Derived.Test.YtgjahejhpkbecaaGreatDoorBlk
import Derived.Test.YtgjahejhpkbecaaGreatDoorFuncs
import Derived.ShutString
namespace Go.Proofs.YtgjahejhpkbecaaGreatDoor
open Go.RowKit

/-- a string as bytes, in memory -/
theorem bytes_of (s : ByteArray) (w : World) : ∃ cap W, (convert 9 159 (.string s)).run Tryz.prog w = .ok (.slice (some ⟨w.heap.size, 0, none⟩) s.size cap) W ∧ Ext w W ∧
    ∀ (j : Nat) (b : UInt8), s.data.toList[j]? = some b → W.cell? ⟨w.heap.size, j, none⟩ = some (.int .u8 (b.toNat : Int)) := by
  refine ⟨_, _, run_bytes_of_string w _ _ 5 s Tryz.underlying9 Tryz.underlying159 Tryz.underlying5, (Ext.refl w).drew.alloc _, ?_⟩
  intro j b hj
  have h : (w.drew.alloc (.cells (bytesRow s (grownCap w s.size 0 5)) 5 ((bytesRow s (grownCap w s.size 0 5)).size, (bytesRow s (grownCap w s.size 0 5)).size + 1))).heap[w.heap.size]? = some (.cells (bytesRow s (grownCap w s.size 0 5)) 5 ((bytesRow s (grownCap w s.size 0 5)).size, (bytesRow s (grownCap w s.size 0 5)).size + 1)) :=
    heap_alloc_new w.drew _
  rw [cellsOf h]
  have hlt : j < s.data.size := by
    have := (List.getElem?_eq_some_iff.1 hj).1
    simpa using this
  rw [bytesRow_at s _ j hlt]
  have : s.data[j] = b := by
    have := (List.getElem?_eq_some_iff.1 hj).2
    simpa using this
  rw [this]

/-- the hash, byte by byte -/
def stepH (h : Int) (b : UInt8) : Int := IntKind.u64.wrap (bits BinOp.xor IntKind.u64 h (IntKind.u64.wrap (b.toNat : Int)) * 1099511628211)
def withF (h : Int) (l : List UInt8) : Int := l.foldl stepH h
theorem withF_succ (h : Int) (l : List UInt8) (k : Nat) (b : UInt8) (hb : l[k]? = some b) : withF h (l.take (k + 1)) = stepH (withF h (l.take k)) b := by
  unfold withF
  rw [List.take_add_one, hb]
  simp [List.foldl_append]

set_option maxRecDepth 20000 in
set_option maxHeartbeats 1000000 in
theorem with_any (h : Int) (s : ByteArray) (w : World) (hs : s.size ≤ 1000000000) :
    Calls Tryz.prog 74 #[.int .u64 h, .string s] w fun e w' => e = .returned (.int .u64 (withF h s.data.toList)) ∧ Ext w w' := by
  obtain ⟨cap, W, hcv, hE, hb⟩ := bytes_of s w
  have hsz : s.data.toList.length = s.size := Array.length_toList
  have HB := hid hb
  clear hb
  go_enter Tryz.func74, Tryz.ntmps74
  go_wp2
  go_loopw [0, 10] (fun x i wr => ∃ k : Nat, k ≤ s.size ∧ i = .int .i64 k ∧ x = .int .u64 (withF h (s.data.toList.take k)) ∧ Ext W wr) (fun _ i _ => s.size - (intOf i).toNat)
  case atStart => exact ⟨0, Nat.zero_le _, rfl, rfl, Ext.refl _⟩
  case round =>
    obtain ⟨k, hk, rfl, rfl, hb⟩ := hrel
    by_cases hlt : k < s.size
    · obtain ⟨b, hbk⟩ : ∃ b, s.data.toList[k]? = some b := ⟨_, List.getElem?_eq_getElem (by omega)⟩
      have hc := hb.cell' (HB.out k b hbk)
      have HK := hid hbk
      clear hbk
      go_wp2
      go_roundw
      case rel => exact ⟨k + 1, by omega, by go_num, by rw [withF_succ _ _ _ _ HK.out]; rfl, hb⟩
      case measure => simp [intOf]; omega
    · obtain rfl : k = s.size := by omega
      have e := hid (show s.data.toList.take s.size = s.data.toList by rw [← hsz]; exact List.take_length)
      go_wp2
      go_ret
      exact ⟨by rw [e.out]; rfl, hE.trans hb⟩
end Go.Proofs.YtgjahejhpkbecaaGreatDoor
