/- Witness: a box is sealed. -/
import Derived.Test.YtgjahejhpkbecaaGreatDoorWitD
namespace Go.Proofs.YtgjahejhpkbecaaGreatDoor
open Go.RowKit

def boxV (p v : Nat) : Value := .agg #[.int .i64 p, .int .i64 v, .string salt]
def decB (n : Nat) : ByteArray := ⟨(Lib.decDigits n).toArray⟩
def colon : ByteArray := ⟨#[58]⟩
/-- the hash of a box -/
def sealF (p v : Nat) : Int := withF (withF (withF (withF (withF 14695981039346656037 (decB p).data.toList) colon.data.toList) (decB v).data.toList) colon.data.toList) salt.data.toList

theorem decDigits_le (n : Nat) (h : n < 100) : (Lib.decDigits n).length ≤ 2 := by
  rw [Lib.decDigits]
  split
  · simp
  · rw [Lib.decDigits]
    rw [dif_pos (by omega)]
    simp
theorem decB_size (n : Nat) (h : n < 100) : (decB n).size ≤ 2 := by
  have := decDigits_le n h
  have e : (decB n).size = (Lib.decDigits n).length := size_of_list _
  omega

set_option maxRecDepth 20000 in
theorem isBox_t (p v : Nat) (hp : 1 ≤ p ∧ p ≤ 30) (hv : v ≤ 999999999) (w : World) : Calls Tryz.prog 38 #[boxV p v] w fun e w' => e = .returned (.bool true) ∧ Ext w w' := by
  unfold boxV
  have hB := hid (heap_alloc_new w (.cells #[.int .i64 p, .int .i64 v, .string salt] 67))
  go_enter Tryz.func38, Tryz.ntmps38
  go_wp2_with (first | (go_at_call 35; refine (wwithin _ _ _ _ (by omega)).mono ?_; rintro e w' ⟨rfl, rfl⟩) | (go_at_call 43; refine (isSalt_t _).mono ?_; rintro e w' ⟨rfl, hb⟩))
  go_ret
  exact ⟨rfl, ((Ext.refl w).alloc _).trans hb⟩

set_option maxRecDepth 20000 in
set_option maxHeartbeats 1000000 in
theorem seal_any (p v : Nat) (hp : p < 100) (hv : v < 100) (w : World) : Calls Tryz.prog 39 #[boxV p v] w fun e w' => e = .returned (.int .u64 (sealF p v)) ∧ Ext w w' := by
  unfold boxV
  generalize hF : sealF p v = F
  obtain ⟨W, hW⟩ : ∃ W, W = w.alloc (.cells #[.int .i64 p, .int .i64 v, .string salt] 67) := ⟨_, rfl⟩
  have hE : Ext w W := by rw [hW]; exact (Ext.refl w).alloc _
  have hlt : w.heap.size < W.heap.size := by rw [hW]; simp
  have hb : W.heap[w.heap.size]? = some (.cells #[.int .i64 p, .int .i64 v, .string salt] 67) := by rw [hW]; exact heap_alloc_new w _
  have q0 : ∀ (r : Rg W) (o : Nat), r.w'.cell? ⟨w.heap.size, o, none⟩ = #[Value.int .i64 p, .int .i64 v, .string salt][o]? := fun r => cellsOf (r.h.blk' hb)
  have cn := hid (fun (n : Nat) (hn : n < 100) (r : Rg W) => Calls.rg (p := r) (v := .string (decB n)) (f := 37) (args := #[.int .i64 n]) ((number_any n hn r.w').mono fun e w' ⟨h1, h2⟩ => ⟨h1, h2 ▸ Ext.refl _⟩))
  have cw := hid (fun (h : Int) (s : ByteArray) (hs : s.size ≤ 1000000000) (r : Rg W) => Calls.rg (p := r) (v := .int .u64 (withF h s.data.toList)) (f := 74) (args := #[.int .u64 h, .string s]) (with_any h s r.w' hs))
  have s1' := (Nat.le_trans (decB_size p hp) (by omega : 2 ≤ 1000000000))
  have s2' := (Nat.le_trans (decB_size v hv) (by omega : 2 ≤ 1000000000))
  have s3 : Hid ((⟨#[58]⟩ : ByteArray).size ≤ 1000000000) := hid (by decide)
  have s4 : Hid (salt.size ≤ 1000000000) := hid (by decide)
  have HE := hid hE
  have c1' := cn.out p hp
  have c2' := cn.out v hv
  have hr' : F = withF (withF (withF (withF (withF 14695981039346656037 (decB p).data.toList) (⟨#[58]⟩ : ByteArray).data.toList) (decB v).data.toList) (⟨#[58]⟩ : ByteArray).data.toList) salt.data.toList := hF.symm
  clear hF
  generalize decB p = S1 at s1' c1' hr'
  generalize decB v = S2 at s2' c2' hr'
  generalize salt = S3 at q0 s4 hr' hW ⊢
  have s1 := hid s1'
  have s2 := hid s2'
  have c1 := hid c1'
  have c2 := hid c2'
  have hr := hid hr'
  clear hb hE cn s1' s2' c1' c2' hr'
  go_enter Tryz.func39, Tryz.ntmps39
  go_wp2
  rw [← hW]
  clear hW
  refine wp_region_rg (by kernel_rfl) (by kernel_rfl) ?_
  repeat (go_big_quiet_step (first | with_reducible exact c1.out _ | with_reducible exact c2.out _ | with_reducible exact cw.out _ _ s1.out _ | with_reducible exact cw.out _ _ s3.out _ | with_reducible exact cw.out _ _ s2.out _ | with_reducible exact cw.out _ _ s4.out _))
  refine wpQuiet_nil ?_
  intro r
  go_wp2
  go_ret
  rw [hr.out]
  exact ⟨rfl, HE.out.trans r.h⟩
end Go.Proofs.YtgjahejhpkbecaaGreatDoor
