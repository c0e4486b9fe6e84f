/- Almanacs, continued: what looks at a day. -/
import Derived.Test.YtgjahejhpkbecaaGreatDoorAlmD
namespace Go.Proofs.YtgjahejhpkbecaaGreatDoor
open Go.RowKit

theorem newLook1_any (set frm to kind which n : Int) (w : World) (hn : 0 ≤ n ∧ n ≤ 64) :
    Calls Tryz.prog 49 #[.agg #[.int .i64 kind, .int .i64 which, .int .u64 set, .int .i64 frm, .int .i64 to], .int .i64 n] w fun e w' => e = .returned (.bool (bits .and .u64 (set / 2 ^ n.toNat) 1 == 1)) ∧ Ext w w' := by
  go_enter Tryz.func49, Tryz.ntmps49
  go_wp2
  go_ret
  exact ⟨rfl, by (repeat (first | (with_reducible assumption) | (with_reducible exact Ext.refl _) | (with_reducible refine Ext.alloc ?_ _) | (with_reducible refine Ext.drew ?_)))⟩

/-- the position of a day in a cycle -/
def Cyc.pos (c : Cyc) (day : Int) : Int := (day - c.start + c.len) % c.len
theorem Cyc.bounds {c : Cyc} (h : c.ok = true) : 1 ≤ c.len ∧ c.len ≤ 64 ∧ 0 ≤ c.start ∧ c.start ≤ c.len - 1 := by
  simp only [Cyc.ok, Bool.and_eq_true, withinB_true] at h
  omega
theorem Cyc.pos_bounds {c : Cyc} (h : c.ok = true) (day : Int) : 0 ≤ c.pos day ∧ c.pos day < c.len := by
  have := Cyc.bounds h
  exact ⟨Int.emod_nonneg _ (by omega), Int.emod_lt_of_pos _ (by omega)⟩

theorem position_any (c : Cyc) (day : Int) (w : World) (h : c.ok = true) (hd : 0 ≤ day ∧ day ≤ 1000000) :
    Calls Tryz.prog 51 #[c.enc, .int .i64 day] w fun e w' => e = .returned (.int .i64 (c.pos day)) ∧ Ext w w' := by
  have hb := Cyc.bounds h
  obtain ⟨l, s⟩ := c
  dsimp only at hb
  unfold Cyc.enc
  clear h
  go_enter Tryz.func51, Tryz.ntmps51
  go_wp2
  go_ret
  exact ⟨rfl, by (repeat (first | (with_reducible assumption) | (with_reducible exact Ext.refl _) | (with_reducible refine Ext.alloc ?_ _) | (with_reducible refine Ext.drew ?_)))⟩

/-- what looks at a day lies in block l: the almanac, the day, the dates that were found, the tests -/
def LookBox (w : World) (l ab : Nat) (day : Int) (sun moon : Option Addr) (tb : Nat) : Prop :=
  w.heap[l]? = some (.cells #[.pointer (some ⟨ab, 0, none⟩), .int .i64 day, .pointer sun, .pointer moon, .map (some tb)] 120)

/-- tests by cycles -/
def cycHolds (A : Alm) (day : Int) (t : DT) : Bool :=
  match A.cycles[t.which.toNat]? with
  | some c => bits .and .u64 (t.set / 2 ^ (c.pos day).toNat) 1 == 1
  | none => false

set_option maxHeartbeats 1000000 in
theorem newLook2_any (A : Alm) (l ab fb : Nat) (day : Int) (sun moon : Option Addr) (tb : Nat) (t : DT) (w : World)
    (hl : LookBox w l ab day sun moon tb) (hA : AlmBox w A ab) (hf : w.heap[fb]? = some (.cells #[.func (.func 49) #[] #[]] 113))
    (hok : A.ok = true) (ht : t.ok A = true) (hk : t.kind = 1) (hd : 0 ≤ day ∧ day ≤ 1000000) :
    Calls Tryz.prog 50 #[.pointer (some ⟨l, 0, none⟩), t.enc, .pointer (some ⟨fb, 0, none⟩)] w fun e w' => e = .returned (.bool (cycHolds A day t)) ∧ Ext w w' := by
  obtain ⟨a, cp, ha, hab⟩ := hA
  obtain ⟨kind, which, set, frm, to⟩ := t
  dsimp only at hk
  subst hk
  obtain ⟨k, rfl, c, hc⟩ : ∃ k : Nat, which = k ∧ ∃ c, A.cycles[k]? = some c := by
    simp only [DT.ok, if_true] at ht
    split at ht
    · rename_i c hc
      simp only [Bool.and_eq_true, withinB_true] at ht
      exact ⟨which.toNat, by omega, c, hc⟩
    · cases ht
  have hcok : c.ok = true := List.all_eq_true.1 (Alm.ok_cycles hok) _ (List.mem_of_getElem? hc)
  have hcb := Cyc.pos_bounds hcok day
  have hb := Cyc.bounds hcok
  have hklt : k < A.cycles.length := (List.getElem?_eq_some_iff.1 hc).1
  have hlen := ha.1
  obtain ⟨b, off, rfl⟩ := ha.2.addr (i := k) (by simpa using hklt)
  obtain ⟨b', off', hbo, hload⟩ := ha.2.load (i := k) (x := c.enc) (by rw [List.getElem?_map, hc]; rfl)
  cases hbo
  have hlk := cellsOf hl
  have hak := cellsOf hab
  have hfk := cellsOf hf
  have hls : l < w.heap.size := lt_of_block hl
  have has : ab < w.heap.size := lt_of_block hab
  have hfs : fb < w.heap.size := lt_of_block hf
  have hW : ∃ W, W = w.alloc (.cells #[.int .i64 1, .int .i64 k, .int .u64 set, .int .i64 frm, .int .i64 to] 42) := ⟨_, rfl⟩
  obtain ⟨W, hW⟩ := hW
  have hE : Ext w W := by rw [hW]; exact (Ext.refl w).alloc _
  have q0 : ∀ (p : Rg W) (o : Nat), p.w'.cell? ⟨w.heap.size, o, none⟩ = #[Value.int .i64 1, .int .i64 k, .int .u64 set, .int .i64 frm, .int .i64 to][o]? := fun p => cellsOf (p.h.blk' (by rw [hW]; exact heap_alloc_new w _))
  have q1 : ∀ (p : Rg W) (o : Nat), p.w'.cell? ⟨l, o, none⟩ = _ := fun p => cellsOf (p.h.blk' (hE.blk' hl))
  have q2 : ∀ (p : Rg W) (o : Nat), p.w'.cell? ⟨ab, o, none⟩ = (A.cells (some ⟨b, off, none⟩) cp)[o]? := fun p => cellsOf (p.h.blk' (hE.blk' hab))
  have q3 : ∀ (p : Rg W) (o : Nat), p.w'.cell? ⟨fb, o, none⟩ = _ := fun p => cellsOf (p.h.blk' (hE.blk' hf))
  have q4 : ∀ (p : Rg W), p.w'.cell? ⟨b, off + k * 2, none⟩ = some (.int .i64 c.len) := fun p => by
    have := (p.h.cell' (hE.cell' (ha.2.cell (i := k) (cs := #[.int .i64 c.len, .int .i64 c.start]) (by rw [List.getElem?_map, hc]; rfl) 0 _ rfl)))
    simpa using this
  have q5 : ∀ (p : Rg W), p.w'.cell? ⟨b, off + k * 2 + 1, none⟩ = some (.int .i64 c.start) := fun p => by
    have := (p.h.cell' (hE.cell' (ha.2.cell (i := k) (cs := #[.int .i64 c.len, .int .i64 c.start]) (by rw [List.getElem?_map, hc]; rfl) 1 _ rfl)))
    simpa using this
  simp only [Alm.cells] at q2
  have c1 := fun (p : Rg W) => Calls.rg (position_any c day p.w' hcok hd)
  have c2 := fun (p : Rg W) => Calls.rg (newLook1_any set frm to 1 k (c.pos day) p.w' (by omega))
  have C1 := hid c1
  have C2 := hid c2
  have hkl : (k : Int) < (A.cycles.length : Int) := by omega
  have hres : cycHolds A day ⟨1, k, set, frm, to⟩ = (bits .and .u64 (set / 2 ^ (c.pos day).toNat) 1 == 1) := by simp [cycHolds, hc]
  have HR := hid hres
  have HE := hid hE
  clear hl hf hok ht hc hcok hb ha hab hload hls has hfs hE c1 c2 hres
  go_enter Tryz.func50, Tryz.ntmps50
  unfold DT.enc
  go_wp2
  rw [← hW]
  clear hW
  refine wp_region_rg (by kernel_rfl) (by kernel_rfl) ?_
  repeat (go_big_quiet_step (first | exact C1.out _ | exact C2.out _))
  refine wpQuiet_nil ?_
  intro p
  go_wp2
  go_ret
  exact ⟨ret_bool HR.out.symm, HE.out.trans p.h⟩
end Go.Proofs.YtgjahejhpkbecaaGreatDoor
