/- Almanacs, continued: which rules of days are valid. -/
import Derived.Test.YtgjahejhpkbecaaGreatDoorAlmC
namespace Go.Proofs.YtgjahejhpkbecaaGreatDoor
open Go.RowKit

/-- a rule for days: its tests, and whether it allows -/
structure DR where
  whens : List DT
  allow : Bool
def DR.ok (A : Alm) (r : DR) : Bool := decide (r.whens.length ≤ 6) && r.whens.all (DT.ok A)
/-- the value v is a rule -/
def RuleAt (w : World) (v : Value) (r : DR) : Prop :=
  ∃ a cp, v = .agg #[.slice a r.whens.length cp, .bool r.allow] ∧ r.whens.length ≤ 1000000000 ∧ Elems Tryz.prog 42 5 w a (r.whens.map DT.enc)
theorem RuleAt.later {w w' : World} {v : Value} {r : DR} (h : RuleAt w v r) (he : Ext w w') : RuleAt w' v r :=
  let ⟨a, cp, hv, hl, hx⟩ := h
  ⟨a, cp, hv, hl, hx.later he⟩
/-- the rules rs lie at address a -/
def RulesV (w : World) (a : Option Addr) (rs : List DR) (vs : List Value) : Prop :=
  rs.length ≤ 1000000000 ∧ vs.length = rs.length ∧ Elems Tryz.prog 38 2 w a vs ∧ ∀ (i : Nat) (v : Value) (r : DR), vs[i]? = some v → rs[i]? = some r → RuleAt w v r
def RulesAt (w : World) (a : Option Addr) (rs : List DR) : Prop := ∃ vs, RulesV w a rs vs
theorem RulesV.later {w w' : World} {a : Option Addr} {rs : List DR} {vs : List Value} (h : RulesV w a rs vs) (he : Ext w w') : RulesV w' a rs vs :=
  let ⟨hl, hn, hx, hr⟩ := h
  ⟨hl, hn, hx.later he, fun i v r hv hr' => (hr i v r hv hr').later he⟩
theorem RulesAt.later {w w' : World} {a : Option Addr} {rs : List DR} (h : RulesAt w a rs) (he : Ext w w') : RulesAt w' a rs :=
  let ⟨vs, hv⟩ := h
  ⟨vs, hv.later he⟩
def okRules (A : Alm) (rs : List DR) : Bool := rs.all (DR.ok A)
def Alm.cells (A : Alm) (a : Option Addr) (cp : Nat) : Array Value := #[.slice a A.cycles.length cp, .int .i64 A.sol.every, .int .i64 A.sol.but, .int .i64 A.sol.unl,
  .int .i64 A.lun.days, .int .i64 A.lun.per, .int .i64 A.lun.phase, .int .i64 A.lun.months, .int .i64 A.lun.years, .int .i64 A.lun.shift, .int .i64 A.lun.leap]
/-- an almanac lies in a block of its own -/
def AlmBox (w : World) (A : Alm) (b : Nat) : Prop := ∃ a cp, AlmAt w A a ∧ w.heap[b]? = some (.cells (A.cells a cp) 32)
theorem AlmBox.later {w w' : World} {A : Alm} {b : Nat} (h : AlmBox w A b) (he : Ext w w') : AlmBox w' A b :=
  let ⟨a, cp, ha, hb⟩ := h
  ⟨a, cp, ha.later he, he.blk' hb⟩
theorem allDT (A : Alm) (ts : List DT) : (ts.all (DT.ok A)) = !(ts.any fun t => !t.ok A) := by rw [List.all_eq_not_any_not]

theorem check11_any (A : Alm) (b : Nat) (t : DT) (w : World) (h : AlmBox w A b) (hc : okCycles A.cycles = true) :
    Calls Tryz.prog 69 #[t.enc, .pointer (some ⟨b, 0, none⟩)] w fun e w' => e = .returned (.bool (!t.ok A)) ∧ Ext w w' := by
  obtain ⟨a, cp, ha, hb⟩ := h
  have hbs : b < w.heap.size := lt_of_block hb
  obtain ⟨kind, which, set, frm, to⟩ := t
  have HA := hid (ha.later ((Ext.refl w).alloc (.cells #[.int .i64 kind, .int .i64 which, .int .u64 set, .int .i64 frm, .int .i64 to] 42)))
  have hk := cellsOf hb
  obtain ⟨cs, ⟨s1, s2, s3⟩, ⟨l1, l2, l3, l4, l5, l6, l7⟩⟩ := A
  simp only [Alm.cells] at hk
  unfold DT.enc
  have HB := hid hb
  clear ha hb
  go_enter Tryz.func69, Tryz.ntmps69
  go_wp2_with (go_at_call 70; refine (isTest_any ⟨cs, ⟨s1, s2, s3⟩, ⟨l1, l2, l3, l4, l5, l6, l7⟩⟩ a cp ⟨kind, which, set, frm, to⟩ _ HA.out hc).mono ?_; rintro e w' ⟨rfl, hb⟩; have hE := Ext.trans (a := w) (by (repeat (first | (with_reducible assumption) | (with_reducible exact Ext.refl _) | (with_reducible refine Ext.alloc ?_ _) | (with_reducible refine Ext.drew ?_)))) hb; clear hb)
  go_ret
  exact ⟨rfl, hE⟩

theorem check1_any (A : Alm) (b : Nat) (v : Value) (r : DR) (w : World) (h : AlmBox w A b) (hv : RuleAt w v r) (hc : okCycles A.cycles = true) :
    Calls Tryz.prog 68 #[v, .pointer (some ⟨b, 0, none⟩)] w fun e w' => e = .returned (.bool (!r.ok A)) ∧ Ext w w' := by
  obtain ⟨a, cp, rfl, hl, hx⟩ := hv
  obtain ⟨ts, al⟩ := r
  dsimp only at hl hx
  dsimp only
  have he : Ext w (w.alloc (.cells #[.slice a ts.length cp, .bool al] 38)) := (Ext.refl w).alloc _
  have hh := h.later he
  have hc2 := containsDayTest 69 #[.pointer (some ⟨b, 0, none⟩)] (fun i => match ts[i]? with | some t => !t.ok A | none => false) (ts.map DT.enc) a cp (w.alloc (.cells #[.slice a ts.length cp, .bool al] 38)) (by simpa using hl)
    (enters Tryz.func69 (by kernel_rfl) rfl) (hx.later he) (fun i x hi _ w' hw' => by
      rw [List.getElem?_map] at hi
      obtain ⟨t, ht, rfl⟩ := Option.map_eq_some_iff.1 hi
      simp only [ht]
      exact check11_any A b t w' (hh.later hw') hc)
  rw [List.length_map, anyN_list ts (fun t => !t.ok A) _ (fun i x hi => by simp only [hi])] at hc2
  have HC := hid hc2
  have HL := hid hl
  have e : ∀ x, DR.ok A ⟨ts, al⟩ = x ↔ (decide (ts.length ≤ 6) && !(ts.any fun t => !t.ok A)) = x := fun x => by rw [DR.ok, allDT]
  have HE := hid e
  have hm : ∀ (fn : Fn) (first cap : Array Value) (w : World), (Instr.makeFunc fn first cap).run Tryz.prog w = .ok (.func fn first cap) w := fun _ _ _ _ => rfl
  clear hc2 hx hh he h hc e
  go_enter Tryz.func68, Tryz.ntmps68
  go_wp2_with (go_at_call 61; refine (HC.out).mono ?_; rintro e w' ⟨rfl, hb⟩; have hE := Ext.trans (a := w) (by (repeat (first | (with_reducible assumption) | (with_reducible exact Ext.refl _) | (with_reducible refine Ext.alloc ?_ _) | (with_reducible refine Ext.drew ?_)))) hb; clear hb)
  all_goals
    go_ret
    refine ⟨ret_bool ?_, by (repeat (first | (with_reducible assumption) | (with_reducible exact Ext.refl _) | (with_reducible refine Ext.alloc ?_ _) | (with_reducible refine Ext.drew ?_)))⟩
  · rw [(HE.out _).2 rfl]
    simp [show ts.length ≤ 6 by omega, show ¬ (6 : Int) < ts.length by omega]
  · rw [(HE.out _).2 rfl]
    simp [show ¬ ts.length ≤ 6 by omega]

def errRules (A : Alm) (rs : List DR) : Int := if 30 < rs.length then 5 else if okRules A rs then 0 else 4
def errBoth (A : Alm) (rs : List DR) : Int := if errAlm A = 0 then errRules A rs else errAlm A
theorem check_any (A : Alm) (a : Option Addr) (cp : Nat) (rs : List DR) (ra : Option Addr) (rc : Nat) (w : World) (h : AlmAt w A a) (hr : RulesAt w ra rs) (hc : okCycles A.cycles = true) :
    Calls Tryz.prog 29 #[A.val a cp, .slice ra rs.length rc] w fun e w' => e = .returned (.int .i64 (errRules A rs)) ∧ Ext w w' := by
  have he : Ext w (w.alloc (.cells (A.cells a cp) 32)) := (Ext.refl w).alloc _
  have hB : AlmBox (w.alloc (.cells (A.cells a cp) 32)) A w.heap.size := ⟨a, cp, h.later he, heap_alloc_new w _⟩
  obtain ⟨vs, hl, hn, hx, hv⟩ := hr
  have hc2 := containsDayRule 68 #[.pointer (some ⟨w.heap.size, 0, none⟩)] (fun i => match rs[i]? with | some r => !r.ok A | none => false) vs ra rc (w.alloc (.cells (A.cells a cp) 32)) (by omega)
    (enters Tryz.func68 (by kernel_rfl) rfl) (hx.later he) (fun i x hi _ w' hw' => by
      obtain ⟨r, hr⟩ : ∃ r, rs[i]? = some r := ⟨_, List.getElem?_eq_getElem (by have := (List.getElem?_eq_some_iff.1 hi).1; omega)⟩
      simp only [hr]
      exact check1_any A w.heap.size x r w' (hB.later hw') ((hv i x r hi hr).later (he.trans hw')) hc)
  rw [hn, anyN_list rs (fun r => !r.ok A) _ (fun i x hi => by simp only [hi])] at hc2
  have e : okRules A rs = !(rs.any fun r => !r.ok A) := by unfold okRules; rw [List.all_eq_not_any_not]
  rw [show (rs.any fun r => !r.ok A) = !okRules A rs by rw [e]; simp] at hc2
  obtain ⟨cs, ⟨s1, s2, s3⟩, ⟨l1, l2, l3, l4, l5, l6, l7⟩⟩ := A
  simp only [Alm.cells] at hc2
  unfold Alm.val
  have HC := hid hc2
  have hm : ∀ (fn : Fn) (first cap : Array Value) (w : World), (Instr.makeFunc fn first cap).run Tryz.prog w = .ok (.func fn first cap) w := fun _ _ _ _ => rfl
  clear hc2 hx hB he h hc e hv hn
  go_enter Tryz.func29, Tryz.ntmps29
  go_wp2_with (go_at_call 67; refine (HC.out).mono ?_; rintro e w' ⟨rfl, hb⟩; have hE := Ext.trans (a := w) (by (repeat (first | (with_reducible assumption) | (with_reducible exact Ext.refl _) | (with_reducible refine Ext.alloc ?_ _) | (with_reducible refine Ext.drew ?_)))) hb; clear hb)
  all_goals
    go_ret
    exact ⟨ret_int (by grind [errRules]), by (repeat (first | (with_reducible assumption) | (with_reducible exact Ext.refl _) | (with_reducible refine Ext.alloc ?_ _) | (with_reducible refine Ext.drew ?_)))⟩

theorem both_any (A : Alm) (a : Option Addr) (cp : Nat) (rs : List DR) (ra : Option Addr) (rc : Nat) (w : World) (h : AlmAt w A a) (hr : RulesAt w ra rs) :
    Calls Tryz.prog 11 #[A.val a cp, .slice ra rs.length rc] w fun e w' => e = .returned (.int .i64 (errBoth A rs)) ∧ Ext w w' := by
  have he : Ext w (w.alloc (.cells (A.cells a cp) 32)) := (Ext.refl w).alloc _
  have hB := hid (heap_alloc_new w (.cells (A.cells a cp) 32))
  have hh := hid h
  have hhr := hid hr
  obtain ⟨cs, ⟨s1, s2, s3⟩, ⟨l1, l2, l3, l4, l5, l6, l7⟩⟩ := A
  simp only [Alm.cells] at hB he
  unfold Alm.val
  have HE := hid he
  clear h hr he
  by_cases hA : errAlm ⟨cs, ⟨s1, s2, s3⟩, ⟨l1, l2, l3, l4, l5, l6, l7⟩⟩ = 0
  · have hcy := Alm.ok_cycles (errAlm_ok hA)
    have HA := hid hA
    go_enter Tryz.func11, Tryz.ntmps11
    go_wp2_with (first | (go_at_call 28; refine (Check_any ⟨cs, ⟨s1, s2, s3⟩, ⟨l1, l2, l3, l4, l5, l6, l7⟩⟩ a cp _ (hh.out.later HE.out)).mono ?_; rintro e w' ⟨rfl, hb⟩; have hE := Ext.trans (a := w) (by (repeat (first | (with_reducible assumption) | (with_reducible exact Ext.refl _) | (with_reducible refine Ext.alloc ?_ _) | (with_reducible refine Ext.drew ?_)))) hb; have hB := hid (hb.blk' hB.out); have hk := cellsOf hB.out; clear hb) | (go_at_call 29; refine (check_any ⟨cs, ⟨s1, s2, s3⟩, ⟨l1, l2, l3, l4, l5, l6, l7⟩⟩ a cp rs ra rc _ (hh.out.later hE) (hhr.out.later hE) hcy).mono ?_; rintro e w' ⟨rfl, hb⟩; have hE := Ext.trans (a := w) (by (repeat (first | (with_reducible assumption) | (with_reducible exact Ext.refl _) | (with_reducible refine Ext.alloc ?_ _) | (with_reducible refine Ext.drew ?_)))) hb; clear hb))
    go_ret
    exact ⟨ret_int (by simp [errBoth, HA.out]), by assumption⟩
  · have HA := hid hA
    go_enter Tryz.func11, Tryz.ntmps11
    go_wp2_with (first | (go_at_call 28; refine (Check_any ⟨cs, ⟨s1, s2, s3⟩, ⟨l1, l2, l3, l4, l5, l6, l7⟩⟩ a cp _ (hh.out.later HE.out)).mono ?_; rintro e w' ⟨rfl, hb⟩; have hE := Ext.trans (a := w) (by (repeat (first | (with_reducible assumption) | (with_reducible exact Ext.refl _) | (with_reducible refine Ext.alloc ?_ _) | (with_reducible refine Ext.drew ?_)))) hb; have hB := hid (hb.blk' hB.out); have hk := cellsOf hB.out; clear hb))
    go_ret
    exact ⟨ret_int (by simp [errBoth, HA.out]), by assumption⟩
end Go.Proofs.YtgjahejhpkbecaaGreatDoor
