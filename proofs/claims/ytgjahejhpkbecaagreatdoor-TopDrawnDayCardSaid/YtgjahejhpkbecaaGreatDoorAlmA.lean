/- Almanacs: numbers in range, cycles, rules of the sun and of the moon, and whether an almanac is valid: what the functions return. -/
import Derived.Test.YtgjahejhpkbecaaGreatDoorFuncs
namespace Go.Proofs.YtgjahejhpkbecaaGreatDoor
open Go.RowKit

def withinB (n l m : Int) : Bool := decide (l ≤ n) && decide (n ≤ m)
theorem withinB_true {n l m : Int} : withinB n l m = true ↔ l ≤ n ∧ n ≤ m := by simp [withinB]
theorem withinB_false {n l m : Int} : withinB n l m = false ↔ ¬ (l ≤ n ∧ n ≤ m) := by rw [← withinB_true]; cases withinB n l m <;> simp
theorem withinB_t {n l m : Int} (h : l ≤ n ∧ n ≤ m) : withinB n l m = true := withinB_true.2 h
theorem withinB_f {n l m : Int} (h : ¬ (l ≤ n ∧ n ≤ m)) : withinB n l m = false := withinB_false.2 h

structure Cyc where
  len : Int
  start : Int
def Cyc.enc (c : Cyc) : Value := .agg #[.int .i64 c.len, .int .i64 c.start]
def Cyc.ok (c : Cyc) : Bool := withinB c.len 1 64 && withinB c.start 0 (c.len - 1)
structure Sol where
  every : Int
  but : Int
  unl : Int
def Sol.ok (s : Sol) : Bool := withinB s.every 0 100000 && withinB s.but 0 100000 && withinB s.unl 0 100000
structure Lun where
  days : Int
  per : Int
  phase : Int
  months : Int
  years : Int
  shift : Int
  leap : Int
def Lun.ok (r : Lun) : Bool := withinB r.per 1 100000 && withinB r.days (27 * r.per) (31 * r.per) && withinB r.phase 0 (r.per - 1) && withinB r.years 1 100000 && withinB r.months (12 * r.years) (13 * r.years) && withinB r.shift 0 (r.years - 1) && withinB r.leap 1 12
structure Alm where
  cycles : List Cyc
  sol : Sol
  lun : Lun
def okCycles (cs : List Cyc) : Bool := cs.all Cyc.ok
def Alm.ok (A : Alm) : Bool := decide (A.cycles.length ≤ 8) && okCycles A.cycles && A.sol.ok && A.lun.ok
def Sol.enc (s : Sol) : Value := .agg #[.int .i64 s.every, .int .i64 s.but, .int .i64 s.unl]
def Lun.enc (r : Lun) : Value := .agg #[.int .i64 r.days, .int .i64 r.per, .int .i64 r.phase, .int .i64 r.months, .int .i64 r.years, .int .i64 r.shift, .int .i64 r.leap]
/-- the value of an almanac whose cycles lie at address a -/
def Alm.val (A : Alm) (a : Option Addr) (cp : Nat) : Value := .agg #[.slice a A.cycles.length cp, .int .i64 A.sol.every, .int .i64 A.sol.but, .int .i64 A.sol.unl,
  .int .i64 A.lun.days, .int .i64 A.lun.per, .int .i64 A.lun.phase, .int .i64 A.lun.months, .int .i64 A.lun.years, .int .i64 A.lun.shift, .int .i64 A.lun.leap]

theorem within_any (n l m : Int) (w : World) :
    Calls Tryz.prog 30 #[.int .i64 n, .int .i64 l, .int .i64 m] w fun e w' => e = .returned (.bool (withinB n l m)) ∧ w = w' := by
  by_cases h : l ≤ n <;> by_cases h' : n ≤ m
  all_goals
    go_enter Tryz.func30, Tryz.ntmps30
    go_wp2
    go_ret
    exact ⟨ret_bool (by simp [withinB, *]), rfl⟩

theorem isDay_any (n : Int) (w : World) :
    Calls Tryz.prog 21 #[.int .i64 n] w fun e w' => e = .returned (.bool (withinB n 0 1000000)) ∧ w = w' := by
  go_enter Tryz.func21, Tryz.ntmps21
  go_wp2_with (go_at_call 30; refine (within_any _ _ _ _).mono ?_; rintro e w' ⟨rfl, rfl⟩)
  go_ret
  exact ⟨rfl, rfl⟩

theorem isCycle_any (c : Cyc) (w : World) :
    Calls Tryz.prog 85 #[c.enc] w fun e w' => e = .returned (.bool c.ok) ∧ Ext w w' := by
  obtain ⟨l, s⟩ := c
  unfold Cyc.enc
  by_cases h : 1 ≤ l ∧ l ≤ 64
  · have e := hid (withinB_t h)
    have H : withinB l 1 64 = true := withinB_t h
    go_enter Tryz.func85, Tryz.ntmps85
    go_wp2_with (go_at_call 30; refine (within_any _ _ _ _).mono ?_; rintro e w' ⟨rfl, rfl⟩)
    go_ret
    exact ⟨ret_bool (by simp [Cyc.ok, H]), by unfold Ext; go_grown⟩
  · have H : withinB l 1 64 = false := withinB_f h
    go_enter Tryz.func85, Tryz.ntmps85
    go_wp2_with (go_at_call 30; refine (within_any _ _ _ _).mono ?_; rintro e w' ⟨rfl, rfl⟩)
    go_ret
    exact ⟨ret_bool (by simp [Cyc.ok, H]), by unfold Ext; go_grown⟩


theorem isSolar_any (s : Sol) (w : World) :
    Calls Tryz.prog 65 #[s.enc] w fun e w' => e = .returned (.bool s.ok) ∧ Ext w w' := by
  obtain ⟨a, b, c⟩ := s
  unfold Sol.enc
  go_enter Tryz.func65, Tryz.ntmps65
  go_wp2_with (go_at_call 30; refine (within_any _ _ _ _).mono ?_; rintro e w' ⟨rfl, rfl⟩)
  all_goals
    go_ret
    exact ⟨ret_bool (by simp [Sol.ok, *]), by unfold Ext; go_grown⟩

set_option maxHeartbeats 400000 in
theorem isLunar_any (r : Lun) (w : World) :
    Calls Tryz.prog 66 #[r.enc] w fun e w' => e = .returned (.bool r.ok) ∧ Ext w w' := by
  obtain ⟨days, per, phase, months, years, shift, leap⟩ := r
  unfold Lun.enc
  by_cases h1 : 1 ≤ per ∧ per ≤ 100000
  · have H1 : withinB per 1 100000 = true := withinB_t h1
    by_cases h4 : 1 ≤ years ∧ years ≤ 100000
    · have H4 : withinB years 1 100000 = true := withinB_t h4
      go_enter Tryz.func66, Tryz.ntmps66
      go_wp2_with (go_at_call 30; refine (within_any _ _ _ _).mono ?_; rintro e w' ⟨rfl, rfl⟩)
      all_goals
        go_ret
        exact ⟨ret_bool (by simp [Lun.ok, *]), by unfold Ext; go_grown⟩
    · have H4 : withinB years 1 100000 = false := withinB_f h4
      go_enter Tryz.func66, Tryz.ntmps66
      go_wp2_with (go_at_call 30; refine (within_any _ _ _ _).mono ?_; rintro e w' ⟨rfl, rfl⟩)
      all_goals
        go_ret
        exact ⟨ret_bool (by simp [Lun.ok, *]), by unfold Ext; go_grown⟩
  · have H1 : withinB per 1 100000 = false := withinB_f h1
    go_enter Tryz.func66, Tryz.ntmps66
    go_wp2_with (go_at_call 30; refine (within_any _ _ _ _).mono ?_; rintro e w' ⟨rfl, rfl⟩)
    go_ret
    exact ⟨ret_bool (by simp [Lun.ok, H1]), by unfold Ext; go_grown⟩

theorem areCycles1_any (c : Cyc) (w : World) :
    Calls Tryz.prog 84 #[c.enc] w fun e w' => e = .returned (.bool (!c.ok)) ∧ Ext w w' := by
  obtain ⟨l, s⟩ := c
  unfold Cyc.enc
  go_enter Tryz.func84, Tryz.ntmps84
  go_wp2_with (go_at_call 85; refine (isCycle_any ⟨l, s⟩ _).mono ?_; rintro e w' ⟨rfl, hb⟩)
  go_ret
  exact ⟨rfl, ((Ext.refl _).alloc _).trans hb⟩

theorem areCycles_any (cs : List Cyc) (a : Option Addr) (cp : Nat) (w : World) (hl : cs.length ≤ 1000000000) (hx : Elems Tryz.prog 35 2 w a (cs.map Cyc.enc)) :
    Calls Tryz.prog 64 #[.slice a cs.length cp] w fun e w' => e = .returned (.bool (okCycles cs)) ∧ Ext w w' := by
  have hc := containsCycle 84 #[] (fun i => match cs[i]? with | some c => !c.ok | none => false) (cs.map Cyc.enc) a cp w (by simpa using hl)
    (enters Tryz.func84 (by kernel_rfl) rfl) hx (fun i x hi _ w' _ => by
      rw [List.getElem?_map] at hi
      obtain ⟨c, hc, rfl⟩ := Option.map_eq_some_iff.1 hi
      simp only [hc]
      exact areCycles1_any c w')
  rw [List.length_map, anyN_list cs (fun c => !c.ok) _ (fun i x hi => by simp only [hi])] at hc
  have e : okCycles cs = !cs.any fun c => !c.ok := by unfold okCycles; rw [List.all_eq_not_any_not]
  rw [e]
  have HC := hid hc
  clear hc e
  go_enter Tryz.func64, Tryz.ntmps64
  go_wp2_with (go_at_call 83; refine HC.out.mono ?_; rintro e w' ⟨rfl, hb⟩)
  go_ret
  exact ⟨rfl, by assumption⟩

end Go.Proofs.YtgjahejhpkbecaaGreatDoor
