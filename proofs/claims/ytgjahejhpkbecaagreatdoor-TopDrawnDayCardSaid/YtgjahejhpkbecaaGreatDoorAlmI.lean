/- Almanacs, continued: is a day allowed? -/
import Derived.Test.YtgjahejhpkbecaaGreatDoorAlmH
namespace Go.Proofs.YtgjahejhpkbecaaGreatDoor
open Go.RowKit

/-- is a day allowed? -/
def allowB (A : Alm) (rs : List DR) (day : Int) : Bool := match rs[(decF A rs day).toNat]? with | some r => decide (0 ≤ decF A rs day) && r.allow | none => false
theorem allowB_miss {A : Alm} {rs : List DR} {day : Int} (h : decF A rs day = -1) : allowB A rs day = false := by
  unfold allowB; rw [h]; split <;> rfl
theorem allowB_hit {A : Alm} {rs : List DR} {day : Int} {k : Nat} {r : DR} (h : decF A rs day = k) (hr : rs[k]? = some r) : allowB A rs day = r.allow := by
  unfold allowB; rw [h]; simp [hr]
theorem decF_cases (A : Alm) (rs : List DR) (day : Int) : decF A rs day = -1 ∨ ∃ k r, decF A rs day = (k : Nat) ∧ rs[k]? = some r := by
  have := lastN_bounds (ruleAt A rs day) rs.length
  have h : decF A rs day = lastN (ruleAt A rs day) rs.length := rfl
  by_cases h0 : 0 ≤ decF A rs day
  · right
    refine ⟨(decF A rs day).toNat, _, by omega, List.getElem?_eq_getElem (by omega)⟩
  · left; omega
/-- a rule's word, where the rules lie -/
theorem RulesV.word {w : World} {ra : Option Addr} {rs : List DR} {vs : List Value} (h : RulesV w ra rs vs) {k : Nat} {r : DR} (hr : rs[k]? = some r) : ∃ b off, ra = some ⟨b, off, none⟩ ∧ w.cell? ⟨b, off + k * 2 + 1, none⟩ = some (.bool r.allow) := by
  obtain ⟨hl, hn, hx, hv⟩ := h
  have hk : k < vs.length := by rw [hn]; exact (List.getElem?_eq_some_iff.1 hr).1
  obtain ⟨a, cp, e, _, _⟩ := hv k _ r (List.getElem?_eq_getElem hk) hr
  obtain ⟨b, off, rfl⟩ := hx.addr hk
  exact ⟨b, off, rfl, hx.cell (i := k) (cs := #[.slice a r.whens.length cp, .bool r.allow]) (by rw [List.getElem?_eq_getElem hk, e]) 1 _ rfl⟩

set_option maxHeartbeats 1000000 in
theorem allows_any (Z : Nat → Prop) (w : World) (l : Nat) (A : Alm) (day : Int) (q : Ids) (rs : List DR) (ra : Option Addr) (rc : Nat) (hZ : ∀ k, Z k → k < w.heap.size) (h : LookAt Z w l A day q) (hr : RulesS (· = l) w ra rs)
    (hd : 0 ≤ day ∧ day ≤ 1000000) (hT : ∀ r ∈ rs, ∀ t ∈ r.whens, TestRuns A t) :
    Calls Tryz.prog 34 #[.pointer (some ⟨l, 0, none⟩), .slice ra rs.length rc] w fun e w' => e = .returned (.bool (allowB A rs day)) ∧ LookAt Z w' l A day q ∧ Keep (· = l) w w' := by
  have c1 := hid (decides_any Z w l A day q rs ra rc hZ h hr hd hT)
  obtain ⟨vs, hvs⟩ := hr
  have hn := hvs.now.1
  rcases decF_cases A rs day with hk | ⟨k, r, hk, hr⟩
  · rw [hk] at c1
    have e := hid (allowB_miss hk)
    clear hvs hk h
    go_enter Tryz.func34, Tryz.ntmps34
    go_wp2_with (go_at_call 24; refine c1.out.mono ?_; rintro e w' ⟨rfl, hL, hK⟩)
    go_ret
    exact ⟨by rw [e.out]; rfl, hL, hK⟩
  · rw [hk] at c1
    have e := hid (allowB_hit hk hr)
    have hkn : k < rs.length := (List.getElem?_eq_some_iff.1 hr).1
    obtain ⟨b, off, rfl, _⟩ := hvs.now.word hr
    have HV := hid hvs
    have HR := hid hr
    clear hvs hk h hr
    go_enter Tryz.func34, Tryz.ntmps34
    go_wp2_with (go_at_call 24; refine c1.out.mono ?_; rintro e w' ⟨rfl, hL, hK⟩; have hc : w'.cell? ⟨b, off + k * 2 + 1, none⟩ = some (.bool r.allow) := (by obtain ⟨b', off', e1, e2⟩ := (HV.out w' hK).word HR.out; cases e1; exact e2))
    go_ret
    exact ⟨by rw [e.out]; rfl, hL, hK⟩

theorem days11_any (Z : Nat → Prop) (w : World) (l lb : Nat) (A : Alm) (day : Int) (q : Ids) (rs : List DR) (ra : Option Addr) (rc : Nat) (hZ : ∀ k, Z k → k < w.heap.size) (h : LookAt Z w l A day q) (hr : RulesS (· = l) w ra rs)
    (hd : 0 ≤ day ∧ day ≤ 1000000) (hT : ∀ r ∈ rs, ∀ t ∈ r.whens, TestRuns A t) (hlb : w.heap[lb]? = some (.cells #[.pointer (some ⟨l, 0, none⟩)] 76)) :
    Calls Tryz.prog 33 #[.slice ra rs.length rc, .pointer (some ⟨lb, 0, none⟩)] w fun e w' => e = .returned (.bool (!allowB A rs day)) ∧ LookAt Z w' l A day q ∧ Keep (· = l) w w' := by
  have c1 := hid (allows_any Z w l A day q rs ra rc hZ h hr hd hT)
  have hk := cellsOf hlb
  clear hr h hlb
  go_enter Tryz.func33, Tryz.ntmps33
  go_wp2_with (go_at_call 34; refine c1.out.mono ?_; rintro e w' ⟨rfl, hL, hK⟩)
  go_ret
  exact ⟨rfl, hL, hK⟩

/-- a question about a day -/
def retAllowed (A : Alm) (rs : List DR) (day : Int) : Value := .tuple #[.bool (allowB A rs day), .int .i64 (decF A rs day), .int .i64 0]
set_option maxRecDepth 20000 in
set_option maxHeartbeats 1000000 in
theorem Allowed_any (A : Alm) (a : Option Addr) (cp : Nat) (rs : List DR) (ra : Option Addr) (rc : Nat) (day : Int) (w : World) (ha : AlmAt w A a) (hr : RulesAt w ra rs) (hz : errBoth A rs = 0)
    (hd : 0 ≤ day ∧ day ≤ 1000000) (hT : ∀ r ∈ rs, ∀ t ∈ r.whens, TestRuns A t) :
    Calls Tryz.prog 9 #[A.val a cp, .slice ra rs.length rc, .int .i64 day] w fun e w' => e = .returned (retAllowed A rs day) ∧ Ext w w' := by
  have he : Ext w (w.alloc (.cells (A.cells a cp) 32)) := (Ext.refl w).alloc _
  have hB := hid (heap_alloc_new w (.cells (A.cells a cp) 32))
  have hh := hid ha
  obtain ⟨vs, hvs⟩ := hr
  have hn := hvs.1
  have hin : withinB day 0 1000000 = true := withinB_t hd
  have hi := hid hin
  obtain ⟨cs, ⟨s1, s2, s3⟩, ⟨l1, l2, l3, l4, l5, l6, l7⟩⟩ := A
  have hc1 := fun w' (h : Ext w w') => both_any ⟨cs, ⟨s1, s2, s3⟩, ⟨l1, l2, l3, l4, l5, l6, l7⟩⟩ a cp rs ra rc w' (ha.later h) ⟨vs, hvs.later h⟩
  rw [hz] at hc1
  have c1 := hid hc1
  have hT := hid hT
  have hv := hid hvs
  unfold Alm.val
  simp only [Alm.cells] at hB he
  clear ha he hvs hin hz hc1
  rcases decF_cases ⟨cs, ⟨s1, s2, s3⟩, ⟨l1, l2, l3, l4, l5, l6, l7⟩⟩ rs day with hk | ⟨k, r, hk, hr⟩
  · have e := hid (allowB_miss hk)
    have e2 : retAllowed ⟨cs, ⟨s1, s2, s3⟩, ⟨l1, l2, l3, l4, l5, l6, l7⟩⟩ rs day = .tuple #[.bool false, .int .i64 (-1), .int .i64 0] := by rw [retAllowed, e.out, hk]
    have H2 := hid hk
    rw [e2]
    clear hk e2 e
    go_enter Tryz.func9, Tryz.ntmps9
    go_wp2_with (first | (go_at_call 11; refine (c1.out _ (by (repeat (first | (with_reducible assumption) | (with_reducible exact Ext.refl _) | (with_reducible refine Ext.alloc ?_ _) | (with_reducible refine Ext.drew ?_))))).mono ?_; rintro e w' ⟨rfl, hb⟩; have hE := Ext.trans (a := w) (by (repeat (first | (with_reducible assumption) | (with_reducible exact Ext.refl _) | (with_reducible refine Ext.alloc ?_ _) | (with_reducible refine Ext.drew ?_)))) hb; have hB := hid (hb.blk' hB.out); have hk := cellsOf hB.out; clear hb) | (go_at_call 21; refine (isDay_any _ _).mono ?_; rintro e w' ⟨rfl, rfl⟩; rw [hi.out]) | (go_at_call 22; refine (newLook_any ⟨cs, ⟨s1, s2, s3⟩, ⟨l1, l2, l3, l4, l5, l6, l7⟩⟩ a cp _ (fun _ => False) (fun _ h => h.elim) (fun w' hk => hh.out.later (hE.trans (hk.ext fun _ _ h => h)))).mono ?_; rintro e w2 ⟨l, q, rfl, hl1, hl2, hL2, hE2⟩; have hlw : w.heap.size ≤ l := Nat.le_trans hE.size hl1; replace hE2 := hE.trans hE2; clear hE) | (go_at_call 23; refine (at_any _ _ l _ day q hL2.zero).mono ?_; rintro e w3 ⟨rfl, hL3, hK3⟩; have hE3 : Ext w w3 := hK3.ext_of hE2 (fun k h1 h2 => by omega); clear hK3 hE2 hL2) | ((go_at_call 24; refine (decides_any _ _ l _ day q rs _ rc (fun _ h => h.elim) hL3 ⟨vs, fun w' hk => hv.out.later (hk.ext_of hE3 (fun k h1 h2 => by omega))⟩ hd hT.out).mono ?_; rintro e w4 ⟨rfl, hL4, hK4⟩; have hE : Ext w w4 := hK4.ext_of hE3 (fun k h1 h2 => by omega); clear hK4 hE3 hL3 hL4); rw [H2.out]))
    refine bodyPost_ret (results_tmp3 rfl _ _ _) rfl ?_
    exact ⟨rfl, hE⟩
  · have e := hid (allowB_hit hk hr)
    have e2 : retAllowed ⟨cs, ⟨s1, s2, s3⟩, ⟨l1, l2, l3, l4, l5, l6, l7⟩⟩ rs day = .tuple #[.bool r.allow, .int .i64 (k : Int), .int .i64 0] := by rw [retAllowed, e.out, hk]
    have hkn : k < rs.length := (List.getElem?_eq_some_iff.1 hr).1
    obtain ⟨b, off, rfl, _⟩ := hv.out.word hr
    have H2 := hid hk
    have H3 := hid hr
    rw [e2]
    clear hk e2 e hr
    go_enter Tryz.func9, Tryz.ntmps9
    go_wp2_with (first | (go_at_call 11; refine (c1.out _ (by (repeat (first | (with_reducible assumption) | (with_reducible exact Ext.refl _) | (with_reducible refine Ext.alloc ?_ _) | (with_reducible refine Ext.drew ?_))))).mono ?_; rintro e w' ⟨rfl, hb⟩; have hE := Ext.trans (a := w) (by (repeat (first | (with_reducible assumption) | (with_reducible exact Ext.refl _) | (with_reducible refine Ext.alloc ?_ _) | (with_reducible refine Ext.drew ?_)))) hb; have hB := hid (hb.blk' hB.out); have hk := cellsOf hB.out; clear hb) | (go_at_call 21; refine (isDay_any _ _).mono ?_; rintro e w' ⟨rfl, rfl⟩; rw [hi.out]) | (go_at_call 22; refine (newLook_any ⟨cs, ⟨s1, s2, s3⟩, ⟨l1, l2, l3, l4, l5, l6, l7⟩⟩ a cp _ (fun _ => False) (fun _ h => h.elim) (fun w' hk => hh.out.later (hE.trans (hk.ext fun _ _ h => h)))).mono ?_; rintro e w2 ⟨l, q, rfl, hl1, hl2, hL2, hE2⟩; have hlw : w.heap.size ≤ l := Nat.le_trans hE.size hl1; replace hE2 := hE.trans hE2; clear hE) | (go_at_call 23; refine (at_any _ _ l _ day q hL2.zero).mono ?_; rintro e w3 ⟨rfl, hL3, hK3⟩; have hE3 : Ext w w3 := hK3.ext_of hE2 (fun k h1 h2 => by omega); clear hK3 hE2 hL2) | ((go_at_call 24; refine (decides_any _ _ l _ day q rs _ rc (fun _ h => h.elim) hL3 ⟨vs, fun w' hk => hv.out.later (hk.ext_of hE3 (fun k h1 h2 => by omega))⟩ hd hT.out).mono ?_; rintro e w4 ⟨rfl, hL4, hK4⟩; have hE : Ext w w4 := hK4.ext_of hE3 (fun k h1 h2 => by omega); clear hK4 hE3 hL3 hL4); rw [H2.out]; have hc : w4.cell? ⟨b, off + k * 2 + 1, none⟩ = some (.bool r.allow) := (by obtain ⟨b', off', e1, e2⟩ := (hv.out.later hE).word H3.out; cases e1; exact e2)))
    refine bodyPost_ret (results_tmp3 rfl _ _ _) rfl ?_
    exact ⟨rfl, hE⟩
end Go.Proofs.YtgjahejhpkbecaaGreatDoor
