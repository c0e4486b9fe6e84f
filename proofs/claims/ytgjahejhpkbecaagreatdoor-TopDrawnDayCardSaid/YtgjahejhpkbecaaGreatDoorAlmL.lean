/- Almanacs, continued: the next allowed day, and how many there are. -/
import Derived.Test.YtgjahejhpkbecaaGreatDoorAlmK
namespace Go.Proofs.YtgjahejhpkbecaaGreatDoor
open Go.RowKit
attribute [local go_sem] Oper.semAt_some

set_option maxRecDepth 20000 in
set_option maxHeartbeats 1000000 in
theorem Next_any (A : Alm) (a : Option Addr) (cp : Nat) (rs : List DR) (ra : Option Addr) (rc : Nat) (frm to : Int) (n : Nat) (w : World) (ha : AlmAt w A a) (hr : RulesAt w ra rs) (hz : errBoth A rs = 0)
    (hd : 0 ≤ frm ∧ frm + n ≤ 1000001 ∧ 1 ≤ n ∧ n ≤ 4001) (hto : to = frm + n - 1) (hT : ∀ r ∈ rs, ∀ t ∈ r.whens, TestRuns A t) :
    Calls Tryz.prog 7 #[A.val a cp, .slice ra rs.length rc, .int .i64 frm, .int .i64 to] w fun e w' =>
      e = .returned (.tuple #[.int .i64 (firstD (daysF (allowB A rs) frm n)), .int .i64 (firstE (daysF (allowB A rs) frm n))]) ∧ Ext w w' := by
  have he : Ext w (w.alloc (.cells (A.cells a cp) 32)) := (Ext.refl w).alloc _
  have hB := hid (heap_alloc_new w (.cells (A.cells a cp) 32))
  have hh := hid ha
  obtain ⟨vs, hvs⟩ := hr
  obtain ⟨cs, ⟨s1, s2, s3⟩, ⟨l1, l2, l3, l4, l5, l6, l7⟩⟩ := A
  have hc1 := fun w' (h : Ext w w') => both_any ⟨cs, ⟨s1, s2, s3⟩, ⟨l1, l2, l3, l4, l5, l6, l7⟩⟩ a cp rs ra rc w' (ha.later h) ⟨vs, hvs.later h⟩
  rw [hz] at hc1
  have c1 := hid hc1
  have hT := hid hT
  have hv := hid hvs
  have hto := hid hto
  unfold Alm.val
  simp only [Alm.cells] at hB he
  clear ha he hvs hz hc1
  go_enter Tryz.func7, Tryz.ntmps7
  go_wp2_with (first | (go_at_call 11; refine (c1.out _ (by (repeat (first | (with_reducible assumption) | (with_reducible exact Ext.refl _) | (with_reducible refine Ext.alloc ?_ _) | (with_reducible refine Ext.drew ?_))))).mono ?_; rintro e w' ⟨rfl, hb⟩; have hE := Ext.trans (a := w) (by (repeat (first | (with_reducible assumption) | (with_reducible exact Ext.refl _) | (with_reducible refine Ext.alloc ?_ _) | (with_reducible refine Ext.drew ?_)))) hb; have hB := hid (hb.blk' hB.out); have hk := cellsOf hB.out; clear hb) | (go_at_call 12; refine (isSpan_t _ _ _ (by have := hto.out; omega)).mono ?_; rintro e w' ⟨rfl, rfl⟩) |
    (go_at_call 13; refine (days_any (fun _ => False) _ ⟨cs, ⟨s1, s2, s3⟩, ⟨l1, l2, l3, l4, l5, l6, l7⟩⟩ a cp rs ra rc frm _ n w'.heap.size (fun _ h => h.elim) (heap_alloc_new _ _) (fun h => h) (fun w'' hk => hh.out.later ((hE.alloc _).trans (hk.ext fun _ _ h => h))) ⟨vs, fun w'' hk => hv.out.later ((hE.alloc _).trans (hk.ext fun _ _ h => h))⟩ (by omega) rfl hT.out).mono ?_; rintro e w2 ⟨⟨f, rfl, hs⟩, hb⟩; replace hE := (hE.alloc _).trans hb; clear hb) |
    (go_at_call 14; refine (first_any _ _ _ hs).mono ?_; rintro e w3 ⟨rfl, hb⟩; replace hE := hE.trans hb; clear hb))
  refine bodyPost_ret (results_tmp2 rfl _ _ _) rfl ?_
  exact ⟨rfl, hE⟩

set_option maxRecDepth 20000 in
set_option maxHeartbeats 1000000 in
theorem Count_any (A : Alm) (a : Option Addr) (cp : Nat) (rs : List DR) (ra : Option Addr) (rc : Nat) (frm to : Int) (n : Nat) (w : World) (ha : AlmAt w A a) (hr : RulesAt w ra rs) (hz : errBoth A rs = 0)
    (hd : 0 ≤ frm ∧ frm + n ≤ 1000001 ∧ 1 ≤ n ∧ n ≤ 4001) (hto : to = frm + n - 1) (hT : ∀ r ∈ rs, ∀ t ∈ r.whens, TestRuns A t) :
    Calls Tryz.prog 6 #[A.val a cp, .slice ra rs.length rc, .int .i64 frm, .int .i64 to] w fun e w' =>
      e = .returned (.tuple #[.int .i64 ((daysF (allowB A rs) frm n).length : Nat), .int .i64 0]) ∧ Ext w w' := by
  obtain ⟨W, hW⟩ : ∃ W, W = (w.alloc (.cells (A.cells a cp) 32)).alloc (.cells #[.int .i64 0] 3) := ⟨_, rfl⟩
  have he : Ext w W := by rw [hW]; exact ((Ext.refl w).alloc _).alloc _
  have hb : W.heap[w.heap.size]? = some (.cells (A.cells a cp) 32) := by rw [hW]; exact Ext.blk' ((Ext.refl _).alloc _) (heap_alloc_new w _)
  have hc : W.heap[w.heap.size + 1]? = some (.cells #[.int .i64 0] 3) := by
    rw [hW]; simpa using heap_alloc_new (w.alloc (.cells (A.cells a cp) 32)) (.cells #[.int .i64 0] 3)
  have hs : W.heap.size = w.heap.size + 1 + 1 := by rw [hW]; simp
  have hh := hid ha
  obtain ⟨vs, hvs⟩ := hr
  obtain ⟨cs, ⟨s1, s2, s3⟩, ⟨l1, l2, l3, l4, l5, l6, l7⟩⟩ := A
  have hB := hid hb
  have hC := hid hc
  have hc1 := fun w' (h : Ext w w') => both_any ⟨cs, ⟨s1, s2, s3⟩, ⟨l1, l2, l3, l4, l5, l6, l7⟩⟩ a cp rs ra rc w' (ha.later h) ⟨vs, hvs.later h⟩
  rw [hz] at hc1
  have c1 := hid hc1
  have hT := hid hT
  have hv := hid hvs
  have hto := hid hto
  have HE := hid he
  have hk := cellsOf hb
  unfold Alm.val
  simp only [Alm.cells] at hB hk hW
  have hfn : ∀ f, Fence.wide.fn f := fun _ => trivial
  have hdp : Fence.wide.depth = none := rfl
  refine (callsIn_wide (n := 0)).1 ?_
  refine callsIn_of_wp_marks Tryz.func6 rfl trivial ?_ rfl
  simp only [Tryz.ntmps6, List.size_toArray, List.length_cons, List.length_nil, Nat.reduceAdd, Nat.reduceSub, Array.replicate_succ, Array.replicate_zero, List.push_toArray, List.append_toArray, List.nil_append, List.cons_append]
  clear ha he hvs hz hc1 hb hc
  gi_wp2_with (first | (gi_at_call 11; rw [← hW]; refine (callsIn_wide.2 (c1.out W HE.out)).mono ?_; rintro e w' ⟨rfl, hb⟩; have hE := hb; have hB' := hid (hb.blk' hB.out); have hk' := cellsOf hB'.out; clear hb) |
    (gi_at_call 12; refine (callsIn_wide.2 (isSpan_t _ _ _ (by have := hto.out; omega))).mono ?_; rintro e w'' ⟨rfl, rfl⟩) |
    (gi_at_call 13; refine (callsIn_wide.2 (days_any (· = w.heap.size + 1) _ ⟨cs, ⟨s1, s2, s3⟩, ⟨l1, l2, l3, l4, l5, l6, l7⟩⟩ a cp rs ra rc frm _ n w'.heap.size (fun k h => by have := hE.size; simp; omega) (heap_alloc_new _ _) (by have := hE.size; omega) (fun w'' hk => hh.out.later ((HE.out.trans (hE.alloc _)).keep hk (X := fun _ => False) (fun k h1 h2 => by omega) |>.ext fun _ _ h => h)) ⟨vs, fun w'' hk => hv.out.later ((HE.out.trans (hE.alloc _)).keep hk (X := fun _ => False) (fun k h1 h2 => by omega) |>.ext fun _ _ h => h)⟩ (by omega) rfl hT.out)).mono ?_; rintro e w2 ⟨⟨f, rfl, hs⟩, hb⟩; replace hE := (hE.alloc _).trans hb; clear hb))
  obtain ⟨gf, lb, rfl, hen, hseq⟩ := hs
  have hsz := hE.size
  have HC := hid (hE.blk' hC.out)
  have HE2 := hid (HE.out.trans hE)
  clear hE hW hh hB hC c1 hT hv hB' hk' hk
  refine wpIn_range_skip (P := Tryz.prog) (X := (· = w.heap.size + 1)) (w0 := w2) (xs := (daysF (allowB ⟨cs, ⟨s1, s2, s3⟩, ⟨l1, l2, l3, l4, l5, l6, l7⟩⟩ rs) frm n).map fun d => #[.int .i64 d]) rfl hen hseq (Keep.refl _ _) (by rintro k rfl; omega) (by simp)
    (fun k V => Keep (· = w.heap.size + 1) w2 V ∧ V.heap[w.heap.size + 1]? = some (.cells #[.int .i64 (k : Nat)] 3)) (fun _ _ _ => False) ?_ ?_ ?_ ?_
  · exact fun w' hk => ⟨hk.mono fun k h1 h2 => by omega, hk.blk HC.out (by omega)⟩
  · intro Z' l' i x V hx hl' hZ' hI w3 hB
    obtain ⟨d, rfl⟩ : ∃ d, x = #[.int .i64 d] := by
      have := List.mem_of_getElem? hx
      obtain ⟨d, _, rfl⟩ := List.mem_map.1 this
      exact ⟨d, rfl⟩
    have hil : i < n := by
      have h1 := (List.getElem?_eq_some_iff.1 hx).1
      rw [List.length_map] at h1
      exact Nat.lt_of_lt_of_le h1 (daysF_len _ _ _)
    have HBO := hid hB
    obtain ⟨hK, hb⟩ := hI.now
    have hc := hB.blk' hb
    have HB := hid (hB.blk' hb)
    have HI := hid hI
    have hck := cellsOf hc
    have hcf := frozenOf hc
    have hn : ¬ Z' (w.heap.size + 1) := fun h => by have := (hZ' _ h).1; omega
    clear hx hI hb hc hB
    simp only [List.zip_toArray, List.zip_cons_cons, List.zip_nil_right, List.foldl_toArray', List.foldl_cons, List.foldl_nil, List.setIfInBounds_toArray, List.set_cons_succ, List.set_cons_zero]
    gi_wp2
    refine ⟨Keep.setCell (Keep.refl _ _) (.inl (.inl rfl)) _, fun w' hk => ⟨?_, ?_⟩⟩
    · exact ((((hK.mono fun k _ h => .inl h).trans (HBO.out.keep (Z := fun k => k = w.heap.size + 1 ∨ w2.heap.size ≤ k) (.inr (hZ' _ hl').1))).trans (Keep.setCell (Keep.refl _ _) (.inl (.inl rfl)) _)).trans (hk.mono fun k _ h => .inr (hZ' k h).1)).mono fun k h1 h2 => h2.resolve_right (by omega)
    · refine (hk.blk (set_blk HB.out 0 _) hn).trans ?_
      simp
  · intro D V hD hI hdf
    rw [List.length_map] at hI
    obtain ⟨hK, hb⟩ := hI.now
    have hck := cellsOf hb
    have hcf := frozenOf hb
    have HB := hid hb
    have HD : Hid ((V.setCell ⟨w.heap.size + 1, 0, none⟩ (.int .i64 ((daysF (allowB ⟨cs, ⟨s1, s2, s3⟩, ⟨l1, l2, l3, l4, l5, l6, l7⟩⟩ rs) frm n).length : Nat))).heap[D]? = some (.deferred (some []))) := hid ((Below.heap_setCell _ _ _ _ (by dsimp only; omega)).trans hdf)
    clear hI hb hdf
    gi_wp2
    have hp := putObj_keep (Z := fun k => k = D) (w := V.setCell ⟨w.heap.size + 1, 0, none⟩ (.int .i64 ((daysF (allowB ⟨cs, ⟨s1, s2, s3⟩, ⟨l1, l2, l3, l4, l5, l6, l7⟩⟩ rs) frm n).length : Nat))) (.deferred none) rfl
    refine leaves_mark HD.out (results_cell_tmp (p1 := ⟨w.heap.size + 1, 0, none⟩) (v1 := .int .i64 ((daysF (allowB ⟨cs, ⟨s1, s2, s3⟩, ⟨l1, l2, l3, l4, l5, l6, l7⟩⟩ rs) frm n).length : Nat)) rfl Tryz.underlying3 rfl rfl (cellsOf (hp.blk (set_blk HB.out 0 _) (by omega)) 0)) ⟨rfl, ?_⟩
    refine (HE2.out.keep (X := fun _ => False) (Y := fun k => w.heap.size ≤ k) (((hK.mono fun k _ h => by have h : k = w.heap.size + 1 := h; show w.heap.size ≤ k; omega).trans (Keep.setCell (Keep.refl _ _) (p := ⟨w.heap.size + 1, 0, none⟩) (.inl (Nat.le_succ _)) _)).trans (hp.mono fun k _ h => by have h : k = D := h; have := HE2.out.size; show w.heap.size ≤ k; omega)) fun k h1 h2 => by have h2 : w.heap.size ≤ k := h2; omega).ext fun _ _ h => h
  · exact fun D c i V _ _ h _ => h.now.elim
end Go.Proofs.YtgjahejhpkbecaaGreatDoor
