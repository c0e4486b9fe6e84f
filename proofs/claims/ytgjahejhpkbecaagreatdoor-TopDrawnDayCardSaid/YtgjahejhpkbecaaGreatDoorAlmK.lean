/- Almanacs, continued: days, the first of them, their number. -/
import Derived.Test.YtgjahejhpkbecaaGreatDoorAlmJ
namespace Go.Proofs.YtgjahejhpkbecaaGreatDoor
open Go.RowKit
attribute [local go_sem] Oper.semAt_some

theorem isSpan_t (f t : Int) (w : World) (h : 0 ≤ f ∧ f ≤ t ∧ t ≤ 1000000 ∧ t - f ≤ 4000) :
    Calls Tryz.prog 12 #[.int .i64 f, .int .i64 t] w fun e w' => e = .returned (.bool true) ∧ w = w' := by
  have h1 := hid (withinB_t (n := f) (l := 0) (m := 1000000) (by omega))
  have h2 := hid (withinB_t (n := t) (l := 0) (m := 1000000) (by omega))
  have h3 := hid (withinB_t (n := t - f) (l := 0) (m := 4000) (by omega))
  go_enter Tryz.func12, Tryz.ntmps12
  go_wp2_with (first | (go_at_call 21; refine (isDay_any _ _).mono ?_; rintro e w' ⟨rfl, rfl⟩; first | rw [h1.out] | rw [h2.out]) | (go_at_call 30; refine (within_any _ _ _ _).mono ?_; rintro e w' ⟨rfl, rfl⟩; rw [h3.out]))
  go_ret
  exact ⟨rfl, rfl⟩

/-- the first of some days, and the error -/
def firstD (ds : List Int) : Int := ds.headD 0
def firstE (ds : List Int) : Int := if ds.isEmpty then 7 else 0
/-- what is said of the iterator that days returns -/
def DaysSeq (X : Nat → Prop) (w : World) (ds : List Int) (f : Value) : Prop := ∃ gf lb, f = .func (.func gf) #[] lb ∧ (∀ args w, (callFunc gf args).run Tryz.prog w = .ok (.enter gf args) w) ∧ Seq Tryz.prog gf lb X w (ds.map fun d => #[.int .i64 d])

set_option maxRecDepth 20000 in
set_option maxHeartbeats 1000000 in
theorem days_any (X : Nat → Prop) (w : World) (A : Alm) (a : Option Addr) (cp : Nat) (rs : List DR) (ra : Option Addr) (rc : Nat) (frm to : Int) (n : Nat) (pb : Nat) (hX : ∀ k, X k → k < w.heap.size)
    (h5 : w.heap[pb]? = some (.cells #[.slice ra rs.length rc] 43)) (x5 : ¬ X pb) (ha : Stab X w fun w' => AlmAt w' A a) (hr : RulesS X w ra rs) (hd : 0 ≤ frm ∧ frm + n ≤ 1000001) (hto : to = frm + n - 1) (hT : ∀ r ∈ rs, ∀ t ∈ r.whens, TestRuns A t) :
    Calls Tryz.prog 13 #[A.val a cp, .slice (some ⟨pb, 0, none⟩) 1 1, .int .i64 frm, .int .i64 to] w fun e w' => (∃ f, e = .returned f ∧ DaysSeq X w' (daysF (allowB A rs) frm n) f) ∧ Ext w w' := by
  obtain ⟨W, hW⟩ : ∃ W, W = (((w.alloc (.cells (A.cells a cp) 32)).alloc (.cells #[.slice (some ⟨pb, 0, none⟩) 1 1] 59)).alloc (.cells #[.int .i64 frm] 3)).alloc (.cells #[.int .i64 to] 3) := ⟨_, rfl⟩
  have hE : Ext w W := by rw [hW]; exact ((((Ext.refl w).alloc _).alloc _).alloc _).alloc _
  have b1 : W.heap[w.heap.size]? = some (.cells (A.cells a cp) 32) := by rw [hW]; exact Ext.blk' ((((Ext.refl _).alloc _).alloc _).alloc _) (heap_alloc_new w _)
  have b2 : W.heap[w.heap.size + 1]? = some (.cells #[.slice (some ⟨pb, 0, none⟩) 1 1] 59) := by
    rw [hW]; exact Ext.blk' (((Ext.refl _).alloc _).alloc _) (by simpa using heap_alloc_new (w.alloc (.cells (A.cells a cp) 32)) (.cells #[.slice (some ⟨pb, 0, none⟩) 1 1] 59))
  have b3 : W.heap[w.heap.size + 1 + 1]? = some (.cells #[.int .i64 frm] 3) := by
    rw [hW]; exact Ext.blk' ((Ext.refl _).alloc _) (by simpa using heap_alloc_new ((w.alloc (.cells (A.cells a cp) 32)).alloc (.cells #[.slice (some ⟨pb, 0, none⟩) 1 1] 59)) (.cells #[.int .i64 frm] 3))
  have b4 : W.heap[w.heap.size + 1 + 1 + 1]? = some (.cells #[.int .i64 to] 3) := by
    rw [hW]; simpa using heap_alloc_new (((w.alloc (.cells (A.cells a cp) 32)).alloc (.cells #[.slice (some ⟨pb, 0, none⟩) 1 1] 59)).alloc (.cells #[.int .i64 frm] 3)) (.cells #[.int .i64 to] 3)
  have hnx : ∀ k, w.heap.size ≤ k → ¬ X k := fun k h1 h2 => by have := hX k h2; omega
  rw [hto] at b4
  obtain ⟨vs, hvs⟩ := hr
  have hs := days_seq X W A a cp rs ra rc frm n w.heap.size (w.heap.size + 1 + 1) (w.heap.size + 1 + 1 + 1) (w.heap.size + 1) pb b1 b3 b4 b2 (hE.blk' h5) (hnx _ (by omega)) (hnx _ (by omega)) (hnx _ (by omega)) (hnx _ (by omega)) x5
    (fun w' hk => ha w' (hE.keep hk fun k _ h => h)) ⟨vs, fun w' hk => hvs w' (hE.keep hk fun k _ h => h)⟩ hd hT
  have hfin : (∃ f, f = .func (.func 31) #[] #[.pointer (some ⟨w.heap.size, 0, none⟩), .pointer (some ⟨w.heap.size + 1 + 1, 0, none⟩), .pointer (some ⟨w.heap.size + 1 + 1 + 1, 0, none⟩), .pointer (some ⟨w.heap.size + 1, 0, none⟩)] ∧ DaysSeq X W (daysF (allowB A rs) frm n) f) ∧ Ext w W :=
    ⟨⟨_, rfl, _, _, rfl, enters Tryz.func31 (by kernel_rfl) rfl, hs⟩, hE⟩
  have HF := hid hfin
  have hm : ∀ (fn : Fn) (first cap : Array Value) (w : World), (Instr.makeFunc fn first cap).run Tryz.prog w = .ok (.func fn first cap) w := fun _ _ _ _ => rfl
  clear hfin hs hvs b1 b2 b3 b4 hE ha h5 hT hnx hto hX
  obtain ⟨cs, ⟨s1, s2, s3⟩, ⟨l1, l2, l3, l4, l5, l6, l7⟩⟩ := A
  unfold Alm.val
  unfold Alm.cells at hW
  go_enter Tryz.func13, Tryz.ntmps13
  go_wp2
  rw [← hW]
  go_ret
  obtain ⟨⟨f, rfl, h1⟩, h2⟩ := HF.out
  exact ⟨⟨_, rfl, h1⟩, h2⟩

set_option maxHeartbeats 1000000 in
theorem first_any (w : World) (ds : List Int) (f : Value) (hs : DaysSeq (fun _ => False) w ds f) :
    Calls Tryz.prog 14 #[f] w fun e w' => e = .returned (.tuple #[.int .i64 (firstD ds), .int .i64 (firstE ds)]) ∧ Ext w w' := by
  obtain ⟨gf, lb, rfl, hen, hseq⟩ := hs
  obtain ⟨W, hW⟩ : ∃ W, W = (w.alloc (.cells #[.int .i64 0] 3)).alloc (.cells #[.int .i64 0] 44) := ⟨_, rfl⟩
  have hE : Ext w W := by rw [hW]; exact ((Ext.refl w).alloc _).alloc _
  have hs : W.heap.size = w.heap.size + 1 + 1 := by rw [hW]; simp
  have b1 : W.heap[w.heap.size]? = some (.cells #[.int .i64 0] 3) := by rw [hW]; exact Ext.blk' ((Ext.refl _).alloc _) (heap_alloc_new w _)
  have b2 : W.heap[w.heap.size + 1]? = some (.cells #[.int .i64 0] 44) := by
    rw [hW]; simpa using heap_alloc_new (w.alloc (.cells #[.int .i64 0] 3)) (.cells #[.int .i64 0] 44)
  have hfn : ∀ f, Fence.wide.fn f := fun _ => trivial
  have hdp : Fence.wide.depth = none := rfl
  refine (callsIn_wide (n := 0)).1 ?_
  refine callsIn_of_wp_marks Tryz.func14 rfl trivial ?_ rfl
  simp only [Tryz.ntmps14, List.size_toArray, List.length_cons, List.length_nil, Nat.reduceAdd, Nat.reduceSub, Array.replicate_succ, Array.replicate_zero, List.push_toArray, List.append_toArray, List.nil_append, List.cons_append]
  have HE := hid hE
  have B1 := hid b1
  have B2 := hid b2
  have HS := hid hseq
  have HN := hid hen
  clear hE b1 b2 hseq hen
  gi_wp2
  rw [← hW]
  clear hW
  refine wpIn_range (P := Tryz.prog) (X := fun _ => False) (w0 := w) (xs := ds.map fun d => #[.int .i64 d]) rfl HN.out HS.out (Keep.of_ext HE.out) (fun _ h => h.elim) (by simp)
    (fun k V => k = 0 ∧ Ext W V) (fun c _ V => c = .ret ∧ Ext w V ∧ V.heap[w.heap.size]? = some (.cells #[.int .i64 (firstD ds)] 3) ∧ V.heap[w.heap.size + 1]? = some (.cells #[.int .i64 0] 44) ∧ ds ≠ []) ?_ ?_ ?_ ?_
  · exact fun w' hk => ⟨rfl, hk.ext fun k h1 h2 => by omega⟩
  · intro Z' l' i x V hx hl' hZ' hI
    obtain ⟨rfl, hEV⟩ := hI.now
    obtain ⟨d, ds', rfl⟩ : ∃ d ds', ds = d :: ds' := by
      cases ds with
      | nil => simp at hx
      | cons d ds' => exact ⟨d, ds', rfl⟩
    obtain rfl : x = #[.int .i64 d] := by simpa using hx.symm
    have HEV := hid hEV
    clear hI hx hEV
    refine ⟨fun a1 w1 => a1 = { tmps := #[.func (.func gf) #[] lb, undef, .pointer (some ⟨w.heap.size, 0, none⟩), .pointer (some ⟨w.heap.size + 1, 0, none⟩), .int .i64 d, .func (.func gf) #[] lb, .int .i64 d, undef], defers := [] } ∧ w1 = V, ?_, ?_, ?_⟩
    · simp only [List.zip_toArray, List.zip_cons_cons, List.zip_nil_right, List.foldl_toArray', List.foldl_cons, List.foldl_nil, List.setIfInBounds_toArray, List.set_cons_succ, List.set_cons_zero]
      gi_wp2
      exact ⟨trivial, trivial⟩
    · rintro a1 w1 ⟨rfl, rfl⟩
      exact Keep.refl _ _
    · rintro a1 w1 w2 ⟨rfl, rfl⟩ hB
      have hc1 := hB.blk' (HEV.out.blk' B1.out)
      have hc2 := hB.blk' (HEV.out.blk' B2.out)
      have hk1 := cellsOf hc1
      have hf1 := frozenOf hc1
      have hk2 := cellsOf hc2
      have hf2 := frozenOf hc2
      have hsz := hB.size
      have hsV := HEV.out.size
      have HC1 := hid hc1
      have HC2 := hid hc2
      have hZl := (hZ' l' hl').1
      have HB := hid hB
      clear hc1 hc2 hB
      gi_wp2
      have n1 : ¬ Z' w.heap.size := fun h => by have := (hZ' _ h).1; omega
      have n2 : ¬ Z' (w.heap.size + 1) := fun h => by have := (hZ' _ h).1; omega
      have hs2 : ∀ Z : Nat → Prop, Z w.heap.size → Z (w.heap.size + 1) → Keep Z w2 ((w2.setCell ⟨w.heap.size, 0, none⟩ (.int .i64 d)).setCell ⟨w.heap.size + 1, 0, none⟩ (.int .i64 0)) := fun Z h1 h2 =>
        Keep.setCell (Keep.setCell (Keep.refl _ _) (p := ⟨w.heap.size, 0, none⟩) (.inl h1) _) (p := ⟨w.heap.size + 1, 0, none⟩) (.inl h2) _
      refine ⟨hs2 _ n1 n2, fun w'' hk => ⟨rfl, ?_, ?_, ?_, by simp⟩⟩
      · refine (HE.out.keep (X := fun _ => False) (Y := fun k => w.heap.size ≤ k) ((((Keep.of_ext HEV.out).trans (HB.out.keep (by omega))).trans (hs2 _ (Nat.le_refl _) (Nat.le_succ _))).trans (hk.mono fun k _ h => by have := (hZ' k h).1; omega)) fun k h1 h2 => by omega).ext fun _ _ h => h
      · exact hk.blk ((Below.heap_setCell _ _ _ _ (by dsimp only; omega)).trans (set_blk HC1.out 0 _)) n1
      · exact hk.blk (set_blk ((Below.heap_setCell _ _ _ _ (by dsimp only; omega)).trans HC2.out) 0 _) n2
  · intro D V hD hI hdf
    obtain ⟨h0, hEV⟩ := hI.now
    obtain rfl : ds = [] := by simpa using h0
    have hb1 := hEV.blk' B1.out
    have hb2 := hEV.blk' B2.out
    have hk1 := cellsOf hb1
    have hf1 := frozenOf hb1
    have hk2 := cellsOf hb2
    have hf2 := frozenOf hb2
    have hsV := hEV.size
    have HEV := hid hEV
    have HB1 := hid hb1
    have HB2 := hid hb2
    have hdf2 : ((V.setCell ⟨w.heap.size, 0, none⟩ (.int .i64 0)).setCell ⟨w.heap.size + 1, 0, none⟩ (.int .i64 7)).heap[D]? = some (.deferred (some [])) :=
      ((Below.heap_setCell _ _ _ _ (by dsimp only; omega)).trans (Below.heap_setCell _ _ _ _ (by dsimp only; omega))).trans hdf
    have HD := hid hdf2
    clear hI h0 hEV hb1 hb2 hdf hdf2
    gi_wp2
    have hp := putObj_keep (Z := fun k => k = D) (w := (V.setCell ⟨w.heap.size, 0, none⟩ (.int .i64 0)).setCell ⟨w.heap.size + 1, 0, none⟩ (.int .i64 7)) (.deferred none) rfl
    refine leaves_mark HD.out (results_cell2 (p1 := ⟨w.heap.size, 0, none⟩) (p2 := ⟨w.heap.size + 1, 0, none⟩) (v1 := .int .i64 0) (v2 := .int .i64 7) rfl Tryz.underlying3 rfl Tryz.underlying44 rfl rfl
      (cellsOf (hp.blk ((Below.heap_setCell _ _ _ _ (by dsimp only; omega)).trans (set_blk HB1.out 0 _)) (by omega)) 0) rfl (cellsOf (hp.blk (set_blk ((Below.heap_setCell _ _ _ _ (by dsimp only; omega)).trans HB2.out) 0 _) (by omega)) 0)) ⟨rfl, ?_⟩
    refine (HE.out.keep (X := fun _ => False) (Y := fun k => w.heap.size ≤ k) (((Keep.of_ext HEV.out).trans (Keep.setCell (Keep.setCell (Keep.refl _ _) (p := ⟨w.heap.size, 0, none⟩) (.inl (Nat.le_refl _)) _) (p := ⟨w.heap.size + 1, 0, none⟩) (.inl (Nat.le_succ _)) _)).trans (hp.mono fun k _ h => by have h : k = D := h; show w.heap.size ≤ k; omega)) fun k h1 h2 => by have h2 : w.heap.size ≤ k := h2; omega).ext fun _ _ h => h
  · intro D c i V hD hi hI hdf
    have hp := putObj_keep (Z := fun k => k = D) (w := V) (.deferred none) rfl
    obtain ⟨rfl, _⟩ := hI.now
    obtain ⟨_, h1, h2, h3, h4⟩ := hI _ hp
    have HX := hid (And.intro hdf (And.intro h1 (And.intro h2 (And.intro h3 h4))))
    clear hI hdf h1 h2 h3 h4
    gi_wp2
    obtain ⟨h0, h1, h2, h3, h4⟩ := HX.out
    exact leaves_mark h0 (results_cell2 (p1 := ⟨w.heap.size, 0, none⟩) (p2 := ⟨w.heap.size + 1, 0, none⟩) rfl Tryz.underlying3 rfl Tryz.underlying44 rfl rfl (cellsOf h2 0) rfl (cellsOf h3 0)) ⟨by cases ds with
      | nil => exact absurd rfl h4
      | cons d ds => rfl, h1⟩
end Go.Proofs.YtgjahejhpkbecaaGreatDoor
