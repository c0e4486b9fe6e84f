/- Almanacs, continued: the allowed days of some days, one after another. -/
import Derived.Test.YtgjahejhpkbecaaGreatDoorAlmI
namespace Go.Proofs.YtgjahejhpkbecaaGreatDoor
open Go.RowKit
attribute [local go_sem] Oper.semAt_some

/-- the numbers from a first one on, n of them, with a property -/
def daysF (g : Int → Bool) (frm : Int) : Nat → List Int
  | 0 => []
  | n + 1 => daysF g frm n ++ (if g (frm + n) then [frm + n] else [])
theorem daysF_le {g : Int → Bool} {frm : Int} {k n : Nat} (h : k ≤ n) : ∃ l, daysF g frm n = daysF g frm k ++ l := by
  induction n with
  | zero => exact ⟨[], by rw [show k = 0 by omega]; simp⟩
  | succ n ih =>
    by_cases e : k = n + 1
    · exact ⟨[], by rw [e]; simp⟩
    · obtain ⟨l, hl⟩ := ih (by omega)
      exact ⟨l ++ (if g (frm + n) then [frm + n] else []), by rw [daysF, hl, List.append_assoc]⟩
theorem daysF_at {g : Int → Bool} {frm : Int} {k n : Nat} (h : k < n) (hg : g (frm + k) = true) : (daysF g frm n)[(daysF g frm k).length]? = some (frm + k) := by
  obtain ⟨l, hl⟩ := daysF_le (g := g) (frm := frm) (show k + 1 ≤ n from h)
  rw [hl, daysF, hg]; simp
theorem daysF_hit {g : Int → Bool} {frm : Int} {k : Nat} (hg : g (frm + k) = true) : (daysF g frm (k + 1)).length = (daysF g frm k).length + 1 := by
  rw [daysF, hg]; simp
theorem daysF_miss {g : Int → Bool} {frm : Int} {k : Nat} (hg : g (frm + k) = false) : (daysF g frm (k + 1)).length = (daysF g frm k).length := by
  rw [daysF, hg]; simp
theorem daysF_len (g : Int → Bool) (frm : Int) (n : Nat) : (daysF g frm n).length ≤ n := by
  induction n with
  | zero => simp [daysF]
  | succ n ih => rw [daysF]; split <;> simp <;> omega
def daysX (g : Int → Bool) (frm : Int) (n : Nat) : List (Array Value) := (daysF g frm n).map fun d => #[.int .i64 d]
theorem daysX_at {g : Int → Bool} {frm : Int} {k n : Nat} (h : k < n) (hg : g (frm + k) = true) : (daysX g frm n)[(daysF g frm k).length]? = some #[.int .i64 (frm + k)] := by
  simp [daysX, daysF_at h hg]
theorem daysX_length {g : Int → Bool} {frm : Int} {n : Nat} : (daysX g frm n).length = (daysF g frm n).length := by simp [daysX]

set_option maxRecDepth 20000 in
set_option maxHeartbeats 1000000 in
theorem days_seq (X : Nat → Prop) (w : World) (A : Alm) (a : Option Addr) (cp : Nat) (rs : List DR) (ra : Option Addr) (rc : Nat) (frm : Int) (n : Nat) (ba bf bt bp pb : Nat)
    (h1 : w.heap[ba]? = some (.cells (A.cells a cp) 32)) (h2 : w.heap[bf]? = some (.cells #[.int .i64 frm] 3)) (h3 : w.heap[bt]? = some (.cells #[.int .i64 (frm + n - 1)] 3))
    (h4 : w.heap[bp]? = some (.cells #[.slice (some ⟨pb, 0, none⟩) 1 1] 59)) (h5 : w.heap[pb]? = some (.cells #[.slice ra rs.length rc] 43))
    (x1 : ¬ X ba) (x2 : ¬ X bf) (x3 : ¬ X bt) (x4 : ¬ X bp) (x5 : ¬ X pb) (ha : Stab X w fun w' => AlmAt w' A a) (hr : RulesS X w ra rs) (hd : 0 ≤ frm ∧ frm + n ≤ 1000001) (hT : ∀ r ∈ rs, ∀ t ∈ r.whens, TestRuns A t) :
    Seq Tryz.prog 31 #[.pointer (some ⟨ba, 0, none⟩), .pointer (some ⟨bf, 0, none⟩), .pointer (some ⟨bt, 0, none⟩), .pointer (some ⟨bp, 0, none⟩)] X w (daysX (allowB A rs) frm n) := by
  intro l n1 J Jx W hW hn hnW hJ hJx hG hY h0
  obtain ⟨vs, hvs⟩ := hr
  have k1 := hid (hW.blk h1 x1)
  have k2 := hid (hW.blk h2 x2)
  have c1 := cellsOf (hW.blk h2 x2)
  have l1 := lt_of_block h1
  have l2 := lt_of_block h2
  have l3 := lt_of_block h3
  have l4 := lt_of_block h4
  have l5 := lt_of_block h5
  obtain ⟨Z0, hZ0⟩ : ∃ Z0 : Nat → Prop, Z0 = fun k => (X k ∨ w.heap.size ≤ k) ∧ k < W.heap.size := ⟨_, rfl⟩
  have hn0 := hid (newLook_any A a cp W Z0 (by rw [hZ0]; exact fun k h => h.2) (fun w' hk => ha w' (hW.then hk fun k hk hz => by rw [hZ0] at hz; exact hz.1.resolve_right (by omega))))
  have HW := hid hW
  have HY := hid hY
  have HA := hid ha
  have HV := hid hvs
  have HT := hid hT
  have B1 := hid h1
  have B2 := hid h2
  have B3 := hid h3
  have B4 := hid h4
  have B5 := hid h5
  have HJ := hid hJ
  have HJx := hid hJx
  have HG := hid hG
  have H0 := hid h0
  have hfn : ∀ f, Fence.wide.fn f := fun _ => trivial
  have hdp : Fence.wide.depth = none := rfl
  clear hW hY ha hvs hT h1 h2 h3 h4 h5 hJ hJx hG h0
  obtain ⟨cs, ⟨s1, s2, s3⟩, ⟨l1, l2, l3, l4, l5, l6, l7⟩⟩ := A
  have kk1 := cellsOf k1.out
  simp only [Alm.cells] at kk1
  unfold Alm.val at hn0
  refine (callsIn_wide (n := 0)).1 ?_
  refine callsIn_of_wp Tryz.func31 rfl trivial ?_ rfl
  simp only [Tryz.ntmps31, List.size_toArray, List.length_cons, List.length_nil, Nat.reduceAdd, Nat.reduceSub, Array.replicate_succ, Array.replicate_zero, List.push_toArray, List.append_toArray, List.nil_append, List.cons_append]
  have hs0 := HW.out.size
  gi_wp2_with (gi_at_call 22; refine (callsIn_wide.2 hn0.out).mono ?_; rintro e W1 ⟨lk, q, rfl, hl1, hl2, hL1, hE1⟩; have kf := cellsOf (hE1.blk' k2.out); have hs1 := hE1.size; have hfl : bf < W1.heap.size := by omega)
  obtain ⟨W2, hW2⟩ : ∃ W2, W2 = W1.alloc (.cells #[.pointer (some ⟨lk, 0, none⟩)] 76) := ⟨_, rfl⟩
  rw [← hW2]
  have hE2 : Ext W W2 := by rw [hW2]; exact hE1.alloc _
  have hE12 : Ext W1 W2 := by rw [hW2]; exact (Ext.refl _).alloc _
  have b6 : W2.heap[W1.heap.size]? = some (.cells #[.pointer (some ⟨lk, 0, none⟩)] 76) := by rw [hW2]; exact heap_alloc_new W1 _
  have hs2 : W2.heap.size = W1.heap.size + 1 := by rw [hW2]; simp
  obtain ⟨Y, hYd⟩ : ∃ Y : Nat → Prop, Y = fun k => W.heap.size ≤ k ∧ k < W2.heap.size := ⟨_, rfl⟩
  obtain ⟨Z, hZd⟩ : ∃ Z : Nat → Prop, Z = fun k => (X k ∨ w.heap.size ≤ k) ∧ ¬ Y k := ⟨_, rfl⟩
  have hY1 : ∀ k, Y k → n1 ≤ k ∧ k < W2.heap.size := by rw [hYd]; exact fun k h => ⟨by omega, h.2⟩
  have hYl : Y lk := by rw [hYd]; exact ⟨hl1, by omega⟩
  have hY6 : Y W1.heap.size := by rw [hYd]; exact ⟨hs1, by omega⟩
  have hZe : ∀ k, Z k ↔ (X k ∨ w.heap.size ≤ k) ∧ ¬ Y k := by rw [hZd]; exact fun k => Iff.rfl
  have hJ2 : J Y 0 W2 := by
    refine HJ.out Y 0 W W2 (fun k h => (hY1 k h).1) (HG.out (fun _ => False) Y 0 W H0.out (fun _ h => h.elim) (by rw [hYd]; exact fun k h => .inr h.1)) (Keep.of_ext hE2)
  have hL2 : LookAt0 Z W2 lk ⟨cs, ⟨s1, s2, s3⟩, ⟨l1, l2, l3, l4, l5, l6, l7⟩⟩ q := (hL1.grow hE12 (Y := Z) (by rw [hZ0, hZd, hYd]; rintro k hk ⟨h1, h2⟩; exact ⟨h1, by omega⟩)).zero
  have hK2 : Keep X w W2 := HW.out.trans (Keep.of_ext hE2)
  clear hW2 hYd hZd hE12 hE1 hE2 kf hL1 hn0 hZ0
  gi_loopw [7] (fun d wr => ∃ k : Nat, k ≤ n ∧ d = .int .i64 (frm + k) ∧ J Y (daysF (allowB ⟨cs, ⟨s1, s2, s3⟩, ⟨l1, l2, l3, l4, l5, l6, l7⟩⟩ rs) frm k).length wr ∧ Keep X w wr ∧ LookAt0 Z wr lk ⟨cs, ⟨s1, s2, s3⟩, ⟨l1, l2, l3, l4, l5, l6, l7⟩⟩ q ∧ wr.heap[W1.heap.size]? = some (.cells #[.pointer (some ⟨lk, 0, none⟩)] 76) ∧ W2.heap.size ≤ wr.heap.size) (fun d _ => (frm + n - intOf d).toNat)
  case atStart => exact ⟨0, by omega, by simp, hJ2, hK2, hL2, b6, Nat.le_refl _⟩
  case round =>
    clear hJ2 hK2 hL2 b6
    obtain ⟨k, hk, rfl, hj, hkw, hl0, hb6, hsz⟩ := hrel
    have d3 := cellsOf (hkw.blk B3.out x3)
    by_cases hlt : k < n
    · have Hb6 := hid hb6
      have hlw : w.heap.size ≤ lk := by omega
      have ca := hid (at_any (fun _ => False) wr lk ⟨cs, ⟨s1, s2, s3⟩, ⟨l1, l2, l3, l4, l5, l6, l7⟩⟩ (frm + k) q (hl0.mono (fun _ _ h => h.elim)))
      have HL0 := hid hl0
      have HJ1 := hid hj
      have HKW := hid hkw
      clear hb6 hl0 hj hkw
      have m6 := cellsOf Hb6.out
      have h6l : W1.heap.size ≠ lk := by omega
      have hcon := hid (fun (w1 : World) (hL1 : LookAt (fun _ => False) w1 lk ⟨cs, ⟨s1, s2, s3⟩, ⟨l1, l2, l3, l4, l5, l6, l7⟩⟩ (frm + k) q) (hkw1 : Keep X w w1) (hb1 : w1.heap[W1.heap.size]? = some (.cells #[.pointer (some ⟨lk, 0, none⟩)] 76)) =>
        containsIRules 33 #[.pointer (some ⟨W1.heap.size, 0, none⟩)] (fun _ => !allowB ⟨cs, ⟨s1, s2, s3⟩, ⟨l1, l2, l3, l4, l5, l6, l7⟩⟩ rs (frm + k)) [.slice ra rs.length rc] (some ⟨pb, 0, none⟩) 1 (fun w' => LookAt (fun _ => False) w' lk ⟨cs, ⟨s1, s2, s3⟩, ⟨l1, l2, l3, l4, l5, l6, l7⟩⟩ (frm + k) q ∧ Keep (· = lk) w1 w') w1 ⟨hL1, Keep.refl _ _⟩
          (by simp) (enters Tryz.func33 (by kernel_rfl) rfl)
          (fun i x hx => by
            obtain ⟨rfl, rfl⟩ : i = 0 ∧ x = .slice ra rs.length rc := by
              cases i with
              | zero => simpa using hx.symm
              | succ i => simp at hx
            refine ⟨pb, 0, rfl, fun w' ⟨_, hk⟩ => run_loadAt_one Tryz.underlying43 rfl (cellsOf ((hkw1.then hk (by omega)).blk B5.out x5) 0)⟩)
          (fun i x hx _ w' ⟨g1, g2⟩ => by
            obtain ⟨rfl, rfl⟩ : i = 0 ∧ x = .slice ra rs.length rc := by
              cases i with
              | zero => simpa using hx.symm
              | succ i => simp at hx
            refine (days11_any (fun _ => False) w' lk W1.heap.size ⟨cs, ⟨s1, s2, s3⟩, ⟨l1, l2, l3, l4, l5, l6, l7⟩⟩ (frm + k) q rs ra rc (fun _ h => h.elim) g1 ⟨vs, fun w'' hk => HV.out w'' ((hkw1.then g2 (by omega)).then hk (fun k h1 h2 => by omega))⟩ (by omega) HT.out (g2.blk hb1 h6l)).mono ?_
            rintro e w'' ⟨rfl, g3, g4⟩
            exact ⟨rfl, g3, g2.trans g4⟩))
      have hany : anyN (fun _ => !allowB ⟨cs, ⟨s1, s2, s3⟩, ⟨l1, l2, l3, l4, l5, l6, l7⟩⟩ rs (frm + k)) 1 = !allowB ⟨cs, ⟨s1, s2, s3⟩, ⟨l1, l2, l3, l4, l5, l6, l7⟩⟩ rs (frm + k) := by simp [anyN]
      simp only [List.length_cons, List.length_nil, Nat.zero_add, hany] at hcon
      clear hany
      cases hg : allowB ⟨cs, ⟨s1, s2, s3⟩, ⟨l1, l2, l3, l4, l5, l6, l7⟩⟩ rs (frm + k)
      · rw [hg] at hcon
        have HM := hid (daysF_miss hg)
        clear hg
        gi_wp2_with (first | (gi_at_call 23; refine (callsIn_wide.2 ca.out).mono ?_; rintro e w1 ⟨rfl, hL1, hK1⟩; have hkw1 : Keep X w w1 := HKW.out.then hK1 (by omega); have d4 := cellsOf (hkw1.blk B4.out x4); have hb61 := hid (hK1.blk Hb6.out h6l); have m61 := cellsOf hb61.out) |
          (gi_at_call 32; refine (callsIn_wide.2 (hcon.out w1 hL1 hkw1 hb61.out)).mono ?_; rintro e w2 ⟨rfl, hL2, hK2⟩))
        go_roundw
        case rel =>
          have hK := hK1.trans hK2
          exact ⟨k + 1, by omega, by go_num, by rw [HM.out]; exact HJ.out Y _ _ _ (fun k h => (hY1 k h).1) HJ1.out (hK.mono fun k _ h => by rw [h]; exact hYl), hkw1.then hK2 (fun k h1 h2 => by omega), HL0.out.after hK hL2, hK.blk Hb6.out h6l, Nat.le_trans hsz hK.size⟩
        case measure => simp [intOf]; omega
      · rw [hg] at hcon
        have HM := hid (daysF_hit hg)
        have hxs := hid (daysX_at hlt hg)
        clear hg
        gi_wp2_with (first | (gi_at_call 23; refine (callsIn_wide.2 ca.out).mono ?_; rintro e w1 ⟨rfl, hL1, hK1⟩; have hkw1 : Keep X w w1 := HKW.out.then hK1 (by omega); have d4 := cellsOf (hkw1.blk B4.out x4); have hb61 := hid (hK1.blk Hb6.out h6l); have m61 := cellsOf hb61.out) |
          (gi_at_call 32; refine (callsIn_wide.2 (hcon.out w1 hL1 hkw1 hb61.out)).mono ?_; rintro e w2 ⟨rfl, hL2, hK2⟩
           have hK := hid (hK1.trans hK2); have hz2 := Nat.le_trans hsz hK.out.size
           have hkw2 := hid (hkw1.then hK2 (fun k h1 h2 => by omega))
           obtain ⟨fn, tmps, assign, body, hy, hR⟩ := HY.out Y _ _ w2 hxs.out (fun k h => ⟨(hY1 k h).1, Nat.lt_of_lt_of_le (hY1 k h).2 hz2⟩) (by omega) (HJ.out Y _ _ _ (fun k h => (hY1 k h).1) HJ1.out (hK.out.mono fun k _ h => by rw [h]; exact hYl))
           have HR := hid hR; have Hl2 := hid (HL0.out.after hK.out hL2); clear hR hK1 hL1 hkw1 hb61 hL2 hK2))
        refine (HR.out 0).mono ?_
        rintro e B (⟨rfl, hj', hk'⟩ | ⟨rfl, hjx, hn'⟩)
        · have hkB := hid (hkw2.out.rounds hk')
          have hlB := hid (Hl2.out.keep (hk'.mono fun k _ h => (hZe k).2 h) (fun h => ((hZe _).1 h).2 hYl))
          have hbB := hid (hk'.blk (hK.out.blk Hb6.out h6l) (fun h => h.2 hY6))
          have hsB := Nat.le_trans hz2 hk'.size
          have hjB := hid hj'
          clear hj' hk' hy HR
          gi_wp2
          go_roundw
          case rel => exact ⟨k + 1, by omega, by go_num, by rw [HM.out]; exact hjB.out, hkB.out, hlB.out, hbB.out, hsB⟩
          case measure => simp [intOf]; omega
        · gi_wp2
          refine bodyPost_ret (results_none rfl _ _ _) rfl ?_
          exact ⟨⟨_, rfl⟩, Y, fun k h => (hY1 k h).1, .inr ⟨_, (by have := (List.getElem?_eq_some_iff.1 hxs.out).1; exact this), hjx⟩⟩
    · obtain rfl : k = n := by omega
      gi_wp2
      go_end0
      exact ⟨⟨_, rfl⟩, Y, fun k h => (hY1 k h).1, .inl (by rw [daysX_length]; exact hj)⟩
end Go.Proofs.YtgjahejhpkbecaaGreatDoor
