/- Almanacs, continued: which rule decides a day. -/
import Derived.Test.YtgjahejhpkbecaaGreatDoorAlmG
import Derived.Test.YtgjahejhpkbecaaGreatDoorSeqA
namespace Go.Proofs.YtgjahejhpkbecaaGreatDoor
open Go.RowKit
attribute [local go_sem] Oper.semAt_some

def lastN (g : Nat → Bool) : Nat → Int
  | 0 => -1
  | n + 1 => if g n then (n : Int) else lastN g n
theorem lastN_miss {g : Nat → Bool} {n : Nat} (h : ∀ j, j < n → g j = false) : lastN g n = -1 := by
  induction n with
  | zero => rfl
  | succ n ih => rw [lastN, h n (by omega), ih fun j hj => h j (by omega)]; rfl
theorem lastN_hit {g : Nat → Bool} {n k : Nat} (hk : k < n) (hg : g k = true) (h : ∀ j, k < j → j < n → g j = false) : lastN g n = k := by
  induction n with
  | zero => omega
  | succ n ih =>
    by_cases e : k = n
    · subst e; rw [lastN, hg]; rfl
    · rw [lastN, h n (by omega) (by omega), ih (by omega) fun j h1 h2 => h j h1 (by omega)]; rfl
theorem lastN_bounds (g : Nat → Bool) (n : Nat) : -1 ≤ lastN g n ∧ lastN g n < n := by
  induction n with
  | zero => simp [lastN]
  | succ n ih =>
    rw [lastN]; split
    · omega
    · omega

/-- do all tests of a rule hold on a day? -/
def DR.holds (A : Alm) (day : Int) (r : DR) : Bool := r.whens.all (holdsT A day)
def ruleAt (A : Alm) (rs : List DR) (day : Int) (i : Nat) : Bool := match rs[i]? with | some r => r.holds A day | none => false
/-- the last rule that applies to a day; -1: none -/
def decF (A : Alm) (rs : List DR) (day : Int) : Int := lastN (ruleAt A rs day) rs.length
def RulesS (X : Nat → Prop) (w : World) (a : Option Addr) (rs : List DR) : Prop := ∃ vs, Stab X w fun w' => RulesV w' a rs vs

set_option maxRecDepth 20000 in
set_option maxHeartbeats 1000000 in
theorem decides_any (Z : Nat → Prop) (w : World) (l : Nat) (A : Alm) (day : Int) (q : Ids) (rs : List DR) (ra : Option Addr) (rc : Nat) (hZ : ∀ k, Z k → k < w.heap.size) (h : LookAt Z w l A day q) (hr : RulesS (· = l) w ra rs)
    (hd : 0 ≤ day ∧ day ≤ 1000000) (hT : ∀ r ∈ rs, ∀ t ∈ r.whens, TestRuns A t) :
    Calls Tryz.prog 24 #[.pointer (some ⟨l, 0, none⟩), .slice ra rs.length rc] w fun e w' => e = .returned (.int .i64 (decF A rs day)) ∧ LookAt Z w' l A day q ∧ Keep (· = l) w w' := by
  obtain ⟨vs, hvs⟩ := hr
  have hls : l < w.heap.size := h.lt
  have hlen := hvs.now.1
  have hn := hvs.now.2.1
  obtain ⟨W, hW⟩ : ∃ W, W = ((w.alloc (.cells #[.pointer (some ⟨l, 0, none⟩)] 76)).alloc (.cells #[.int .i64 0] 3)).alloc (.cells #[.slice ra rs.length rc] 43) := ⟨_, rfl⟩
  have hE : Ext w W := by rw [hW]; exact (((Ext.refl w).alloc _).alloc _).alloc _
  have hs : W.heap.size = w.heap.size + 1 + 1 + 1 := by rw [hW]; simp
  have b1 : W.heap[w.heap.size]? = some (.cells #[.pointer (some ⟨l, 0, none⟩)] 76) := by
    rw [hW]; exact Ext.blk' (((Ext.refl _).alloc _).alloc _) (heap_alloc_new w _)
  have b2 : W.heap[w.heap.size + 1]? = some (.cells #[.int .i64 0] 3) := by
    rw [hW]; exact Ext.blk' ((Ext.refl _).alloc _) (by simpa using heap_alloc_new (w.alloc (.cells #[.pointer (some ⟨l, 0, none⟩)] 76)) (.cells #[.int .i64 0] 3))
  have b3 : W.heap[w.heap.size + 1 + 1]? = some (.cells #[.slice ra vs.length rc] 43) := by
    rw [hW, hn]; simpa using heap_alloc_new ((w.alloc (.cells #[.pointer (some ⟨l, 0, none⟩)] 76)).alloc (.cells #[.int .i64 0] 3)) (.cells #[.slice ra rs.length rc] 43)
  have hfn : ∀ f, Fence.wide.fn f := fun _ => trivial
  have hdp : Fence.wide.depth = none := rfl
  refine (callsIn_wide (n := 0)).1 ?_
  refine callsIn_of_wp_marks Tryz.func24 rfl trivial ?_ rfl
  simp only [Tryz.ntmps24, List.size_toArray, List.length_cons, List.length_nil, Nat.reduceAdd, Nat.reduceSub, Array.replicate_succ, Array.replicate_zero, List.push_toArray, List.append_toArray, List.nil_append, List.cons_append]
  have HT := hid hT
  have HV := hid hvs
  have H := hid h
  have HE := hid hE
  have HZ := hid hZ
  have B1 := hid b1
  have B2 := hid b2
  have B3 := hid b3
  clear hT hvs h hE hZ b1 b2 b3
  gi_wp2_with (gi_at_call 60; refine (callsIn_wide.2 (backward_any ra rs.length rc _)).mono ?_; rintro e w' ⟨rfl, rfl⟩)
  rw [← hW]
  clear hW
  obtain ⟨Z1, hZ1⟩ : ∃ Z1 : Nat → Prop, Z1 = fun k => Z k ∨ k = w.heap.size + 1 := ⟨_, rfl⟩
  have HZ1 : Hid (∀ k, Z1 k → k < W.heap.size) := by
    rw [hZ1]; rintro k (h | h)
    · have := HZ.out k h; omega
    · omega
  have hZr : Z1 (w.heap.size + 1) := by rw [hZ1]; exact .inr rfl
  have HZ2 : Hid (∀ k, k < w.heap.size → Z1 k → Z k) := by rw [hZ1]; exact fun k h1 h2 => h2.resolve_right (by omega)
  have HZ3 : Hid (∀ k, Z k → Z1 k) := by rw [hZ1]; exact fun k h => .inl h
  clear hZ1
  refine wpIn_range (P := Tryz.prog) (X := (· = l)) (w0 := W) (xs := backX vs) rfl (enters Tryz.func81 (by kernel_rfl) rfl)
    (backward_seq (· = l) W (w.heap.size + 1 + 1) ra rc vs B3.out (by omega) (fun w' hk => (HV.out w' (HE.out.keep hk fun k _ h => h)).2.2.1) (by omega)) (Keep.refl _ W) (by rintro k rfl; omega) (by simp [backX])
    (fun k V => LookAt Z1 V l A day q ∧ Keep (· = l) W V ∧ ∀ j, j < k → ruleAt A rs day (rs.length - 1 - j) = false)
    (fun c _ V => c = .ret ∧ LookAt Z1 V l A day q ∧ Keep (· = l) w V ∧ V.heap[w.heap.size + 1]? = some (.cells #[.int .i64 (decF A rs day)] 3)) ?_ ?_ ?_ ?_
  · exact fun w' hk => ⟨H.out.grow (HE.out.trans (hk.ext fun k h1 h2 => by omega)) HZ2.out, Keep.of_ext (hk.ext fun k h1 h2 => by omega), fun j hj => absurd hj (Nat.not_lt_zero _)⟩
  · intro Z' l' i x V hx hl' hZ' hI
    have hi : i < vs.length := by have := (List.getElem?_eq_some_iff.1 hx).1; rwa [backX_length] at this
    have hx' := backX_at hi
    rw [hx'] at hx
    cases hx
    clear hx'
    obtain ⟨hL0, hK, hno⟩ := hI.now
    have hnz : ¬ Z' l := fun h => by have := (hZ' l h).1; omega
    have hL := LookAt.join (fun w' hk => (hI w' hk).1) hnz
    have hZZ : ∀ k, (Z1 k ∨ Z' k) → k < V.heap.size := by
      rintro k (h | h)
      · exact Nat.lt_of_lt_of_le (HZ1.out k h) hK.size
      · exact (hZ' k h).2
    have hlen0 : vs.length - 1 - i < vs.length := by omega
    obtain ⟨r, hr⟩ : ∃ r, rs[vs.length - 1 - i]? = some r := ⟨_, List.getElem?_eq_getElem (by omega)⟩
    obtain ⟨y, hy⟩ : ∃ y, vs[vs.length - 1 - i]? = some y := ⟨_, List.getElem?_eq_getElem hlen0⟩
    have hg : vs.getD (vs.length - 1 - i) undef = y := by simp [List.getD, hy]
    rw [hg]
    have hra : Stab (fun k => k = l ∨ Z' k) W fun w' => RuleAt w' y r := fun w' hk => (HV.out w' (HE.out.keep hk fun k h1 h2 => h2.resolve_right (fun hz => by have := (hZ' k hz).1; omega))).2.2.2 _ _ _ hy hr
    obtain ⟨a, cp, rfl, hwl, hel⟩ := hra.now
    have hels : Stab (fun k => k = l ∨ Z' k) W fun w' => Elems Tryz.prog 42 5 w' a (r.whens.map DT.enc) := fun w' hk => by
      obtain ⟨a', cp', e, _, hx⟩ := hra w' hk
      cases e
      exact hx
    have hrT : ∀ t ∈ r.whens, TestRuns A t := HT.out r (List.mem_of_getElem? hr)
    have hrule : ruleAt A rs day (vs.length - 1 - i) = r.holds A day := by simp [ruleAt, hr]
    have hany : anyN (fun j => match r.whens[j]? with | some t => !holdsT A day t | none => true) r.whens.length = !r.holds A day := by
      rw [anyN_list r.whens (fun t => !holdsT A day t) _ (fun i x h => by simp [h]), DR.holds, List.not_all_eq_any_not]
    have hbV : V.heap[w.heap.size]? = some (.cells #[.pointer (some ⟨l, 0, none⟩)] 76) := hK.blk B1.out (by omega)
    have hrV : V.heap[w.heap.size + 1]? = some (.cells #[.int .i64 0] 3) := hK.blk B2.out (by omega)
    have HI := hid hI
    have HL := hid hL
    have HK := hid hK
    have HN := hid hno
    have HZZ := hid hZZ
    have HZ' := hid hZ'
    have HS := hid hels
    have HR := hid hrT
    have HU := hid hrule
    have HA := hid hany
    have C1 := hid hbV
    have C2 := hid hrV
    clear hI hL hL0 hK hno hZZ hZ' hr hy hg hra hel hels hrT hrule hany hbV hrV
    refine ⟨fun a1 w1 => a1 = { tmps := #[.pointer (some ⟨l, 0, none⟩), .slice ra rs.length rc, .pointer (some ⟨w.heap.size, 0, none⟩), undef, .pointer (some ⟨w.heap.size + 1, 0, none⟩), .int .i64 ((vs.length - 1 - i : Nat) : Int), .pointer (some ⟨V.heap.size, 0, none⟩), .slice ra rs.length rc,
      .func (.func 81) #[] #[.pointer (some ⟨w.heap.size + 1 + 1, 0, none⟩)], .int .i64 ((vs.length - 1 - i : Nat) : Int), .agg #[.slice a r.whens.length cp, .bool r.allow], undef, undef, undef, undef, undef, undef], defers := [] } ∧
      w1 = V.alloc (.cells #[.slice a r.whens.length cp, .bool r.allow] 38), ?_, ?_, ?_⟩
    · simp only [List.zip_toArray, List.zip_cons_cons, List.zip_nil_right, List.foldl_toArray', List.foldl_cons, List.foldl_nil, List.setIfInBounds_toArray, List.set_cons_succ, List.set_cons_zero]
      gi_wp2
      exact ⟨trivial, trivial⟩
    · rintro a1 w1 ⟨rfl, rfl⟩
      exact Keep.of_ext ((Ext.refl V).alloc _)
    · rintro a1 w1 w2 ⟨rfl, rfl⟩ hB
      obtain ⟨V1, hV1⟩ : ∃ V1, V1 = V.alloc (.cells #[.slice a r.whens.length cp, .bool r.allow] 38) := ⟨_, rfl⟩
      rw [← hV1] at hB
      have hE1 : Ext V V1 := by rw [hV1]; exact (Ext.refl V).alloc _
      have d1 : V1.heap[V.heap.size]? = some (.cells #[.slice a r.whens.length cp, .bool r.allow] 38) := by rw [hV1]; exact heap_alloc_new V _
      have hsV : l < V.heap.size := HL.out.lt
      have hsz : w2.heap.size = V.heap.size + 1 := by rw [hB.size, hV1]; simp
      have hV2 : Keep Z' V w2 := hE1.keep (hB.keep hl') fun _ _ h => h
      have hL2 : LookAt (fun k => Z1 k ∨ Z' k) w2 l A day q := (HL.out.ext hE1).keep (hB.blk (fun e => hnz (e ▸ hl'))) (hB.keep (.inr hl'))
      have hk := cellsOf (hB.blk' d1)
      have hk2 := cellsOf (hB.blk' (hE1.blk' C2.out))
      have hf2 := frozenOf (hB.blk' (hE1.blk' C2.out))
      have hc1 := hB.blk' (hE1.blk' C1.out)
      have hc2 := hB.blk' (hE1.blk' C2.out)
      have hK2 : Keep (fun k => k = l ∨ Z' k) W w2 := (HK.out.mono fun _ _ h => .inl h).trans (hV2.mono fun _ _ h => .inr h)
      have c1 := hid (containsIDayTest 62 #[.pointer (some ⟨w.heap.size, 0, none⟩)] (fun j => match r.whens[j]? with | some t => !holdsT A day t | none => true) (r.whens.map DT.enc) a cp
        (fun w' => LookAt (fun k => Z1 k ∨ Z' k) w' l A day q ∧ Keep (· = l) w2 w') w2 ⟨hL2, Keep.refl _ _⟩ (by simpa using hwl) (enters Tryz.func62 (by kernel_rfl) rfl)
        (fun j x hx => by
          obtain ⟨b, off, ha, _⟩ := HS.out.now j x hx
          refine ⟨b, off, ha, fun w' ⟨_, hk⟩ => ?_⟩
          obtain ⟨b', off', ha', hr, hL⟩ := HS.out w' (hK2.trans (hk.mono fun _ _ h => .inl h)) j x hx
          rw [ha] at ha'
          cases ha'
          exact hL w' b _ hr)
        (fun j x hx _ w' ⟨h1, h2⟩ => by
          obtain ⟨t, ht, rfl⟩ : ∃ t, r.whens[j]? = some t ∧ t.enc = x := by simpa using hx
          simp only [ht]
          refine (decides1_any (fun k => Z1 k ∨ Z' k) w' l A day q w.heap.size t h1 (h2.blk hc1 (by omega)) (by omega) (fun k hk => Nat.lt_of_lt_of_le (HZZ.out k hk) (by have := h2.size; omega)) hd (HR.out t (List.mem_of_getElem? ht))).mono ?_
          rintro e w'' ⟨rfl, h3, h4⟩
          exact ⟨rfl, h3, h2.trans h4⟩))
      simp only [List.length_map] at c1
      rw [HA.out] at c1
      have hb3 : ∀ w3, Keep (· = l) w2 w3 → w3.heap[w.heap.size + 1]? = some (.cells #[.int .i64 0] 3) := fun w3 h => h.blk hc2 (by omega)
      have HB3 := hid hb3
      have hZW : ∀ k, k < W.heap.size → Z' k → k = l := fun k h1 h2 => absurd (HZ'.out k h2).1 (by omega)
      clear hV1 hE1 hB d1 hc1 hc2 hf2 hk2 hb3
      cases hh : r.holds A day
      · rw [hh] at c1
        simp only [Bool.not_false] at c1
        have HH := hid hh
        clear hh
        gi_wp2_with (gi_at_call 61; refine (CallsIn.inRound l' (callsIn_wide.2 c1.out)).mono ?_; rintro e w3 ⟨rfl, hL3, hK3⟩)
        refine ⟨hK3.mono fun _ _ h => .inl h, fun w' hk => ⟨LookAt.split hL3 hnz w' hk, ?_, ?_⟩⟩
        · exact ((HK.out.then (hV2.trans (Keep.refl _ _)) hZW).trans hK3).then hk hZW
        · refine all_succ HN.out ?_
          rw [← hn, HU.out, HH.out]
      · rw [hh] at c1
        simp only [Bool.not_true] at c1
        have HH := hid hh
        clear hh
        gi_wp2_with (gi_at_call 61; refine (CallsIn.inRound l' (callsIn_wide.2 c1.out)).mono ?_; rintro e w3 ⟨rfl, hL3, hK3⟩; have hk3 := cellsOf (HB3.out w3 hK3); have hf3 := frozenOf (HB3.out w3 hK3))
        have hL4 : LookAt (fun k => Z1 k ∨ Z' k) (w3.setCell ⟨w.heap.size + 1, 0, none⟩ (.int .i64 ((rs.length - 1 - i : Nat) : Int))) l A day q :=
          hL3.keep (Below.heap_setCell _ _ _ _ (by dsimp only; omega)) (Keep.setCell (Keep.refl _ _) (.inl (.inl hZr)) _)
        have hk4 : Keep (fun k => k = l ∨ k = w.heap.size + 1) w2 (w3.setCell ⟨w.heap.size + 1, 0, none⟩ (.int .i64 ((rs.length - 1 - i : Nat) : Int))) := Keep.setCell (hK3.mono fun _ _ h => .inl h) (.inl (.inr rfl)) _
        have hdec : decF A rs day = ((rs.length - 1 - i : Nat) : Int) := by
          refine lastN_hit (by omega) (by rw [← hn, HU.out, HH.out]) fun j h1 h2 => ?_
          have := HN.out (rs.length - 1 - j) (by omega)
          rwa [show rs.length - 1 - (rs.length - 1 - j) = j by omega] at this
        have hnr : ¬ Z' (w.heap.size + 1) := fun h => by have := (HZ'.out _ h).1; omega
        refine ⟨hk4.mono fun k _ h => ?_, fun w' hk => ⟨rfl, LookAt.split hL4 hnz w' hk, ?_, ?_⟩⟩
        · rcases h with rfl | rfl
          · exact hnz
          · exact hnr
        · refine HE.out.keep (Y := fun k => k = l ∨ w.heap.size ≤ k) ((((HK.out.mono fun _ _ h => .inl h).trans (hV2.mono fun k _ h => .inr (by have := (HZ'.out k h).1; omega))).trans (hk4.mono fun k _ h => h.imp id (fun h => by omega))).trans (hk.mono fun k _ h => .inr (by have := (HZ'.out k h).1; omega))) fun k h1 h2 => h2.resolve_right (by omega)
        · rw [hdec]; exact hk.blk (set_blk (HB3.out w3 hK3) 0 _) hnr
  · intro D V hD hI hdf
    obtain ⟨hL, hK, hno⟩ := hI.now
    have hb := hK.blk B2.out (by omega)
    have hk := cellsOf hb
    have hf := frozenOf hb
    have hdec : decF A rs day = -1 := lastN_miss fun j hj => by
      have := hno (rs.length - 1 - j) (by rw [backX_length]; omega)
      rwa [show rs.length - 1 - (rs.length - 1 - j) = j by omega] at this
    have hdf2 : (V.setCell ⟨w.heap.size + 1, 0, none⟩ (.int .i64 (-1))).heap[D]? = some (.deferred (some [])) := (Below.heap_setCell _ _ _ _ (by dsimp only; omega)).trans hdf
    have hI2 : Stab (· = D) V fun V => LookAt Z1 V l A day q ∧ Keep (· = l) W V := fun w' hk => ⟨(hI w' hk).1, (hI w' hk).2.1⟩
    have HI := hid hI2
    have HD := hid hdf2
    have HC := hid hdec
    clear hI hI2 hno hdf hdf2 hdec hL hK hb
    have hv : (V.setCell ⟨w.heap.size + 1, 0, none⟩ (.int .i64 (-1))).heap[w.heap.size + 1]? = some (.cells #[.int .i64 (-1)] 3) := set_blk (HI.out.now.2.blk B2.out (by omega)) 0 _
    have HW := hid hv
    clear hv
    gi_wp2
    have hp := putObj_keep (Z := fun k => k = D) (w := V.setCell ⟨w.heap.size + 1, 0, none⟩ (.int .i64 (-1))) (.deferred none) rfl
    refine leaves_mark HD.out (results_cell (p := ⟨w.heap.size + 1, 0, none⟩) (v := .int .i64 (-1)) rfl Tryz.underlying3 rfl rfl (cellsOf (hp.blk HW.out (by omega)) 0)) ⟨by rw [HC.out], ?_, ?_⟩
    · have h1 : LookAt (fun k => Z1 k ∨ k = D) V l A day q := LookAt.join (fun w' hk => (HI.out w' hk).1) (by omega)
      have h2 := h1.keep (Below.heap_setCell _ _ _ _ (by dsimp only; omega)) (Keep.setCell (Keep.refl (fun k => Z1 k ∨ k = D) V) (p := ⟨w.heap.size + 1, 0, none⟩) (.inl (.inl hZr)) (.int .i64 (-1)))
      exact (LookAt.split h2 (by omega) _ hp).mono fun k _ h => HZ3.out k h
    · exact HE.out.keep (Y := fun k => k = l ∨ w.heap.size ≤ k) ((Keep.setCell (HI.out.now.2.mono fun _ _ h => .inl h) (p := ⟨w.heap.size + 1, 0, none⟩) (.inl (.inr (by dsimp only; omega))) (.int .i64 (-1))).trans (hp.mono fun k _ h => .inr (by omega))) fun k h1 h2 => h2.resolve_right (by omega)
  · intro D c i V hD hi hI hdf
    obtain ⟨rfl, hL, hK, hb⟩ := hI.now
    have hp := putObj_keep (Z := fun k => k = D) (w := V) (.deferred none) rfl
    obtain ⟨_, hL2, hK2, hb2⟩ := hI _ hp
    have HX := hid (And.intro hdf (And.intro hL2 (And.intro hK2 hb2)))
    clear hI hdf hL2 hK2 hb2 hL hK hb
    gi_wp2
    obtain ⟨h1, h2, h3, h4⟩ := HX.out
    exact leaves_mark h1 (results_cell (p := ⟨w.heap.size + 1, 0, none⟩) rfl Tryz.underlying3 rfl rfl (cellsOf h4 0)) ⟨rfl, h2.mono fun k _ h => HZ3.out k h, h3⟩
end Go.Proofs.YtgjahejhpkbecaaGreatDoor
