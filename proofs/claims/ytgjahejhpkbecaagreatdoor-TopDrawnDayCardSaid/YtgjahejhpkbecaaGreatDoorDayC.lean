/-
  TopDrawnDay: whatever the input, the call of astragaltop.TopDrawnDay returns true, and its arguments read behind the call as they read before. The statement is the tied card of the seat: it lists five tables of Go's library with what they hold, tied to the program's text. No other condition.
-/
import Derived.Test.YtgjahejhpkbecaaGreatDoorDayB
import Derived.Test.YtgjahejhpkbecaaGreatDoorCards
import Derived.Test.YtgjahejhpkbecaaGreatDoorTie
import Derived.ProofKit
import Derived.OpenShut
import Derived.LaidMore
import Derived.Lay
import Derived.SevenTiedAt
import Derived.Stop.Joined
import Derived.ChangeSlices
import Derived.Carry
import Derived.Lib.LaidTab
namespace Go.Proofs.YtgjahejhpkbecaaGreatDoor
open Go.ChangeShapes Go.WideShapes Go.ChangeAt Go.RowKit

theorem own : ownKnob Tryz.prog.godebug = none := by kernel_rfl
def zs64 : List Int := [0, 1, 56, 2, 57, 49, 28, 3, 61, 58, 42, 50, 38, 29, 17, 4, 62, 47, 59, 36, 45, 43, 51, 22, 53, 39, 33, 30, 24, 18, 12, 5, 63, 55, 48, 27, 60, 41, 37, 16, 46, 35, 44, 21, 52, 32, 23, 11, 54, 26, 40, 15, 34, 20, 31, 10, 25, 14, 19, 9, 13, 8, 7, 6]
theorem table {W : World} (h : laidMetH Tryz.prog Rows.topDrawnDayRow.laid W) : W.cell? ⟨5, 15, none⟩ = some (.int .u8 4) := by
  rw [MakeChecks.laidMetH_plain _ _ _ (by kernel_rfl)] at h
  obtain ⟨ps, ⟨g0, t0, cs0, f0, p0, q0, hg0, ht0, hv0, hd0, ⟨g1, t1, cs1, f1, p1, q1, hg1, ht1, hv1, hd1, _⟩, _⟩, _⟩ := h
  have hg : Tryz.prog.globalNamed "math/bits.deBruijn64tab" = some 5 := by kernel_rfl
  have hty : (Tryz.prog.globals[5]?).map (·.type) = some 224 := by kernel_rfl
  obtain rfl := Option.some.inj (hg.symm.trans hg1)
  obtain rfl := Option.some.inj (hty.symm.trans ht1)
  have hT : Lib.TabIs Tryz.prog W "math/bits.deBruijn64tab" .u8 zs64 := by
    unfold Lib.TabIs
    rw [hv1, ← Lib.cells_of_tab (zs := zs64) (k := .u8) Tryz.underlying224 Tryz.underlying5 (by kernel_rfl) (by kernel_rfl) hd1]
  exact hT.cell hg 15 (by decide)

theorem okWide_array {P : Program} {w : World} {r : Reach} {base n : Nat} {t e : TypeId} {v : Value} (ht : P.underlying t = some (.array n e)) (h : Value.okWide P w r base t v) : ∃ cs : Array Value, v = .agg cs ∧ cs.size = P.cellsOf t := by
  unfold Value.okWide at h
  rw [ht] at h
  obtain ⟨cs, h1, h2, _⟩ := h
  exact ⟨cs, h1, h2⟩
theorem open_pair {H : Type} {enc : TypeId × Value → H} {P : Program} {w : World} {sp : Nat → Bool} {held : Bool} {r : Reach} {b0 base : Nat} {t e : TypeId} {v : Value} {d : DataW H} {ps : List MemPlace} (ht : P.underlying t = some (.array 2 e)) (he : P.underlying e = some (.int .u8)) (hce : P.cellsOf e = 1)
    (hct : P.cellsOf t = 2) (hval : Value.okWide P w r b0 t v) (hd : DataW.Trod enc P w base sp held t v d ps) : ∃ m f : Nat, m < 256 ∧ f < 256 ∧ v = .agg #[.int .u8 m, .int .u8 f] := by
  obtain ⟨cs, rfl, hs⟩ := okWide_array ht hval
  obtain ⟨fuel, hf⟩ := hd
  obtain ⟨xs, k, rfl, _, _, hl, hel⟩ := DataW.trod_array ht hf
  have one : ∀ i, i < 2 → ∃ m : Nat, m < 256 ∧ cs[i]? = some (.int .u8 m) := fun i hi => by
    have h := hel i hi
    rw [hce, Nat.mul_one, List.getElem?_eq_getElem (by omega)] at h
    obtain ⟨z, e1, e2, hw⟩ := DataW.trod_int he h
    have hw' : (decide (0 ≤ z) && decide (z ≤ 255)) = true := hw
    have hz : 0 ≤ z ∧ z ≤ 255 := by simpa using hw'
    refine ⟨z.toNat, by omega, ?_⟩
    have h0 : ((cs.toList.drop i).take 1)[0]? = some (.int .u8 z) := by
      rw [show (Value.agg cs).cells.toList = cs.toList from rfl] at e1
      rw [e1]; rfl
    rw [show ((z.toNat : Nat) : Int) = z by omega]
    simpa using h0
  obtain ⟨m, hm, h0⟩ := one 0 (by omega)
  obtain ⟨f, hf', h1⟩ := one 1 (by omega)
  refine ⟨m, f, hm, hf', ?_⟩
  congr 1
  apply Array.ext_getElem?
  intro i
  rcases i with _ | _ | i
  · rw [h0]; rfl
  · rw [h1]; rfl
  · rw [Array.getElem?_eq_none (by omega)]; rfl
set_option maxRecDepth 100000 in
theorem others_at {H : Type} {enc : TypeId × Value → H} {w : World} {base : Nat} {held : Bool} {r : Reach} {b0 : Nat} {v : Value} {d : DataW H} {ps : List MemPlace} (hval : Value.okWide Tryz.prog w r b0 24 v) (hd : DataW.Trod enc Tryz.prog w base (fun _ => true) held 24 v d ps) :
    ∃ zs, OthersAt w v zs := by
  obtain ⟨a, len, cap, rfl⟩ := okWide_slice Tryz.underlying24 hval
  obtain ⟨fuel, hf⟩ := hd
  rcases open_ints Tryz.underlying24 Tryz.underlying22 (by kernel_rfl) hf with ⟨h, _⟩ | ⟨ad, n, c, zs, h, _, hl, hm, hlen, _, hcell, hw⟩
  · refine ⟨[], Nat.zero_le _, .inl ⟨?_, rfl⟩⟩
    have h : [Value.slice a len cap] = [.slice none 0 0] := h
    exact (List.cons.inj h).1
  · have h : [Value.slice a len cap] = [.slice (some ad) n c] := h
    have h := (List.cons.inj h).1
    rw [if_pos rfl] at hlen
    have hln : ((zs.take n).map Int.toNat).length = n := by simp; omega
    refine ⟨(zs.take n).map Int.toNat, by rw [hln]; omega, .inr ⟨ad, c, by rw [hln]; exact h, fun i hi => ?_⟩⟩
    rw [hln] at hi
    have hz : ((zs.take n).map Int.toNat).getD i 0 = (zs.getD i 0).toNat := by
      simp only [List.getD_eq_getElem?_getD, List.getElem?_map, List.getElem?_take_of_lt hi]
      rw [List.getElem?_eq_getElem (by omega)]; rfl
    have hb : 0 ≤ zs.getD i 0 ∧ zs.getD i 0 ≤ 65535 := by
      have hmem : zs.getD i 0 ∈ zs := by
        rw [List.getD_eq_getElem?_getD, List.getElem?_eq_getElem (by omega)]; exact List.getElem_mem _
      have hw' : (decide (0 ≤ zs.getD i 0) && decide (zs.getD i 0 ≤ 65535)) = true := hw _ hmem
      simpa using hw'
    rw [hz]
    refine ⟨?_, by omega⟩
    rw [hcell i (by omega), show (((zs.getD i 0).toNat : Nat) : Int) = zs.getD i 0 by omega]

set_option maxRecDepth 100000 in
theorem lifted (os : Os) (started : os.Started) (H : Type) (enc : TypeId × Value → H) :
    ReturnsInHanded {} Tryz.checked os 3 .any (fun w args => (Rows.topDrawnDaySpec.pre enc Tryz.prog Tryz.f3 [] false w args ∧ laidMetH Tryz.prog Rows.topDrawnDayRow.laid w) ∧ sizedMet enc Tryz.prog Tryz.f3 (OpenSpec.ofChange Rows.topDrawnDaySpec) false w args)
      (Rows.topDrawnDaySpec.post enc Tryz.prog Tryz.f3 false true false false) := by
  refine returnsInHanded_of_change_and (C := Tryz.checked) (X := fun w _ => laidMetH Tryz.prog Rows.topDrawnDayRow.laid w) (fun _ _ _ hh h => h.of_heap hh) own started (by kernel_rfl) Tryz.func3
    (ChangeSpec.witness_shaped (enc := enc) (C := Tryz.checked) (os := os) (X := fun w _ => laidMetH Tryz.prog Rows.topDrawnDayRow.laid w) false (World.laidAll Tryz.prog os Rows.topDrawnDayRow.laid) #[.int .u16 0, .agg #[.int .u8 0, .int .u8 0], .slice none 0 0] 8 (World.laidAll_os _ _ _)
      (World.shaped_of_ZipB (by kernel_rfl) (by kernel_rfl)) (by kernel_rfl) (by kernel_rfl) (by kernel_rfl)
      (by rw [MakeChecks.laidMetH_plain _ _ _ (by kernel_rfl)]; exact laidMet_laidAll _ (by kernel_rfl) (by kernel_rfl))) ?_
  intro W base args ds gs before hval0 hW _ _ hL _
  have hval : ∀ (j : Nat) t v, Tryz.f3.params[j]? = some t → args[j]? = some v → Value.okWide Tryz.prog W .any base t v := hval0
  have hW' := hW
  have hlt := fun p hp => hW.lt p hp
  obtain ⟨p, q, hA0, hV, rfl, _, _⟩ := hW
  have hA : DataW.TrodAll enc Tryz.prog W 0 (fun _ => true) true Tryz.f3.params.toList args.toList ds p := hA0
  rw [Tryz.params3] at hA hval
  obtain ⟨v0, v1, v2, d0, d1, d2, p0, p1, p2, rfl, rfl, rfl, h0, h1, h2⟩ := trodAll_three hA
  obtain ⟨rfl, rfl⟩ := trodVars_none hV
  have hlt0 : ∀ y ∈ p0, y.block < W.heap.size := fun y hy => hlt y (by simp [hy])
  have hlt1 : ∀ y ∈ p1, y.block < W.heap.size := fun y hy => hlt y (by simp [hy])
  have hlt2 : ∀ y ∈ p2, y.block < W.heap.size := fun y hy => hlt y (by simp [hy])
  have hlo : laidOutB Tryz.prog = true := by kernel_rfl
  have k0 := fun {W' : World} (hE : Ext W W') => Below.trod hlo (by kernel_rfl) (of_decide_eq_true (by kernel_rfl)) h0 hE hlt0
  have k1 := fun {W' : World} (hE : Ext W W') => Below.trod hlo (by kernel_rfl) (of_decide_eq_true (by kernel_rfl)) h1 hE hlt1
  have k2 := fun {W' : World} (hE : Ext W W') => Below.trod hlo (by kernel_rfl) (of_decide_eq_true (by kernel_rfl)) h2 hE hlt2
  obtain ⟨zs, hzs⟩ := others_at (hval 2 _ v2 rfl rfl) h2
  obtain ⟨m, f, hm, hf, rfl⟩ := open_pair Tryz.underlying23 Tryz.underlying5 (by kernel_rfl) (by kernel_rfl) (hval 1 _ v1 rfl rfl) h1
  obtain ⟨x, rfl, _, _, wx⟩ := open_int Tryz.underlying22 (hval 0 _ v0 rfl rfl) h0
  have wx' : (decide (0 ≤ x) && decide (x ≤ 65535)) = true := wx
  have hx : 0 ≤ x ∧ x ≤ 65535 := by simpa using wx'
  obtain ⟨x, rfl⟩ : ∃ n : Nat, x = n := ⟨x.toNat, by omega⟩
  refine (law_any x m f v2 zs W (by omega) hm hf hzs (table hL)).mono fun e W' ⟨he, hE⟩ => ?_
  subst he
  exact ⟨_, rfl, [d0, d1, d2], [], _, [], p0 ++ (p1 ++ p2), [], hW', trodAll_mk1 (shut_bool Tryz.underlying4 _), trodAll_mk3 (k0 hE) (k1 hE) (k2 hE), rfl, Below.frame hE _, fun h => by cases h⟩

theorem said : Rows.TopDrawnDaySaid :=
  OpenClaim.holds_of_wide 3 Tryz.f3 rfl rfl rfl rfl rfl rfl rfl ⟨rfl, rfl, rfl, rfl, rfl⟩ rfl rfl rfl rfl rfl (by kernel_rfl) Tryz.func3 (by kernel_rfl)
    (of_decide_eq_true (by kernel_rfl)) (by unfold Func.isWrapper; first | (rw [if_pos (by decide +kernel)]; kernel_rfl) | (rw [if_neg (by decide +kernel)]; exact ⟨rfl, rfl⟩))
    (fun os started H enc _ => lifted os started H enc)
theorem plain (f : FuncId) (fn : Func) (hf : Tryz.pinned.checked.prog.funcNamed "astragal/astragaltop.TopDrawnDay" = some f) (hfn : Tryz.pinned.checked.prog.funcs[f]? = some fn) :
    false = Tryz.pinned.checked.prog.looks [] ∧ ∀ (j : Nat) t, fn.params[j]? = some t → Tryz.pinned.checked.prog.wantsStandIn t = false := by
  obtain rfl : f = 3 := Option.some.inj ((show Tryz.prog.funcNamed "astragal/astragaltop.TopDrawnDay" = some 3 by kernel_rfl).symm.trans hf) |>.symm
  obtain rfl : fn = Tryz.f3 := (Option.some.inj (Tryz.func3.symm.trans hfn)).symm
  refine ⟨by kernel_rfl, fun j t ht => ?_⟩
  rw [Tryz.params3] at ht
  have hm : t ∈ [22, 23, 24] := by simpa using Array.mem_of_getElem? ht
  have hall : ([22, 23, 24].all fun u => !Tryz.prog.wantsStandIn u) = true := by kernel_rfl
  exact (show Tryz.prog.wantsStandIn t = false by simpa using List.all_eq_true.1 hall t hm)
theorem topDrawnDay_card : Rows.TopDrawnDayCardSaid :=
  Claim7.holds_tied_plain_at .later [] _ _ _ _ said (fun _ h => by cases h) (by kernel_rfl) (fun _ h => by cases h) topDrawnDay_row_tie rfl ⟨rfl, rfl⟩ (by kernel_rfl) rfl plain (by kernel_rfl)
#print axioms topDrawnDay_card
end Go.Proofs.YtgjahejhpkbecaaGreatDoor
