/- A day drawn by lot: the walk. -/
import Derived.Test.YtgjahejhpkbecaaGreatDoorDayP
import Derived.Maps.OwnSet
import Derived.Deep.AppendLies
import Derived.Deep.DeepCutAuto
namespace Go.Proofs.YtgjahejhpkbecaaGreatDoor
open Go.RowKit Go.Maps

def lawG (S : Int) : Int → Bool := allowB quietA (lawRules S)
theorem infoInt : (Tryz.prog.info? 3).map (fun i => (i.zero, i.size, i.bytes)) = some (some (.int .i64 0), 1, 8) := by kernel_rfl
theorem owns_int {w : World} {base g n cap : Nat} {xs : List Value} (h : w.ownsRow base 3 1 (.slice (some ⟨g, 0, none⟩) n cap) n xs) {k : Nat} {u : Value} (hk : xs[k]? = some u) : w.cell? ⟨g, k, none⟩ = some u := by
  obtain ⟨h1, h2⟩ := h
  rcases h2 with ⟨h3, _⟩ | ⟨g', cap', cur, h3, _, hg, _, _, hs, ht⟩
  · cases h3
  · cases h3
    rw [cellsOf hg]
    rw [← ht] at hk
    have hlt : k < n := by
      have := (List.getElem?_eq_some_iff.1 hk).1
      simp at this; omega
    rw [List.getElem?_take_of_lt (by omega)] at hk
    simpa using hk
/-- a load whose outcome is known, in a region that only reads -/
theorem quiet_load_val {P : Program} {ops : Array Oper} {C : World → Prop} {Q : Act → Prop} {rest : List Oper} {o : Oper} {a : Act} (hgd : o.guard = none) (ty : TypeId) (x : Operand) (ho : o.op = .load ty x)
    (p : Value) (hx : a.eval x = p) (v : Value) (hrun : ∀ w, C w → (Instr.loadAt ty p).run P w = .ok v w) (h : wpQuiet P ops C Q rest (a.put o.dst v)) : wpQuiet P ops C Q (o :: rest) a :=
  wpQuiet_step fun K hK => by
    have hw : Region.wanted o (yielded ops a.tmps) = true := by simp [Region.wanted, hgd]
    rw [if_pos hw]
    refine ⟨v, fun w hw => ?_, hK _ h⟩
    unfold Oper.quietAt execOp; rw [ho]; subst hx; simp only [Sem.run_bind, hrun w hw]; exact ⟨rfl, rfl⟩
/-- the map of the days that were drawn: v of them, by the numbers below v -/
def DrawnAt (W : World) (b v k : Nat) (d : Nat → Int) (kf : Nat → Nat) : Prop :=
  ∃ D : DataW Unit, W.ownsMap Tryz.prog 3 (plainElem Tryz.prog 4) b v D ∧ Maps.size D = v ∧ ∀ i, i < k → Maps.has D (.int .i64 (d i)) = true → ∃ u, u < v ∧ kf u = i
theorem plainElem_bool_inv {P : Program} {e : TypeId} (he : P.underlying e = some .bool) {v : Value} {x : Bool} {ps : List MemPlace} (h : plainElem (H := Unit) P e v = some (.lit (.bool x), ps)) : v = .bool x := by
  unfold plainElem at h
  rw [he] at h
  cases v <;> simp at h
  rw [h.1]
theorem keyInt : Keyed Tryz.prog 3 := int_keyed Tryz.underlying3
theorem zeroBool (w : World) : (zeroValue 4).run Tryz.prog w = .ok (.bool false) w := by kernel_rfl
theorem grown_of_keep {a b : World} {row : Nat} (h : Keep (· = row) a b) : a.grownBy b (some row) := ⟨h.os, h.tape, h.output, h.size, fun k hk hx => h.block k hk (fun e => hx (by rw [e]))⟩
theorem grown_of_ext {a b : World} (h : Ext a b) : a.grownBy b none := ⟨Below.os h, Below.tape h, Below.output h, h.size, fun k hk _ => h.blk hk⟩
theorem DrawnAt.later {W W' : World} {b v k : Nat} {d : Nat → Int} {kf : Nat → Nat} (h : DrawnAt W b v k d kf) (he : Ext W W') : DrawnAt W' b v k d kf := by
  obtain ⟨D, h1, h2, h3⟩ := h
  exact ⟨D, h1.kept (grown_of_ext he) (by simp), h2, h3⟩
theorem DrawnAt.fresh {W : World} {b v k : Nat} {d : Nat → Int} {kf : Nat → Nat} (h : DrawnAt W b v k d kf) {i : Nat} (hi : i < k) (hno : ∀ u, u < v → kf u ≠ i) (hw : (Lit.int .i64 (d i)).wf = true) :
    (Instr.lookup 48 (.map (some b)) (.int .i64 (d i)) false).run Tryz.prog W = .ok (.bool false) W := by
  obtain ⟨D, h1, h2, h3⟩ := h
  obtain ⟨x, ps, hrun, hx⟩ := h1.lookup keyInt Tryz.underlying48 (zeroBool W) (plainElem_bool Tryz.underlying4 false) (keyOf_int_mk Tryz.underlying3 hw)
  have hn : Maps.has D (.int .i64 (d i)) = false := by
    cases hh : Maps.has D (.int .i64 (d i)) with
    | false => rfl
    | true =>
      obtain ⟨u, hu, he⟩ := h3 i hi hh
      exact absurd he (hno u hu)
  rw [Maps.atKey_of_not_has hn] at hx
  rw [hrun, plainElem_bool_inv Tryz.underlying4 hx]
theorem DrawnAt.none {W : World} {k : Nat} {d : Nat → Int} {kf : Nat → Nat} : DrawnAt (W.alloc (.map #[] 0)) W.heap.size 0 k d kf :=
  ⟨.map [], World.ownsMap_made _ _ _ _, rfl, fun i _ h => by simp [Maps.has] at h⟩
theorem lit_ne {a b : Int} (h : a ≠ b) : (Lit.int .i64 a) ≠ (Lit.int .i64 b) := fun e => h (by injection e)
theorem DrawnAt.add {W W' : World} {b v k : Nat} {d : Nat → Int} {kf : Nat → Nat} {D : DataW Unit} {i : Nat} (hd : ∀ i j, i < k → j < k → d i = d j → i = j) (h1 : W.ownsMap Tryz.prog 3 (plainElem Tryz.prog 4) b v D) (h2 : Maps.size D = v)
    (h3 : ∀ i, i < k → Maps.has D (.int .i64 (d i)) = true → ∃ u, u < v ∧ kf u = i) (hi : i < k) (hno : ∀ u, u < v → kf u ≠ i) (hkf : kf v = i)
    (h' : W'.ownsMap Tryz.prog 3 (plainElem Tryz.prog 4) b (v + 1) (D.put (.int .i64 (d i)) (.lit (.bool true)))) : DrawnAt W' b (v + 1) k d kf := by
  have hn : Maps.has D (.int .i64 (d i)) = false := by
    cases hh : Maps.has D (.int .i64 (d i)) with
    | false => rfl
    | true =>
      obtain ⟨u, hu, he⟩ := h3 i hi hh
      exact absurd he (hno u hu)
  refine ⟨_, h', by rw [Maps.size_put (h1.tidy keyInt), hn]; simp [h2], fun j hj hh => ?_⟩
  by_cases hij : j = i
  · exact ⟨v, by omega, by rw [hkf, hij]⟩
  · rw [Maps.has_put_other (lit_ne (fun e => hij (hd j i hj hi e)))] at hh
    obtain ⟨u, hu, he⟩ := h3 j hj hh
    exact ⟨u, by omega, he⟩
/-- the days, as they lie in memory -/
structure DaysMem (W : World) (g k : Nat) (S : Int) (d : Nat → Int) : Prop where
  cell : ∀ i, i < k → W.cell? ⟨g, i, none⟩ = some (.int .i64 (d i))
  good : ∀ i, i < k → lawG S (d i) = true ∧ 0 ≤ d i ∧ d i < 65636
  inj : ∀ i j, i < k → j < k → d i = d j → i = j
theorem days_mem {W : World} {base g k cp : Nat} {S : Int} {x j : Nat} (hx : x < 65536) (hj : j ≤ 60) (hk : k = (daysF (lawG S) x j).length) (h : W.ownsRow base 3 1 (.slice (some ⟨g, 0, none⟩) k cp) k ((daysF (lawG S) x j).map (Value.int .i64))) : DaysMem W g k S (fun i => (daysF (lawG S) x j).getD i 0) := by
  have e : ∀ i, i < k → (daysF (lawG S) x j)[i]? = some ((daysF (lawG S) x j).getD i 0) := fun i hi => by
    rw [List.getD_eq_getElem?_getD, List.getElem?_eq_getElem (by omega)]; rfl
  refine ⟨fun i hi => owns_int h (by rw [List.getElem?_map, e i hi]; rfl), fun i hi => ?_, fun i i' h1 h2 he => ?_⟩
  · obtain ⟨h1, h2, h3⟩ := daysF_mem (e i hi)
    exact ⟨h1, by omega, by omega⟩
  · have h3 := e i h1
    have h4 := e i' h2
    rw [← show (daysF (lawG S) x j).getD i 0 = (daysF (lawG S) x j).getD i' 0 from he] at h4
    exact daysF_inj h3 h4
/-- the slice of the others' numbers -/
def OthersAt (w : World) (v : Value) (zs : List Nat) : Prop :=
  zs.length ≤ maxLen ∧ ((v = .slice none 0 0 ∧ zs = []) ∨ ∃ a cap, v = .slice (some a) zs.length cap ∧ (∀ i, i < zs.length → w.cell? (a.add i) = some (.int .u16 (zs.getD i 0 : Nat)) ∧ zs.getD i 0 < 65536))
theorem law_rules {w : World} {S : Int} {tb rb : Nat} (h1 : w.heap[tb]? = some (.cells #[.int .i64 1, .int .i64 0, .int .u64 S, .int .i64 0, .int .i64 0] 42 (0, 0)))
    (h2 : w.heap[rb]? = some (.cells #[.slice none 0 0, .bool true, .slice (some ⟨tb, 0, none⟩) 1 1, .bool false] 38 (0, 0))) : RulesAt w (some ⟨rb, 0, none⟩) (lawRules S) := by
  refine ⟨[.agg #[.slice none 0 0, .bool true], .agg #[.slice (some ⟨tb, 0, none⟩) 1 1, .bool false]], by simp [lawRules], rfl, ?_, ?_⟩
  · intro i x hx
    refine ⟨rb, 0, rfl, ?_, ?_⟩
    · intro j v hv
      rw [cellsOf h2]
      rcases i with _ | _ | i
      · simp at hx; subst hx; rcases j with _ | _ | j <;> simp_all [Value.cells]
      · simp at hx; subst hx; rcases j with _ | _ | j <;> simp_all [Value.cells]
      · simp at hx
    · rcases i with _ | _ | i
      · simp at hx; subst hx; exact Loads.agg Tryz.underlying38 rfl (by kernel_rfl)
      · simp at hx; subst hx; exact Loads.agg Tryz.underlying38 rfl (by kernel_rfl)
      · simp at hx
  · intro i v r hv hr
    rcases i with _ | _ | i
    · simp at hv; simp [lawRules] at hr; subst hv; subst hr
      exact ⟨none, 0, rfl, by decide, Elems.nil _ _ _ _ _⟩
    · simp at hv; simp [lawRules] at hr; subst hv; subst hr
      refine ⟨some ⟨tb, 0, none⟩, 1, rfl, by simp, fun i x hx => ⟨tb, 0, rfl, fun j v hv => ?_, ?_⟩⟩
      · rw [cellsOf h1]
        rcases i with _ | i
        · simp at hx; subst hx; rcases j with _ | _ | _ | _ | _ | j <;> simp_all [Value.cells, DT.enc]
        · simp at hx
      · rcases i with _ | i
        · simp at hx; subst hx; exact Loads.agg Tryz.underlying42 rfl (by kernel_rfl)
        · simp at hx
    · simp at hv
theorem quiet_at {w : World} {cb : Nat} (h : w.heap[cb]? = some (.cells #[.int .i64 7, .int .i64 0] 35 (0, 0))) : AlmAt w quietA (some ⟨cb, 0, none⟩) := by
  refine ⟨by decide, fun i x hx => ⟨cb, 0, rfl, fun j v hv => ?_, ?_⟩⟩
  · rw [cellsOf h]
    rcases i with _ | i
    · simp [quietA] at hx; subst hx; rcases j with _ | _ | j <;> simp_all [Value.cells, Cyc.enc]
    · simp [quietA] at hx
  · rcases i with _ | i
    · simp [quietA] at hx; subst hx; exact Loads.agg Tryz.underlying35 rfl (by kernel_rfl)
    · simp [quietA] at hx

/-- the almanac and the rules, in memory -/
structure LawMem (W : World) (cb ab rb : Nat) (S : Int) : Prop where
  alm : AlmAt W quietA (some ⟨cb, 0, none⟩)
  rules : RulesAt W (some ⟨rb, 0, none⟩) (lawRules S)
  box : W.heap[ab]? = some (.cells (quietA.cells (some ⟨cb, 0, none⟩) 1) 32 (0, 0))
theorem LawMem.later {W W' : World} {cb ab rb : Nat} {S : Int} (h : LawMem W cb ab rb S) (he : Ext W W') : LawMem W' cb ab rb S := ⟨h.alm.later he, h.rules.later he, he.blk' h.box⟩
def quietV (cb : Nat) : Value := .agg #[.slice (some ⟨cb, 0, none⟩) 1 1, .int .i64 4, .int .i64 100, .int .i64 400, .int .i64 59, .int .i64 2, .int .i64 0, .int .i64 235, .int .i64 19, .int .i64 0, .int .i64 4]
theorem LawMem.load {W : World} {cb ab rb : Nat} {S : Int} (h : LawMem W cb ab rb S) : (Instr.loadAt 32 (.pointer (some ⟨ab, 0, none⟩))).run Tryz.prog W = .ok (quietV cb) W :=
  Loads.agg (P := Tryz.prog) Tryz.underlying32 rfl (cs := quietA.cells (some ⟨cb, 0, none⟩) 1) (by kernel_rfl) W ab 0 (fun j v hj => by
    rw [Nat.zero_add, cellsOf h.box]; simpa [Value.cells] using hj)
theorem lawMem_made (w : World) (cb : Nat) (S : Int) (hc : w.heap[cb]? = some (.cells #[.int .i64 7, .int .i64 0] 35 (0, 0))) :
    LawMem (((w.alloc (.cells #[.slice (some ⟨cb, 0, none⟩) 1 1, .int .i64 4, .int .i64 100, .int .i64 400, .int .i64 59, .int .i64 2, .int .i64 0, .int .i64 235, .int .i64 19, .int .i64 0, .int .i64 4] 32)).alloc
      (.cells #[.int .i64 1, .int .i64 0, .int .u64 S, .int .i64 0, .int .i64 0] 42)).alloc
      (.cells #[.slice none 0 0, .bool true, .slice (some ⟨w.heap.size + 1, 0, none⟩) 1 1, .bool false] 38)) cb w.heap.size (w.heap.size + 1 + 1) S := by
  have b1 := heap_alloc_new w (.cells #[.slice (some ⟨cb, 0, none⟩) 1 1, .int .i64 4, .int .i64 100, .int .i64 400, .int .i64 59, .int .i64 2, .int .i64 0, .int .i64 235, .int .i64 19, .int .i64 0, .int .i64 4] 32)
  have b2 := heap_alloc_new (w.alloc (.cells #[.slice (some ⟨cb, 0, none⟩) 1 1, .int .i64 4, .int .i64 100, .int .i64 400, .int .i64 59, .int .i64 2, .int .i64 0, .int .i64 235, .int .i64 19, .int .i64 0, .int .i64 4] 32)) (.cells #[.int .i64 1, .int .i64 0, .int .u64 S, .int .i64 0, .int .i64 0] 42)
  have b3 := heap_alloc_new ((w.alloc (.cells #[.slice (some ⟨cb, 0, none⟩) 1 1, .int .i64 4, .int .i64 100, .int .i64 400, .int .i64 59, .int .i64 2, .int .i64 0, .int .i64 235, .int .i64 19, .int .i64 0, .int .i64 4] 32)).alloc
      (.cells #[.int .i64 1, .int .i64 0, .int .u64 S, .int .i64 0, .int .i64 0] 42)) (.cells #[.slice none 0 0, .bool true, .slice (some ⟨w.heap.size + 1, 0, none⟩) 1 1, .bool false] 38)
  have hs : ∀ o, (w.alloc o).heap.size = w.heap.size + 1 := fun o => by simp
  rw [hs] at b2
  have hs2 : ∀ o o', ((w.alloc o).alloc o').heap.size = w.heap.size + 1 + 1 := fun o o' => by simp
  rw [hs2] at b3
  exact ⟨quiet_at ((((Ext.refl w).alloc _).alloc _).alloc _ |>.blk' hc), law_rules (((Ext.refl _).alloc _).blk' b2) b3, (((Ext.refl _).alloc _).alloc _).blk' b1⟩
theorem count_law {W : World} {cb ab rb : Nat} {S : Int} (h : LawMem W cb ab rb S) (hS : 0 ≤ S ∧ S < 128) (x M : Nat) (hx : x < 65536) (hM : M < 60) :
    Calls Tryz.prog 6 #[quietV cb, .slice (some ⟨rb, 0, none⟩) 2 2, .int .i64 x, .int .i64 ((x : Int) + M)] W fun e w' => e = .returned (.tuple #[.int .i64 ((daysF (lawG S) x (M + 1)).length : Nat), .int .i64 0]) ∧ Ext W w' :=
  Count_any quietA (some ⟨cb, 0, none⟩) 1 (lawRules S) (some ⟨rb, 0, none⟩) 2 x (x + M) (M + 1) W h.alm h.rules (errBoth_law S hS).1 (by omega) (by omega) (tests_law S hS)
theorem next_law {W : World} {cb ab rb : Nat} {S : Int} (h : LawMem W cb ab rb S) (hS : 0 ≤ S ∧ S < 128) (y : Int) (n : Nat) (last : Int) (hy : 0 ≤ y ∧ y < 65636) (hn : 1 ≤ n ∧ n ≤ 60) (hto : last = y + n - 1) :
    Calls Tryz.prog 7 #[quietV cb, .slice (some ⟨rb, 0, none⟩) 2 2, .int .i64 y, .int .i64 last] W fun e w' => e = .returned (.tuple #[.int .i64 (firstD (daysF (lawG S) y n)), .int .i64 (firstE (daysF (lawG S) y n))]) ∧ Ext W w' :=
  Next_any quietA (some ⟨cb, 0, none⟩) 1 (lawRules S) (some ⟨rb, 0, none⟩) 2 y last n W h.alm h.rules (errBoth_law S hS).1 (by omega) hto (tests_law S hS)
theorem allowed_law {W : World} {cb ab rb : Nat} {S : Int} (h : LawMem W cb ab rb S) (hS : 0 ≤ S ∧ S < 128) (d : Int) (hd : 0 ≤ d ∧ d < 65636) (hg : lawG S d = true) :
    Calls Tryz.prog 9 #[quietV cb, .slice (some ⟨rb, 0, none⟩) 2 2, .int .i64 d] W fun e w' => e = .returned (.tuple #[.bool true, .int .i64 (decF quietA (lawRules S) d), .int .i64 0]) ∧ Ext W w' := by
  have h1 := Allowed_any quietA (some ⟨cb, 0, none⟩) 1 (lawRules S) (some ⟨rb, 0, none⟩) 2 d W h.alm h.rules (errBoth_law S hS).1 (by omega) (tests_law S hS)
  unfold retAllowed at h1
  rw [show allowB quietA (lawRules S) d = true from hg] at h1
  exact h1

end Go.Proofs.YtgjahejhpkbecaaGreatDoor
