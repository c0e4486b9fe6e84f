/- A drawn region whose stores come behind all its loads: the loads are taken first. -/
import Derived.Test.YtgjahejhpkbecaaGreatDoorBase
import Derived.OrdersHeld
import Derived.RegionTactic
namespace Go.Proofs.YtgjahejhpkbecaaGreatDoor
open Go.RowKit

/-- Whatever order is picked; what is no late operation (B) leaves the world as it is; S holds behind each. -/
def anyE (P : Program) (ops : Array Oper) (Q : Exit → Act → World → Prop) (B : List Nat) (S : World → Prop) : Nat → Array Bool → Act → World → Prop
  | 0, listed, a, w => Region.ready .any ops listed = [] ∧ Q .normal a w
  | fuel + 1, listed, a, w =>
    (Region.ready .any ops listed = [] → Q .normal a w) ∧
    ∀ i ∈ Region.ready .any ops listed, wpOp P ops Q i (fun a' w' => (B.contains i = false → w' = w) ∧ S w' ∧ anyE P ops Q B S fuel (listed.setIfInBounds i true) a' w') a w

theorem any_of_E {P : Program} {ops : Array Oper} {Q : Exit → Act → World → Prop} {B : List Nat} {S : World → Prop} : ∀ (fuel : Nat) (listed : Array Bool) (a : Act) (w : World), anyE P ops Q B S fuel listed a w → wpAny P .any ops Q fuel listed a w
  | 0, _, _, _, h => h
  | fuel + 1, _, _, _, h => ⟨h.1, fun i hi => wpOp_mono (fun a' w' h' => any_of_E fuel _ a' w' h'.2.2) (h.2 i hi)⟩

/-- operation i comes ahead of all late ones that have not come up, and is apart from the others -/
def early (ops : Array Oper) (listed : Array Bool) (B : List Nat) (i : Nat) : Bool :=
  match ops[i]? with
  | none => false
  | some oi => !B.contains i && (List.range ops.size).all fun j => j == i || listed.getD j true || match ops[j]? with
      | some oj => if B.contains j then oj.after.any (fun e => Region.binds .any e && (e.on == i || (B.contains e.on && !listed.getD e.on false)))
          else oj.after.any (fun e => Region.binds .any e && e.on == i) || oi.apart ops oj
      | none => true
def Early (ops : Array Oper) (listed : Array Bool) (B : List Nat) (i : Nat) (oi : Oper) : Prop :=
  ∀ j oj, ops[j]? = some oj → j ≠ i → listed.getD j true = false →
    (B.contains j = true → ∃ e ∈ oj.after, Region.binds .any e = true ∧ (e.on = i ∨ (B.contains e.on = true ∧ listed.getD e.on false = false))) ∧
    (B.contains j = false → (∀ e ∈ oj.after, Region.binds .any e = true → e.on ≠ i) → oi.apart ops oj = true)
theorem early_spec {ops : Array Oper} {listed : Array Bool} {B : List Nat} {i : Nat} {oi : Oper} (hi : ops[i]? = some oi) (h : early ops listed B i = true) : B.contains i = false ∧ Early ops listed B i oi := by
  simp only [early, hi, Bool.and_eq_true, List.all_eq_true, List.mem_range, Bool.not_eq_true'] at h
  refine ⟨h.1, fun j oj hj hne hun => ?_⟩
  have h1 := h.2 j (Array.getElem?_eq_some_iff.1 hj).1
  simp only [hj, Bool.or_eq_true, beq_iff_eq, hne, false_or, hun, Bool.false_eq_true] at h1
  constructor
  · intro hB
    rw [if_pos hB] at h1
    obtain ⟨e, he, hb⟩ := Array.any_eq_true'.1 h1
    simp only [Bool.and_eq_true, Bool.or_eq_true, beq_iff_eq, Bool.not_eq_true'] at hb
    exact ⟨e, he, hb.1, hb.2⟩
  · intro hB hno
    rw [hB] at h1
    simp only [Bool.false_eq_true, if_false, Bool.or_eq_true] at h1
    rcases h1 with h1 | h1
    · obtain ⟨e, he, hb⟩ := Array.any_eq_true'.1 h1
      simp only [Bool.and_eq_true, beq_iff_eq] at hb
      exact absurd hb.2 (hno e he hb.1)
    · exact h1

section
variable {P : Program} {ops : Array Oper} {Q : Exit → Act → World → Prop} {B : List Nat} {S : World → Prop}

theorem anyE_first {i : Nat} {oi : Oper} {v : Value} {w : World} (hi : ops[i]? = some oi) (hsel : ∀ (j : Nat) (o : Oper) cs b, ops[j]? = some o → o.op ≠ .select cs b)
    (hQ : ∀ c a w, Q (.panic c) (a.put oi.dst v) w → Q (.panic c) a w) (hS : S w) :
    ∀ (fuel : Nat) (listed : Array Bool) (a : Act), Early ops listed B i oi →
      i ∈ Region.ready .any ops listed → YieldsIf P ops (· = w) oi v a →
      anyE P ops Q B S fuel (listed.setIfInBounds i true) (a.put oi.dst v) w → anyE P ops Q B S (fuel + 1) listed a w := by
  intro fuel
  induction fuel with
  | zero =>
    intro listed a _ hr hy H
    refine ⟨fun h => (by rw [h] at hr; cases hr), fun j hj => ?_⟩
    by_cases hji : j = i
    · subst hji; exact hy.wpOp hi rfl ⟨fun _ => rfl, hS, H⟩
    · have := ready_mono hj hji
      rw [H.1] at this
      cases this
  | succ fuel ih =>
    intro listed a hfree hr hy H
    refine ⟨fun h => (by rw [h] at hr; cases hr), fun j hj => ?_⟩
    by_cases hji : j = i
    · subst hji; exact hy.wpOp hi rfl ⟨fun _ => rfl, hS, H⟩
    · have h1 := H.2 j (ready_mono hj hji)
      obtain ⟨hjun, oj, hoj, hall⟩ := mem_ready.1 hj
      have hiun : listed.getD i false = false := by
        have h0 := (mem_ready.1 hr).1
        rcases Nat.lt_or_ge i listed.size with h' | h'
        · simp [h'] at h0 ⊢; exact h0
        · simp [Array.getElem?_eq_none h'] at h0
      obtain ⟨f1, f2⟩ := hfree j oj hoj hji hjun
      have hBj : B.contains j = false := by
        cases hb : B.contains j with
        | false => rfl
        | true =>
          obtain ⟨e, he, hbi, hor⟩ := f1 hb
          have h2 := hall e he hbi
          rcases hor with h3 | ⟨_, hu⟩
          · rw [h3, hiun] at h2; cases h2
          · rw [hu] at h2; cases h2
      have hnot : ∀ e ∈ oj.after, Region.binds .any e = true → e.on ≠ i := fun e he hb heq => by
        have h1 := hall e he hb
        rw [heq, hiun] at h1; cases h1
      have h2 := wpOp_putIf hoj (f2 hBj hnot) (fun cs b => hsel i oi cs b hi) (fun cs b => hsel j oj cs b hoj) hQ hy h1
      have hfree' : Early ops (listed.setIfInBounds j true) B i oi := fun k ok hk hki hun => by
        have hun0 : listed.getD k true = false := by
          by_cases hjk : j = k
          · subst hjk; exact hjun
          · rw [getD_set_ne true hjk] at hun; exact hun
        obtain ⟨g1, g2⟩ := hfree k ok hk hki hun0
        refine ⟨fun hb => ?_, g2⟩
        obtain ⟨e, he, hbi, hor⟩ := g1 hb
        refine ⟨e, he, hbi, hor.imp id fun ⟨x1, x2⟩ => ⟨x1, ?_⟩⟩
        have hne : j ≠ e.on := fun h => by rw [← h, hBj] at x1; cases x1
        rw [getD_set_ne false hne]; exact x2
      refine wpOp_mono (fun a' w' h3 => ?_) h2
      obtain ⟨h4, h5, h7, h6⟩ := h3
      obtain rfl := h5 hBj
      refine ⟨fun _ => rfl, h7, ih (listed.setIfInBounds j true) a' hfree' (ready_mono hr (Ne.symm hji)) h4 ?_⟩
      rw [Array.setIfInBounds_comm _ _ hji]
      exact h6

theorem anyE_firstS {i : Nat} {oi : Oper} {v : Value} (hi : ops[i]? = some oi) (hsel : ∀ (j : Nat) (o : Oper) cs b, ops[j]? = some o → o.op ≠ .select cs b)
    (hQ : ∀ c a w, Q (.panic c) (a.put oi.dst v) w → Q (.panic c) a w) :
    ∀ (fuel : Nat) (listed : Array Bool) (a : Act) (w : World),
      (∀ j oj, ops[j]? = some oj → j ≠ i → listed.getD j true = false → (∀ e ∈ oj.after, Region.binds .any e = true → e.on ≠ i) → oi.apart ops oj = true) →
      i ∈ Region.ready .any ops listed → YieldsIf P ops S oi v a → S w →
      anyE P ops Q B S fuel (listed.setIfInBounds i true) (a.put oi.dst v) w → anyE P ops Q B S (fuel + 1) listed a w := by
  intro fuel
  induction fuel with
  | zero =>
    intro listed a w _ hr hy hS H
    refine ⟨fun h => (by rw [h] at hr; cases hr), fun j hj => ?_⟩
    by_cases hji : j = i
    · subst hji; exact hy.wpOp hi hS ⟨fun _ => rfl, hS, H⟩
    · have := ready_mono hj hji
      rw [H.1] at this
      cases this
  | succ fuel ih =>
    intro listed a w hfree hr hy hS H
    refine ⟨fun h => (by rw [h] at hr; cases hr), fun j hj => ?_⟩
    by_cases hji : j = i
    · subst hji; exact hy.wpOp hi hS ⟨fun _ => rfl, hS, H⟩
    · have h1 := H.2 j (ready_mono hj hji)
      obtain ⟨hjun, oj, hoj, hall⟩ := mem_ready.1 hj
      have hiun : listed.getD i false = false := by
        have h0 := (mem_ready.1 hr).1
        rcases Nat.lt_or_ge i listed.size with h' | h'
        · simp [h'] at h0 ⊢; exact h0
        · simp [Array.getElem?_eq_none h'] at h0
      have hnot : ∀ e ∈ oj.after, Region.binds .any e = true → e.on ≠ i := fun e he hb heq => by
        have h1 := hall e he hb
        rw [heq, hiun] at h1; cases h1
      have h2 := wpOp_putIf hoj (hfree j oj hoj hji hjun hnot) (fun cs b => hsel i oi cs b hi) (fun cs b => hsel j oj cs b hoj) hQ hy h1
      have hfree' : ∀ k ok, ops[k]? = some ok → k ≠ i → (listed.setIfInBounds j true).getD k true = false →
          (∀ e ∈ ok.after, Region.binds .any e = true → e.on ≠ i) → oi.apart ops ok = true := fun k ok hk hki hun hno => by
        refine hfree k ok hk hki ?_ hno
        by_cases hjk : j = k
        · subst hjk; exact hjun
        · rw [getD_set_ne true hjk] at hun; exact hun
      refine wpOp_mono (fun a' w' h3 => ⟨h3.2.1, h3.2.2.1, ih (listed.setIfInBounds j true) a' w' hfree' (ready_mono hr (Ne.symm hji)) h3.1 h3.2.2.1 ?_⟩) h2
      rw [Array.setIfInBounds_comm _ _ hji]
      exact h3.2.2.2

/-- take number i first: it comes ahead of the stores -/
theorem anyE_take {i : Nat} {oi : Oper} {v : Value} {fuel : Nat} {listed : Array Bool} {a : Act} {w : World} (hi : ops[i]? = some oi)
    (hs : Region.noSelect ops = true) (hf : early ops listed B i = true) (hr : (Region.ready .any ops listed).contains i = true)
    (hQ : ∀ c a a' w, Q (.panic c) a' w → Q (.panic c) a w) (hw : Region.wanted oi (yielded ops a.tmps) = true) (hS : S w) (hy : (execOp a.eval oi).run P w = .ok (.value v) w)
    (h : anyE P ops Q B S fuel (listed.setIfInBounds i true) (a.put oi.dst v) w) : anyE P ops Q B S (fuel + 1) listed a w :=
  anyE_first hi (Region.noSelect_spec hs) (fun c a w => hQ c a _ w) hS fuel listed a (early_spec hi hf).2 (by simpa using hr) (.inl ⟨hw, fun _ hh => hh ▸ hy⟩) h
/-- take number i first: it yields the same wherever S holds -/
theorem anyE_takeS {i : Nat} {oi : Oper} {v : Value} {fuel : Nat} {listed : Array Bool} {a : Act} {w : World} (hi : ops[i]? = some oi)
    (hs : Region.noSelect ops = true) (hf : Region.free .any ops listed i = true) (hr : (Region.ready .any ops listed).contains i = true)
    (hQ : ∀ c a a' w, Q (.panic c) a' w → Q (.panic c) a w) (hw : Region.wanted oi (yielded ops a.tmps) = true) (hS : S w) (hy : ∀ w, S w → (execOp a.eval oi).run P w = .ok (.value v) w)
    (h : anyE P ops Q B S fuel (listed.setIfInBounds i true) (a.put oi.dst v) w) : anyE P ops Q B S (fuel + 1) listed a w :=
  anyE_firstS hi (Region.noSelect_spec hs) (fun c a w => hQ c a _ w) fuel listed a w (Region.free_spec hi hf) (by simpa using hr) (.inl ⟨hw, hy⟩) hS h
/-- only number i may come up -/
theorem anyE_only {i : Nat} {oi : Oper} {fuel : Nat} {listed : Array Bool} {a : Act} {w : World} (hi : ops[i]? = some oi)
    (hr : Region.ready .any ops listed = [i])
    (h : ∀ K' : Act → World → Prop, (∀ a' w', (B.contains i = false → w' = w) → S w' → anyE P ops Q B S fuel (listed.setIfInBounds i true) a' w' → K' a' w') → if Region.wanted oi (yielded ops a.tmps) = true then Oper.wp P oi a w K' Q else K' (a.put oi.dst undef) w) :
    anyE P ops Q B S (fuel + 1) listed a w := by
  refine ⟨fun h0 => absurd (h0.symm.trans hr) (by simp), fun j hj => ?_⟩
  · rw [hr] at hj
    obtain rfl : j = i := by simpa using hj
    exact wpOp_step hi fun K' hK => h K' fun a' w' h1 h2 h3 => hK a' w' ⟨h1, h2, h3⟩
theorem anyE_done {listed : Array Bool} {a : Act} {w : World} (hr : Region.ready .any ops listed = []) (h : Q .normal a w) :
    ∀ fuel, anyE P ops Q B S fuel listed a w
  | 0 => ⟨hr, h⟩
  | _ + 1 => ⟨fun _ => h, by rw [hr]; simp⟩
theorem region_E (B : List Nat) (S : World → Prop) {id : Nat} {a : Act} {w : World} (hm : P.follows .mixedOrders = true)
    (h : anyE P ops Q B S ops.size (Array.replicate ops.size false) a w.drew) : (Code.region id ops true).wp P Q a w :=
  wp_region_any hm (any_of_E _ _ _ _ h)
end
end Go.Proofs.YtgjahejhpkbecaaGreatDoor
