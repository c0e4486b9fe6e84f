/- A range over a function: the contract of an iterator, and the law of the statement. The rounds may change the blocks of a set X, and no others that were there: the iterator's facts lie out of X, the caller's below the mark n1, from which on the iterator's own blocks lie. -/
import Derived.Test.YtgjahejhpkbecaaGreatDoorBase
import Derived.RangeFuncFrom
import Derived.OwnWalkIn
import Derived.LoopIn
import Derived.LoopNIn
import Derived.RangeFuncNested
import Derived.TacticsInMore
namespace Go.Proofs.YtgjahejhpkbecaaGreatDoor
open Go.RowKit
variable {P : Program}

/-- all blocks but those of X are as they were -/
structure Keep (X : Nat → Prop) (w w' : World) : Prop where
  os : w'.os = w.os
  tape : w'.tape = w.tape
  output : w'.output = w.output
  size : w.heap.size ≤ w'.heap.size
  block : ∀ k, k < w.heap.size → ¬ X k → w'.heap[k]? = w.heap[k]?
theorem Keep.refl (X : Nat → Prop) (w : World) : Keep X w w := ⟨rfl, rfl, rfl, Nat.le_refl _, fun _ _ _ => rfl⟩
theorem Keep.trans {X : Nat → Prop} {a b c : World} (h : Keep X a b) (k : Keep X b c) : Keep X a c :=
  ⟨k.os.trans h.os, k.tape.trans h.tape, k.output.trans h.output, Nat.le_trans h.size k.size, fun i hi hr => (k.block i (Nat.lt_of_lt_of_le hi h.size) hr).trans (h.block i hi hr)⟩
theorem Keep.mono {X Y : Nat → Prop} {a b : World} (h : Keep X a b) (hxy : ∀ k, k < a.heap.size → X k → Y k) : Keep Y a b := ⟨h.os, h.tape, h.output, h.size, fun k hk hr => h.block k hk fun hx => hr (hxy k hk hx)⟩
theorem Keep.of_ext {X : Nat → Prop} {a b : World} (h : Ext a b) : Keep X a b := ⟨Below.os h, Below.tape h, Below.output h, h.size, fun _ hk _ => h.blk hk⟩
theorem Keep.ext {X : Nat → Prop} {a b : World} (h : Keep X a b) (hx : ∀ k, k < a.heap.size → ¬ X k) : Ext a b := ⟨h.os, h.tape, h.output, h.size, fun k hk => h.block k hk (hx k hk)⟩
theorem Keep.blk {X : Nat → Prop} {a b : World} (h : Keep X a b) {k : Nat} {o : Obj} (hk : a.heap[k]? = some o) (hr : ¬ X k) : b.heap[k]? = some o := by
  rw [h.block k (lt_of_block hk) hr]; exact hk
theorem Keep.below {X : Nat → Prop} {n : Nat} {a b : World} (h : Keep X a b) (hn : n ≤ a.heap.size) (hx : ∀ k, k < n → ¬ X k) : Below n a b := ⟨h.os, h.tape, h.output, h.size, fun k hk => h.block k (by omega) (hx k hk)⟩
/-- what lay in an earlier world, out of X, lies there still -/
theorem Keep.ext_of {X : Nat → Prop} {v a b : World} (h : Keep X a b) (hv : Ext v a) (hx : ∀ k, k < v.heap.size → ¬ X k) : Ext v b :=
  ⟨h.os.trans (Below.os hv), h.tape.trans (Below.tape hv), h.output.trans (Below.output hv), Nat.le_trans hv.size h.size, fun k hk => (h.block k (Nat.lt_of_lt_of_le hk hv.size) (hx k hk)).trans (Below.block hv k hk)⟩
theorem Keep.then {X Y : Nat → Prop} {a b c : World} (h : Keep X a b) (k : Keep Y b c) (hxy : ∀ k, k < a.heap.size → Y k → X k) : Keep X a c :=
  ⟨k.os.trans h.os, k.tape.trans h.tape, k.output.trans h.output, Nat.le_trans h.size k.size, fun i hi hx => (k.block i (Nat.lt_of_lt_of_le hi h.size) fun hy => hx (hxy i hi hy)).trans (h.block i hi hx)⟩
theorem Ext.keep {X Y : Nat → Prop} {a b c : World} (h : Ext a b) (k : Keep Y b c) (hxy : ∀ k, k < a.heap.size → Y k → X k) : Keep X a c :=
  ⟨k.os.trans (Below.os h), k.tape.trans (Below.tape h), k.output.trans (Below.output h), Nat.le_trans h.size k.size, fun i hi hx => (k.block i (Nat.lt_of_lt_of_le hi h.size) fun hy => hx (hxy i hi hy)).trans (h.blk hi)⟩
theorem Keep.alloc {X : Nat → Prop} {a b : World} (h : Keep X a b) (o : Obj) : Keep X a (b.alloc o) := h.trans (Keep.of_ext ((Ext.refl _).alloc o))
theorem Keep.drew {X : Nat → Prop} {a b : World} (h : Keep X a b) : Keep X a b.drew := h.trans (Keep.of_ext ((Ext.refl _).drew))
theorem Keep.setCell {X : Nat → Prop} {a b : World} (h : Keep X a b) {p : Addr} (hp : X p.block ∨ a.heap.size ≤ p.block) (u : Value) : Keep X a (b.setCell p u) :=
  ⟨h.os, h.tape, h.output, by simp only [World.setCell, Array.size_modify]; exact h.size, fun k hk hr => by
    have hne : k ≠ p.block := by
      rintro rfl
      rcases hp with hp | hp
      · exact hr hp
      · omega
    exact (Below.heap_setCell _ _ _ _ hne).trans (h.block k hk hr)⟩

/-- what holds, whatever becomes of the blocks of X -/
def Stab (X : Nat → Prop) (w : World) (F : World → Prop) : Prop := ∀ w', Keep X w w' → F w'
theorem Stab.now {X : Nat → Prop} {w : World} {F : World → Prop} (h : Stab X w F) : F w := h w (Keep.refl X w)
theorem Stab.later {X : Nat → Prop} {w w' : World} {F : World → Prop} (h : Stab X w F) (k : Keep X w w') : Stab X w' F := fun w'' k' => h w'' (k.trans k')
theorem run_loadVar_one {P : Program} {T : Nat} {d : TypeDesc} (hu : P.underlying T = some d) (hd : d.isRow = false) {w : World} {p : Addr} {v : Value} (h : w.cell? p = some v) : (loadVar T p).run P w = .ok v w := by
  have ha : (isAgg T).run P w = .ok false w := by
    unfold isAgg; rw [Sem.run_bind, run_underlying hu w]; cases d <;> simp_all
  simp [loadVar, Sem.run_bind, ha, run_load, h]
theorem results_cell {P : Program} {fn : Func} {tmps : Array Value} {s T : Nat} {d : TypeDesc} {p : Addr} {v : Value} {w : World} (h : fn.results = #[.cell s T]) (hu : P.underlying T = some d) (hd : d.isRow = false)
    (ht : tmps.getD s undef = .pointer (some p)) (hv : w.cell? p = some v) : (results fn tmps).run P w = .ok v w := by
  have := run_loadVar_one hu hd hv
  simp only [Array.getD_eq_getD_getElem?] at ht
  simp [results, h, ht, asAddr, Sem.run_bind, this]
theorem results_cell2 {P : Program} {fn : Func} {tmps : Array Value} {s1 T1 s2 T2 : Nat} {d1 d2 : TypeDesc} {p1 p2 : Addr} {v1 v2 : Value} {w : World} (h : fn.results = #[.cell s1 T1, .cell s2 T2])
    (hu1 : P.underlying T1 = some d1) (hd1 : d1.isRow = false) (hu2 : P.underlying T2 = some d2) (hd2 : d2.isRow = false)
    (ht1 : tmps.getD s1 undef = .pointer (some p1)) (hv1 : w.cell? p1 = some v1) (ht2 : tmps.getD s2 undef = .pointer (some p2)) (hv2 : w.cell? p2 = some v2) : (results fn tmps).run P w = .ok (.tuple #[v1, v2]) w := by
  have h1 := run_loadVar_one hu1 hd1 hv1
  have h2 := run_loadVar_one hu2 hd2 hv2
  simp only [Array.getD_eq_getD_getElem?] at ht1 ht2
  simp [results, h, ht1, ht2, asAddr, Sem.run_bind, h1, h2]
/-- the end of a function with one loop of this sort, by a return or at its end -/
theorem leaves_mark {P : Program} {fn : Func} {tmps : Array Value} {D : Nat} {v : Value} {w : World} {R : Ending → World → Prop} (hD : w.heap[D]? = some (.deferred (some [])))
    (hr : (results fn tmps).run P (w.putObj D (.deferred none)) = .ok v (w.putObj D (.deferred none))) (hR : R (.returned v) (w.putObj D (.deferred none))) :
    LeavesInM Fence.wide 0 P fn tmps R [{ target := .collected D, args := #[] }] .returning w :=
  ⟨by simp, .inl ⟨_, _, rfl, run_takeDeferred hD, v, hr, hR⟩⟩
theorem putObj_keep {Z : Nat → Prop} {w : World} {D : Nat} (o : Obj) (hD : Z D) : Keep Z w (w.putObj D o) := ⟨rfl, rfl, rfl, by simp, fun k _ hk => World.putObj_heap_other (fun e => hk (e ▸ hD))⟩

open Classical in
/-- two sets at once -/
theorem Stab.join {Y Z : Nat → Prop} {w : World} {F : World → Prop} (h : Stab Z w fun w' => Stab Y w' F) : Stab (fun k => Y k ∨ Z k) w F := by
  intro w'' k
  obtain ⟨w', hw'⟩ : ∃ w' : World, w' = { w'' with heap := Array.ofFn (n := w''.heap.size) fun i => if Z i.1 ∨ w.heap.size ≤ i.1 then w''.heap[i.1] else (w.heap[i.1]?).getD w''.heap[i.1] } := ⟨_, rfl⟩
  have hs : w'.heap.size = w''.heap.size := by rw [hw']; simp
  have hat : ∀ i (hi : i < w''.heap.size), w'.heap[i]? = some (if Z i ∨ w.heap.size ≤ i then w''.heap[i] else (w.heap[i]?).getD w''.heap[i]) := fun i hi => by rw [hw']; simp [hi]
  have ho : w'.os = w''.os ∧ w'.tape = w''.tape ∧ w'.output = w''.output := by rw [hw']; exact ⟨rfl, rfl, rfl⟩
  refine h w' ⟨ho.1.trans k.os, ho.2.1.trans k.tape, ho.2.2.trans k.output, by rw [hs]; exact k.size, fun i hi hz => ?_⟩ w'' ⟨ho.1.symm, ho.2.1.symm, ho.2.2.symm, Nat.le_of_eq hs, fun i hi hy => ?_⟩
  · have hi' := Nat.lt_of_lt_of_le hi k.size
    rw [hat i hi', if_neg (by rintro (e | e); exact hz e; omega)]
    simp [Array.getElem?_eq_getElem hi]
  · rw [hs] at hi
    rw [hat i hi]
    split
    · simp [Array.getElem?_eq_getElem hi]
    · rename_i hn
      have h1 : i < w.heap.size := by
        rcases Nat.lt_or_ge i w.heap.size with h | h
        · exact h
        · exact (hn (.inr h)).elim
      have := k.block i h1 (by rintro (e | e); exact hy e; exact hn (.inl e))
      rw [this]
      simp [Array.getElem?_eq_getElem h1]
theorem Stab.split {Y Z : Nat → Prop} {w : World} {F : World → Prop} (h : Stab (fun k => Y k ∨ Z k) w F) : Stab Z w fun w' => Stab Y w' F := fun w' k w'' k' =>
  h w'' ((k.mono fun _ _ h => .inr h).trans (k'.mono fun _ _ h => .inl h))
/-- a world in which I holds, as one thing -/
structure RgI (I : World → Prop) where
  w' : World
  h : I w'
/-- a region whose operations keep I: whatever order is drawn, one walk in the text's order serves -/
theorem wp_region_I {P : Program} {id : Nat} {Q : Exit → Act → World → Prop} {a : Act} {w : World} {l : List Oper} (I : World → Prop) (hI : I w.drew) (hm : P.follows .mixedOrders = true) (hB : Region.lexB .any l.toArray = true)
    (h : wpQuiet P l.toArray (fun w' => ∃ p : RgI I, w' = p.w') (fun a' => ∀ p : RgI I, Q .normal a' p.w') l a) : (Code.region id l.toArray true).wp P Q a w := by
  refine wp_region_quiet (C := fun w' => ∃ p : RgI I, w' = p.w') hm hB ⟨⟨w.drew, hI⟩, rfl⟩ ?_
  have e : (fun a' => ∀ p : RgI I, Q .normal a' p.w') = (fun a' => ∀ w', (∃ p : RgI I, w' = p.w') → Q .normal a' w') := by
    funext a'; apply propext
    exact ⟨fun h w' ⟨p, hp⟩ => hp ▸ h p, fun h p => h _ ⟨p, rfl⟩⟩
  rw [e] at h
  simpa using h
theorem Calls.rgI {P : Program} {f : FuncId} {args : Array Value} {I : World → Prop} {p : RgI I} {v : Value} (h : Calls P f args p.w' fun e w' => e = .returned v ∧ I w') :
    Calls P f args p.w' fun e w'' => e = .returned v ∧ ∃ q : RgI I, w'' = q.w' :=
  h.mono fun _ w' ⟨he, hb⟩ => ⟨he, ⟨w', hb⟩, rfl⟩

/-- all blocks but one are as they were; none is new -/
def ButOne (l : Nat) (w w' : World) : Prop := ∃ o o' : Obj, w.heap[l]? = some o ∧ o.isCells = false ∧ w' = w.putObj l o'
theorem ButOne.blk {l k : Nat} {w w' : World} (h : ButOne l w w') (hk : k ≠ l) : w'.heap[k]? = w.heap[k]? := by
  obtain ⟨o, o', _, _, rfl⟩ := h
  exact World.putObj_heap_other hk
theorem ButOne.size {l : Nat} {w w' : World} (h : ButOne l w w') : w'.heap.size = w.heap.size := by
  obtain ⟨o, o', _, _, rfl⟩ := h
  simp
theorem ButOne.cell {l : Nat} {w w' : World} (h : ButOne l w w') {p : Addr} {v : Value} (hp : w.cell? p = some v) : w'.cell? p = some v := by
  obtain ⟨o, o', ho, hc, rfl⟩ := h
  by_cases e : p.block = l
  · subst e
    exfalso
    simp only [World.cell?, ho] at hp
    cases o <;> simp_all [Obj.isCells]
  · rw [World.cell?_of_block (w := w) (World.putObj_heap_other e)]; exact hp
theorem ButOne.blk' {l k : Nat} {w w' : World} (h : ButOne l w w') {c : Array Value} {t : TypeId} {fr : Nat × Nat} (hk : w.heap[k]? = some (.cells c t fr)) : w'.heap[k]? = some (.cells c t fr) := by
  have hne : k ≠ l := by
    rintro rfl
    obtain ⟨o, o', ho, hc, _⟩ := h
    rw [hk] at ho; cases ho; cases hc
  rw [h.blk hne]; exact hk
theorem ButOne.keep {Z : Nat → Prop} {l : Nat} {w w' : World} (h : ButOne l w w') (hz : Z l) : Keep Z w w' := by
  obtain ⟨o, o', ho, hc, rfl⟩ := h
  exact ⟨rfl, rfl, rfl, by simp, fun k _ hk => World.putObj_heap_other (fun e => hk (e ▸ hz))⟩
theorem ButOne.below {l n : Nat} {w w' : World} (h : ButOne l w w') (hn : n ≤ l) : Below n w w' := by
  obtain ⟨o, o', ho, hc, rfl⟩ := h
  exact ⟨rfl, rfl, rfl, by simp, fun k hk => World.putObj_heap_other (by omega)⟩

/-- a round, as an iterator meets it -/
def YieldR (P : Program) (l : Nat) (args : Array Value) (W : World) (R : Ending → World → Prop) : Prop :=
  ∃ fn tmps assign body, (Instr.yield l args).run P W = .ok (.round l fn tmps assign body) W ∧ ∀ n, RoundIn Fence.wide n P l fn tmps assign body W R

/-- the function value gf (with what it captured) yields just xs, and stops if it is told to. Of what was there when it was made the rounds may change the blocks of X alone; Y: the blocks that are the iterator's own: it changes no others that were there, and the rounds change none of them. -/
def Seq (P : Program) (gf : Nat) (lb : Array Value) (X : Nat → Prop) (w : World) (xs : List (Array Value)) : Prop :=
  ∀ (l n1 : Nat) (J Jx : (Nat → Prop) → Nat → World → Prop) (W : World), Keep X w W → w.heap.size ≤ n1 → n1 ≤ W.heap.size →
    (∀ Y i A B, (∀ k, Y k → n1 ≤ k) → J Y i A → Keep Y A B → J Y i B) → (∀ Y i A B, (∀ k, Y k → n1 ≤ k) → Jx Y i A → Keep Y A B → Jx Y i B) →
    (∀ Y Y' i A, J Y i A → (∀ k, Y k → Y' k) → (∀ k, Y' k → Y k ∨ A.heap.size ≤ k) → J Y' i A) →
    (∀ Y i x A, xs[i]? = some x → (∀ k, Y k → n1 ≤ k ∧ k < A.heap.size) → n1 ≤ A.heap.size → J Y i A → YieldR P l x A fun e B =>
      (e = .returned (.bool true) ∧ J Y (i + 1) B ∧ Keep (fun k => (X k ∨ w.heap.size ≤ k) ∧ ¬ Y k) A B) ∨ (e = .returned (.bool false) ∧ Jx Y (i + 1) B ∧ n1 ≤ B.heap.size)) →
    J (fun _ => False) 0 W →
    Calls P gf (#[.func (.yield l) #[] #[]] ++ lb) W fun e B => (∃ v, e = .returned v) ∧ ∃ Y : Nat → Prop, (∀ k, Y k → n1 ≤ k) ∧ (J Y xs.length B ∨ ∃ i, i < xs.length ∧ Jx Y (i + 1) B)

/-- how the body of a round may be left; Z: the blocks of the iterator, and of the loop -/
def rngPost (X : Nat → Prop) (n : Nat) (Z : Nat → Prop) (I : Nat → World → Prop) (Ix : Code → Nat → World → Prop) (i : Nat) (W : World) : Exit → Act → World → Prop
  | .normal, _, W' => Keep (fun k => X k ∨ (n ≤ k ∧ ¬ Z k)) W W' ∧ Stab Z W' (I (i + 1))
  | .ret, _, W' => Keep (fun k => ¬ Z k) W W' ∧ Stab Z W' (Ix .ret (i + 1))
  | .exit id, _, W' => Keep (fun k => ¬ Z k) W W' ∧ Stab Z W' (Ix (.exit id) (i + 1))
  | _, _, _ => False

theorem RoundIn.any {n m : Nat} {l fn : Nat} {tmps : Array Value} {assign body : Code} {W : World} {R : Ending → World → Prop} (h : RoundIn Fence.wide n P l fn tmps assign body W R) : RoundIn Fence.wide m P l fn tmps assign body W R :=
  ⟨h.1, fun c cs _ => h.2 c cs (room_wide _)⟩

theorem wpIn_range {gf : Nat} {lb : Array Value} {X : Nat → Prop} {xs : List (Array Value)} {w0 : World} {g : Operand} {ps : Array Tmp} {assign body : Code} {Q : Exit → Act → World → Prop} {a : Act} {w : World}
    (hg : a.eval g = .func (.func gf) #[] lb) (eg : ∀ args w, (callFunc gf args).run P w = .ok (.enter gf args) w) (hseq : Seq P gf lb X w0 xs) (hw0 : Keep X w0 w) (hX : ∀ k, X k → k < w.heap.size)
    (hps : ∀ x ∈ xs, x.size = ps.size) (I : Nat → World → Prop) (Ix : Code → Nat → World → Prop) (h0 : Stab (w.heap.size ≤ ·) w (I 0))
    (hround : ∀ (Z : Nat → Prop) (l i : Nat) (x : Array Value) (W : World), xs[i]? = some x → Z l → (∀ k, Z k → w.heap.size ≤ k ∧ k < W.heap.size) → Stab Z W (I i) →
      ∃ M : Act → World → Prop, assign.wpIn (Fence.wide.inRound l) 0 P (Exit.then M (fun _ _ _ => False)) { tmps := (ps.zip x).foldl (fun t (p, v) => t.setIfInBounds p v) a.tmps, defers := [] } W ∧
        (∀ a1 w1, M a1 w1 → Keep (fun k => X k ∨ (w.heap.size ≤ k ∧ ¬ Z k)) W w1) ∧
        ∀ a1 w1 w2, M a1 w1 → ButOne l w1 w2 → body.wpIn (Fence.wide.inRound l) 0 P (rngPost X w.heap.size Z I Ix i w2) a1 w2)
    (hdone : ∀ (D : Nat) (W : World), w.heap.size ≤ D → Stab (· = D) W (I xs.length) → W.heap[D]? = some (.deferred (some [])) → Q .normal { a with defers := { target := .collected D, args := #[] } :: a.defers } W)
    (hstop : ∀ (D : Nat) (c : Code) (i : Nat) (W : World), w.heap.size ≤ D → i < xs.length → Stab (· = D) W (Ix c (i + 1)) → W.heap[D]? = some (.deferred (some [])) → c.wpIn Fence.wide 0 P Q { a with defers := { target := .collected D, args := #[] } :: a.defers } W) :
    (Code.rangeFunc g ps assign body).wpIn Fence.wide 0 P Q a w := by
  refine wpIn_rangeFunc ?_
  intro fn hfn
  obtain ⟨rec, hrec⟩ : ∃ rec : LoopState → Option Code → Loop, rec = fun st pe => { state := st, pending := pe, fn, tmps := a.tmps, params := ps, assign, body, defers := w.heap.size } := ⟨_, rfl⟩
  obtain ⟨W1, hW1⟩ : ∃ W1, (w.alloc (.deferred (some []))).alloc (.loop (rec .ready none)) = W1 := ⟨_, rfl⟩
  have hL1 : W1.heap[w.heap.size + 1]? = some (.loop (rec .ready none)) := by
    rw [← hW1]; have := World.alloc_heap_new (w.alloc (.deferred (some []))) (.loop (rec .ready none)); rwa [World.size_alloc] at this
  have hK1 : W1.heap[w.heap.size]? = some (.deferred (some [])) := by
    rw [← hW1]; exact (Below.heap_alloc _ _ _ (by simp)).trans (World.alloc_heap_new w _)
  have hE1 : Ext w W1 := by rw [← hW1]; exact ((Ext.refl w).alloc _).alloc _
  have hs1 : W1.heap.size = w.heap.size + 2 := by rw [← hW1]; simp
  have hs0 := hw0.size
  have hb1 : Keep X w0 W1 := hw0.trans (Keep.of_ext hE1)
  have put : ∀ {Z : Nat → Prop} {A : World} (o : Obj), Z (w.heap.size + 1) → Keep Z A (A.putObj (w.heap.size + 1) o) := fun {Z A} o hz => ⟨rfl, rfl, rfl, by simp, fun k _ hk => World.putObj_heap_other (fun e => hk (e ▸ hz))⟩
  refine ⟨w.heap.size + 1, [{ target := .collected w.heap.size, args := #[] }], W1, { target := .fn (.func gf) lb, args := #[.func (.yield (w.heap.size + 1)) #[] #[]] }, W1, gf,
    #[.func (.yield (w.heap.size + 1)) #[] #[]] ++ lb, W1, ?_, ?_, ?_, ?_, ?_, ?_⟩
  · rw [← hW1, hrec]; exact run_enterLoop_outer _ _ _ _ _
  · simp only [resolve, hg]
    simp [go_sem]
  · intro f' _; exact trivial
  · simp [invoke, go_sem, eg]
  · intro h; cases h
  · refine (callsIn_wide.2 (hseq (w.heap.size + 1) (w.heap.size + 2)
      (fun Y i W => Stab (fun k => Y k ∨ k = w.heap.size + 1 ∨ k = w.heap.size) W (I i) ∧ W.heap[w.heap.size + 1]? = some (.loop (rec .ready none)) ∧ W.heap[w.heap.size]? = some (.deferred (some [])))
      (fun Y i W => ∃ c, Stab (fun k => Y k ∨ k = w.heap.size + 1 ∨ k = w.heap.size) W (Ix c i) ∧ W.heap[w.heap.size + 1]? = some (.loop (rec .done (some c))) ∧ W.heap[w.heap.size]? = some (.deferred (some [])))
      W1 hb1 (by omega) (by omega)
      (fun Y i A B hY h hb => ⟨h.1.later (hb.mono fun k _ hk => .inl hk), hb.blk h.2.1 (fun e => by have := hY _ e; omega), hb.blk h.2.2 (fun e => by have := hY _ e; omega)⟩)
      (fun Y i A B hY h hb => by
        obtain ⟨c, hc, hl, hk⟩ := h
        exact ⟨c, hc.later (hb.mono fun k _ hk => .inl hk), hb.blk hl (fun e => by have := hY _ e; omega), hb.blk hk (fun e => by have := hY _ e; omega)⟩)
      (fun Y Y' i A h hYY hnew => ⟨fun w' hk => h.1 w' (hk.mono fun k hk' hx => hx.imp (fun hy => (hnew k hy).resolve_right (by omega)) id), h.2⟩)
      ?_ ⟨fun w' hk => h0 w' ((Keep.of_ext hE1).trans (hk.mono fun k _ hx => by rcases hx with hx | hx | hx; exact hx.elim; omega; omega)), hL1, hK1⟩)).mono ?_
    · rintro Y i x A hx hY hA ⟨hi, hl, hk⟩
      have hlt : w.heap.size + 1 < A.heap.size := lt_of_block hl
      have hYl : ¬ Y (w.heap.size + 1) := fun e => by have := (hY _ e).1; omega
      have hYD : ¬ Y w.heap.size := fun e => by have := (hY _ e).1; omega
      obtain ⟨Z, hZ⟩ : ∃ Z : Nat → Prop, Z = fun k => Y k ∨ k = w.heap.size + 1 ∨ k = w.heap.size := ⟨_, rfl⟩
      have hZl : Z (w.heap.size + 1) := by rw [hZ]; exact .inr (.inl rfl)
      have hZD : Z w.heap.size := by rw [hZ]; exact .inr (.inr rfl)
      have hZY : ∀ k, Y k → Z k := by rw [hZ]; exact fun k hk => .inl hk
      have hZn : ∀ k, Z k → w.heap.size ≤ k ∧ k < A.heap.size := by
        rw [hZ]; rintro k (hk | rfl | rfl)
        · have := hY k hk; omega
        · omega
        · omega
      have hy := run_yield (P := P) (args := x) hl (by rw [hrec]; exact hps x (List.mem_of_getElem? hx))
      rw [hrec] at hy
      rw [← hZ] at hi
      obtain ⟨M, hassign, hM, hbody⟩ := hround Z (w.heap.size + 1) i x A hx hZl hZn hi
      refine ⟨fn, _, assign, body, hy, fun n => RoundIn.any (n := 0) ?_⟩
      refine roundIn_of_wpIn trivial (wpIn_mono hassign ?_)
      have hXl : ∀ k, X k → ¬ Z k := fun k hx hz => by have := hX k hx; have := (hZn k hz).1; omega
      have xle : ∀ {A B : World}, Keep (fun k => X k ∨ (w.heap.size ≤ k ∧ ¬ Z k)) A B → Keep (fun k => (X k ∨ w0.heap.size ≤ k) ∧ ¬ Y k) A B := fun h => h.mono fun k _ hx => by
        rcases hx with hx | ⟨h1, h2⟩
        · exact ⟨.inl hx, fun hy => hXl k hx (hZY k hy)⟩
        · exact ⟨.inr (by omega), fun hy => h2 (hZY k hy)⟩
      have xZ : ∀ {A B : World}, Keep (fun k => X k ∨ (w.heap.size ≤ k ∧ ¬ Z k)) A B → Keep (fun k => ¬ Z k) A B := fun h => h.mono fun k _ hx => by
        rcases hx with hx | ⟨h1, h2⟩
        · exact hXl k hx
        · exact h2
      have xput : ∀ {A : World} (o : Obj), Keep (fun k => (X k ∨ w0.heap.size ≤ k) ∧ ¬ Y k) A (A.putObj (w.heap.size + 1) o) := fun {A} o => put o ⟨.inr (by omega), hYl⟩
      rintro e a1 w1 hm
      cases e with
      | normal =>
        have hm : M a1 w1 := hm
        have hmid := hM a1 w1 hm
        have hl1 := (xZ hmid).blk hl (not_not_intro hZl)
        have hk1 := (xZ hmid).blk hk (not_not_intro hZD)
        refine ⟨_, run_beginRound hl1 (by rw [hrec]), ?_⟩
        refine wpIn_mono (hbody a1 w1 _ hm ⟨_, _, hl1, rfl, rfl⟩) ?_
        have hl2 : (w1.putObj (w.heap.size + 1) (.loop { rec .ready none with state := .busy })).heap[w.heap.size + 1]? = some (.loop { rec .ready none with state := .busy }) := World.putObj_heap_same (lt_of_block hl1)
        have hk2 : (w1.putObj (w.heap.size + 1) (.loop { rec .ready none with state := .busy })).heap[w.heap.size]? = some (.deferred (some [])) := (World.putObj_heap_other (by omega)).trans hk1
        have fin : ∀ (jump : Option Code) (W3 : World), Keep (fun k => ¬ Z k) (w1.putObj (w.heap.size + 1) (.loop { rec .ready none with state := .busy })) W3 →
            (Instr.endRound (w.heap.size + 1) jump).run P W3 = .ok (.bool jump.isNone) (W3.putObj (w.heap.size + 1) (.loop (rec (if jump.isNone then .ready else .done) jump))) ∧
            (W3.putObj (w.heap.size + 1) (.loop (rec (if jump.isNone then .ready else .done) jump))).heap[w.heap.size + 1]? = some (.loop (rec (if jump.isNone then .ready else .done) jump)) ∧
            (W3.putObj (w.heap.size + 1) (.loop (rec (if jump.isNone then .ready else .done) jump))).heap[w.heap.size]? = some (.deferred (some [])) := fun jump W3 h3 => by
          have hl3 := h3.blk hl2 (not_not_intro hZl)
          have := run_endRound (P := P) jump hl3
          rw [hrec] at this ⊢
          exact ⟨this, World.putObj_heap_same (lt_of_block hl3), (World.putObj_heap_other (by omega)).trans (h3.blk hk2 (not_not_intro hZD))⟩
        rintro e a3 W3 hp
        cases e with
        | normal =>
          obtain ⟨h3, hi3⟩ := hp
          obtain ⟨hr, hl4, hk4⟩ := fin none W3 (xZ h3)
          exact ⟨_, _, hr, .inl ⟨rfl, ⟨by rw [← hZ]; exact hi3.later (put _ hZl), hl4, hk4⟩, (((xle hmid).trans (xput _)).trans (xle h3)).trans (xput _)⟩⟩
        | ret =>
          obtain ⟨h3, hi3⟩ := hp
          obtain ⟨hr, hl4, hk4⟩ := fin (some .ret) W3 h3
          exact ⟨_, _, hr, .inr ⟨rfl, ⟨.ret, by rw [← hZ]; exact hi3.later (put _ hZl), hl4, hk4⟩, by have := lt_of_block hl4; omega⟩⟩
        | exit id =>
          obtain ⟨h3, hi3⟩ := hp
          obtain ⟨hr, hl4, hk4⟩ := fin (some (.exit id)) W3 h3
          exact ⟨_, _, hr, .inr ⟨rfl, ⟨.exit id, by rw [← hZ]; exact hi3.later (put _ hZl), hl4, hk4⟩, by have := lt_of_block hl4; omega⟩⟩
        | goto t => exact hp.elim
        | panic ch => exact hp.elim
        | outgrown => exact hp.elim
      | exit id => exact hm.elim
      | goto t => exact hm.elim
      | ret => exact hm.elim
      | panic ch => exact hm.elim
      | outgrown => exact hm.elim
    · have hlast : ∀ {Y : Nat → Prop} {A : World} {o : Obj} {F : World → Prop}, Stab (fun k => Y k ∨ k = w.heap.size + 1 ∨ k = w.heap.size) A F → Stab (· = w.heap.size) (A.putObj (w.heap.size + 1) o) F := fun {Y A o F} h w' hk =>
        h w' ((put (Z := fun k => Y k ∨ k = w.heap.size + 1 ∨ k = w.heap.size) o (.inr (.inl rfl))).trans (hk.mono fun k _ hx => .inr (.inr hx)))
      rintro e W2 ⟨⟨v, rfl⟩, Y, hY, (⟨hi, hl, hk⟩ | ⟨i, hlt, c, hi, hl, hk⟩)⟩
      · exact ⟨none, _, by have := run_endLoop (P := P) hl (by rw [hrec]; simp); rw [hrec] at this; exact this, hdone _ _ (Nat.le_refl _) (hlast hi) ((World.putObj_heap_other (by omega)).trans hk)⟩
      · exact ⟨some c, _, by have := run_endLoop (P := P) hl (by rw [hrec]; simp); rw [hrec] at this; exact this, hstop _ c i _ (Nat.le_refl _) hlt (hlast hi) ((World.putObj_heap_other (by omega)).trans hk)⟩

/-- the same, where the round's variables are not kept -/
theorem wpIn_range_skip {gf : Nat} {lb : Array Value} {X : Nat → Prop} {xs : List (Array Value)} {w0 : World} {g : Operand} {ps : Array Tmp} {body : Code} {Q : Exit → Act → World → Prop} {a : Act} {w : World}
    (hg : a.eval g = .func (.func gf) #[] lb) (eg : ∀ args w, (callFunc gf args).run P w = .ok (.enter gf args) w) (hseq : Seq P gf lb X w0 xs) (hw0 : Keep X w0 w) (hX : ∀ k, X k → k < w.heap.size)
    (hps : ∀ x ∈ xs, x.size = ps.size) (I : Nat → World → Prop) (Ix : Code → Nat → World → Prop) (h0 : Stab (w.heap.size ≤ ·) w (I 0))
    (hround : ∀ (Z : Nat → Prop) (l i : Nat) (x : Array Value) (W : World), xs[i]? = some x → Z l → (∀ k, Z k → w.heap.size ≤ k ∧ k < W.heap.size) → Stab Z W (I i) → ∀ w2, ButOne l W w2 →
      body.wpIn (Fence.wide.inRound l) 0 P (rngPost X w.heap.size Z I Ix i w2) { tmps := (ps.zip x).foldl (fun t (p, v) => t.setIfInBounds p v) a.tmps, defers := [] } w2)
    (hdone : ∀ (D : Nat) (W : World), w.heap.size ≤ D → Stab (· = D) W (I xs.length) → W.heap[D]? = some (.deferred (some [])) → Q .normal { a with defers := { target := .collected D, args := #[] } :: a.defers } W)
    (hstop : ∀ (D : Nat) (c : Code) (i : Nat) (W : World), w.heap.size ≤ D → i < xs.length → Stab (· = D) W (Ix c (i + 1)) → W.heap[D]? = some (.deferred (some [])) → c.wpIn Fence.wide 0 P Q { a with defers := { target := .collected D, args := #[] } :: a.defers } W) :
    (Code.rangeFunc g ps .skip body).wpIn Fence.wide 0 P Q a w :=
  wpIn_range hg eg hseq hw0 hX hps I Ix h0 (fun Z l i x W h1 h2 h3 h4 => ⟨fun a1 w1 => a1 = { tmps := (ps.zip x).foldl (fun t (p, v) => t.setIfInBounds p v) a.tmps, defers := [] } ∧ w1 = W, wpIn_skip ⟨rfl, rfl⟩,
    fun _ _ ⟨_, h⟩ => h ▸ Keep.refl _ _, fun _ _ w2 ⟨ha, hw⟩ hb => by subst ha; subst hw; exact hround Z l i x _ h1 h2 h3 h4 w2 hb⟩) hdone hstop
theorem results_cell_tmp {P : Program} {fn : Func} {tmps : Array Value} {s1 T1 s2 : Nat} {d1 : TypeDesc} {p1 : Addr} {v1 : Value} {w : World} (h : fn.results = #[.cell s1 T1, .tmp s2])
    (hu1 : P.underlying T1 = some d1) (hd1 : d1.isRow = false) (ht1 : tmps.getD s1 undef = .pointer (some p1)) (hv1 : w.cell? p1 = some v1) : (results fn tmps).run P w = .ok (.tuple #[v1, tmps.getD s2 undef]) w := by
  have h1 := run_loadVar_one hu1 hd1 hv1
  simp only [Array.getD_eq_getD_getElem?] at ht1
  simp [results, h, ht1, asAddr, Sem.run_bind, h1]

end Go.Proofs.YtgjahejhpkbecaaGreatDoor
