/- Small lemmas that every walk here uses: worlds that only grow, elements of slices in memory, the first index with a property. -/
import Derived.WalkKit
import Derived.Handy
import Derived.Deep.MidRow
import Derived.BigQuiet
namespace Go.Proofs.YtgjahejhpkbecaaGreatDoor
open Go.RowKit

theorem hid {p : Prop} (h : p) : RowKit.Hid p := h

/-- w' is a later world than w: new blocks, all old ones as they were. -/
def Ext (w w' : World) : Prop := Below w.heap.size w w'
theorem Ext.refl (w : World) : Ext w w := Below.refl _ _
theorem Ext.trans {a b c : World} (h : Ext a b) (k : Ext b c) : Ext a c := Below.trans h (Below.mono k h.size)
theorem Ext.alloc {a w : World} (h : Ext a w) (o : Obj) : Ext a (w.alloc o) := Below.alloc h h.size o
theorem Ext.drew {a w : World} (h : Ext a w) : Ext a w.drew := Below.drew h
theorem Ext.of_below {w w' : World} (h : Below w.heap.size w w') : Ext w w' := h
theorem Ext.size {w w' : World} (h : Ext w w') : w.heap.size ≤ w'.heap.size := Below.size h
theorem Ext.blk {w w' : World} (h : Ext w w') {b : Nat} (hb : b < w.heap.size) : w'.heap[b]? = w.heap[b]? := Below.block h b hb
theorem Ext.blk' {w w' : World} (h : Ext w w') {b : Nat} {o : Obj} (hb : w.heap[b]? = some o) : w'.heap[b]? = some o := by
  rw [h.blk (lt_of_block hb)]; exact hb
theorem Ext.cell {w w' : World} (h : Ext w w') {p : Addr} (hp : p.block < w.heap.size) : w'.cell? p = w.cell? p := Below.cell h hp
theorem Ext.cell' {w w' : World} (h : Ext w w') {p : Addr} {v : Value} (hp : w.cell? p = some v) : w'.cell? p = some v := by
  have : p.block < w.heap.size := by
    rcases Nat.lt_or_ge p.block w.heap.size with h' | h'
    · exact h'
    · simp [World.cell?, Array.getElem?_eq_none h'] at hp
  rw [h.cell this]; exact hp
theorem Ext.cells {w w' : World} (h : Ext w w') : ∀ b o, b < w.heap.size → w'.cell? ⟨b, o, none⟩ = w.cell? ⟨b, o, none⟩ := fun b o hb => h.cell (p := ⟨b, o, none⟩) hb
theorem Ext.frozens {w w' : World} (h : Ext w w') : ∀ b o, b < w.heap.size → w'.frozen? ⟨b, o, none⟩ = w.frozen? ⟨b, o, none⟩ := fun b o hb => Below.frozen (p := ⟨b, o, none⟩) h hb
/-- the cells of a block that is known -/
theorem cellsOf {w : World} {b : Nat} {cs : Array Value} {t : TypeId} {fr : Nat × Nat} (h : w.heap[b]? = some (.cells cs t fr)) : ∀ o, w.cell? ⟨b, o, none⟩ = cs[o]? := fun o => by simp [World.cell?, h]
theorem Ext.range {w w' : World} (h : Ext w w') {b o : Nat} {cs : List Value} (hr : w.rangeAt b o cs) : w'.rangeAt b o cs := fun j v hj => h.cell' (hr j v hj)
theorem Ext.setCell {a w : World} (h : Ext a w) {p : Addr} (hp : a.heap.size ≤ p.block) (u : Value) : Ext a (w.setCell p u) := Below.setCell h hp u

/-- a later world, as one thing -/
structure Rg (w : World) where
  w' : World
  h : Ext w w'
instance (w : World) : Inhabited (Rg w) := ⟨⟨w, Ext.refl w⟩⟩
theorem Rg.cells {w : World} : ∀ (p : Rg w) (b o : Nat), b < w.heap.size → p.w'.cell? ⟨b, o, none⟩ = w.cell? ⟨b, o, none⟩ := fun p => p.h.cells
/-- a region whose operations only read and make new memory: whatever order is drawn, one walk in the text's order serves -/
theorem wp_region_rg {P : Program} {id : Nat} {Q : Exit → Act → World → Prop} {a : Act} {w : World} {l : List Oper} (hm : P.follows .mixedOrders = true) (hB : Region.lexB .any l.toArray = true)
    (h : wpQuiet P l.toArray (fun w' => ∃ p : Rg w, w' = p.w') (fun a' => ∀ p : Rg w, Q .normal a' p.w') l a) : (Code.region id l.toArray true).wp P Q a w := by
  refine wp_region_quiet (C := fun w' => ∃ p : Rg w, w' = p.w') hm hB ⟨⟨w.drew, (Ext.refl w).drew⟩, rfl⟩ ?_
  have e : (fun a' => ∀ p : Rg w, Q .normal a' p.w') = (fun a' => ∀ w', (∃ p : Rg w, w' = p.w') → Q .normal a' w') := by
    funext a'; apply propext
    exact ⟨fun h w' ⟨p, hp⟩ => hp ▸ h p, fun h p => h _ ⟨p, rfl⟩⟩
  rw [e] at h
  simpa using h
/-- a contract, as such a region takes it -/
theorem Calls.rg {P : Program} {f : FuncId} {args : Array Value} {w : World} {p : Rg w} {v : Value} (h : Calls P f args p.w' fun e w' => e = .returned v ∧ Ext p.w' w') :
    Calls P f args p.w' fun e w'' => e = .returned v ∧ ∃ q : Rg w, w'' = q.w' :=
  h.mono fun _ w' ⟨he, hb⟩ => ⟨he, ⟨w', p.h.trans hb⟩, rfl⟩

/-- a load whose outcome is known -/
theorem wpList_load_val {P : Program} {ops : Array Oper} {rest : List Oper} {o : Oper} {a : Act} {w : World} {Q : Exit → Act → World → Prop} (hgd : o.guard = none) (ty : TypeId) (x : Operand) (ho : o.op = .load ty x)
    (p : Value) (hx : a.eval x = p) (v : Value) (hrun : (Instr.loadAt ty p).run P w = .ok v w)
    (h : wpList P ops Q rest (a.put o.dst v) w) : wpList P ops Q (o :: rest) a w :=
  wpList_plain hgd fun _ hK => by
    unfold Oper.wp execOp; rw [ho]; subst hx
    simp only [Sem.run_bind, hrun]; exact hK _ _ h

theorem run_loadAt_one {P : Program} {T : Nat} {d : TypeDesc} (hu : P.underlying T = some d) (hd : d.isRow = false) {w : World} {p : Addr} {v : Value} (h : w.cell? p = some v) :
    (Instr.loadAt T (.pointer (some p))).run P w = .ok v w := by
  have ha : (isAgg T).run P w = .ok false w := by
    unfold isAgg; rw [Sem.run_bind, run_underlying hu w]; cases d <;> simp_all
  simp [Instr.loadAt, Instr.sureAddr, loadVar, Sem.run_bind, ha, run_load, h]

/-- a value of type T is what a load gives, wherever its cells lie -/
def Loads (P : Program) (T : Nat) (x : Value) : Prop := ∀ (w : World) (b o : Nat), w.rangeAt b o x.cells.toList → (Instr.loadAt T (.pointer (some ⟨b, o, none⟩))).run P w = .ok x w
theorem Loads.agg {P : Program} {T : Nat} {d : TypeDesc} (hu : P.underlying T = some d) (hd : d.isRow = true) {cs : Array Value} (hi : (P.info? T).map (·.size) = some cs.size) : Loads P T (.agg cs) := fun w b o h => by
  have := run_loadAt_mid (P := P) w b o T cs.toList d h hu hd (by simpa using hi)
  simpa using this
theorem Loads.one {P : Program} {T : Nat} {d : TypeDesc} (hu : P.underlying T = some d) (hd : d.isRow = false) {x : Value} (hx : x.cells = #[x]) : Loads P T x := fun w b o h => by
  refine run_loadAt_one hu hd ?_
  have := h 0 x (by rw [hx]; rfl)
  simpa using this

/-- the elements of a slice at address a, of type T with so many cells each -/
def Elems (P : Program) (T size : Nat) (w : World) (a : Option Addr) (xs : List Value) : Prop :=
  ∀ i x, xs[i]? = some x → ∃ b off, a = some ⟨b, off, none⟩ ∧ w.rangeAt b (off + i * size) x.cells.toList ∧ Loads P T x
theorem Elems.later {P : Program} {T size : Nat} {w w' : World} {a : Option Addr} {xs : List Value} (h : Elems P T size w a xs) (he : Ext w w') : Elems P T size w' a xs := fun i x hx =>
  let ⟨b, off, ha, hl, hL⟩ := h i x hx
  ⟨b, off, ha, he.range hl, hL⟩
theorem Elems.nil (P : Program) (T size : Nat) (w : World) (a : Option Addr) : Elems P T size w a [] := fun i x hx => by simp at hx
theorem Elems.load {P : Program} {T size : Nat} {w : World} {a : Option Addr} {xs : List Value} (h : Elems P T size w a xs) {i : Nat} {x : Value} (hx : xs[i]? = some x) :
    ∃ b off, a = some ⟨b, off, none⟩ ∧ ∀ w', Ext w w' → (Instr.loadAt T (.pointer (some ⟨b, off + i * size, none⟩))).run P w' = .ok x w' :=
  let ⟨b, off, ha, hr, hL⟩ := h i x hx
  ⟨b, off, ha, fun w' hw => hL w' b _ (hw.range hr)⟩
theorem Elems.cell {P : Program} {T size : Nat} {w : World} {b off : Nat} {xs : List Value} (h : Elems P T size w (some ⟨b, off, none⟩) xs) {i : Nat} {cs : Array Value} (hx : xs[i]? = some (.agg cs)) (j : Nat) (v : Value) (hv : cs[j]? = some v) :
    w.cell? ⟨b, off + i * size + j, none⟩ = some v := by
  obtain ⟨b', off', ha, hr, _⟩ := h i _ hx
  cases ha
  exact hr j v (by simpa [Value.cells] using hv)
theorem Elems.addr {P : Program} {T size : Nat} {w : World} {a : Option Addr} {xs : List Value} (h : Elems P T size w a xs) {i : Nat} (hi : i < xs.length) : ∃ b off, a = some ⟨b, off, none⟩ :=
  let ⟨b, off, ha, _⟩ := h i _ (List.getElem?_eq_getElem hi)
  ⟨b, off, ha⟩

/-- the first number below n with a property; -1 if there is none -/
def firstN (g : Nat → Bool) (n : Nat) : Int := match (List.range n).find? g with | some i => (i : Int) | none => -1
def anyN (g : Nat → Bool) (n : Nat) : Bool := (List.range n).any g
theorem all_succ {g : Nat → Bool} {k : Nat} (h : ∀ j, j < k → g j = false) (hk : g k = false) : ∀ j, j < k + 1 → g j = false := fun j hj => by
  rcases Nat.lt_or_ge j k with h' | h'
  · exact h j h'
  · obtain rfl : j = k := by omega
    exact hk
theorem firstN_hit {g : Nat → Bool} {n k : Nat} (hk : k < n) (hg : g k = true) (hno : ∀ j, j < k → g j = false) : firstN g n = k := by
  unfold firstN
  have : (List.range n).find? g = some k := by
    rw [List.find?_range_eq_some]
    exact ⟨hg, by simpa using hk, fun j hj => by simp [hno j hj]⟩
  rw [this]
theorem firstN_miss {g : Nat → Bool} {n : Nat} (hno : ∀ j, j < n → g j = false) : firstN g n = -1 := by
  unfold firstN
  have : (List.range n).find? g = none := by
    rw [List.find?_eq_none]; intro j hj; simp [hno j (by simpa using hj)]
  rw [this]
theorem firstN_any (g : Nat → Bool) (n : Nat) : decide (0 ≤ firstN g n) = anyN g n := by
  unfold firstN anyN
  cases h : (List.range n).find? g with
  | none =>
    rw [List.find?_eq_none] at h
    have : (List.range n).any g = false := by rw [List.any_eq_false]; exact fun j hj => h j hj
    rw [this]; decide
  | some i =>
    have : (List.range n).any g = true := by rw [List.any_eq_true]; exact ⟨i, List.mem_of_find?_eq_some h, List.find?_some h⟩
    rw [this]; simp
theorem anyN_false {g : Nat → Bool} {n : Nat} : anyN g n = false ↔ ∀ j, j < n → g j = false := by
  unfold anyN; rw [List.any_eq_false]; simp
theorem anyN_true {g : Nat → Bool} {n : Nat} : anyN g n = true ↔ ∃ j, j < n ∧ g j = true := by
  unfold anyN; rw [List.any_eq_true]; simp
theorem anyN_list {α : Type} (xs : List α) (p : α → Bool) (g : Nat → Bool) (h : ∀ i x, xs[i]? = some x → g i = p x) : anyN g xs.length = xs.any p := by
  cases hx : xs.any p with
  | false =>
    rw [anyN_false]; intro j hj
    rw [h j _ (List.getElem?_eq_getElem hj)]
    rw [List.any_eq_false] at hx
    simpa using hx _ (List.getElem_mem hj)
  | true =>
    rw [anyN_true]
    obtain ⟨x, hm, hp⟩ := List.any_eq_true.1 hx
    obtain ⟨i, hi, rfl⟩ := List.getElem_of_mem hm
    exact ⟨i, hi, by rw [h i _ (List.getElem?_eq_getElem hi)]; exact hp⟩

/-- what is said of a function value that looks at the elements of a list: at element i it returns g i, and changes nothing -/
def Looks (P : Program) (f : Nat) (cap : Array Value) (w : World) (xs : List Value) (g : Nat → Bool) : Prop :=
  ∀ i x, xs[i]? = some x → (∀ j, j < i → g j = false) → ∀ w', Ext w w' → Calls P f (#[x] ++ cap) w' fun e w'' => e = .returned (.bool (g i)) ∧ Ext w' w''

/-- a call of a function with a body enters it -/
theorem enters {P : Program} {f : FuncId} {fn : Func} {c : Code} (hf : P.funcs[f]? = some fn) (hname : (fn.name == "runtime.NumGoroutine") = false) (hb : fn.body = some c) : ∀ (args : Array Value) (w : World), (callFunc f args).run P w = .ok (.enter f args) w := by
  intro args w
  have h1 : fn.name ≠ "runtime.NumGoroutine" := by simpa using hname
  simp [callFunc, hf, h1, hb, mark]

/-- the same where the calls keep a condition I on the world -/
def LooksI (P : Program) (f : Nat) (cap : Array Value) (I : World → Prop) (xs : List Value) (g : Nat → Bool) : Prop :=
  ∀ i x, xs[i]? = some x → (∀ j, j < i → g j = false) → ∀ w', I w' → Calls P f (#[x] ++ cap) w' fun e w'' => e = .returned (.bool (g i)) ∧ I w''
/-- the elements of a slice can be loaded wherever I holds -/
def LoadsI (P : Program) (T size : Nat) (I : World → Prop) (a : Option Addr) (xs : List Value) : Prop :=
  ∀ i x, xs[i]? = some x → ∃ b off, a = some ⟨b, off, none⟩ ∧ ∀ w', I w' → (Instr.loadAt T (.pointer (some ⟨b, off + i * size, none⟩))).run P w' = .ok x w'
theorem Elems.loadsI {P : Program} {T size : Nat} {w : World} {a : Option Addr} {xs : List Value} (h : Elems P T size w a xs) {I : World → Prop} (hI : ∀ w', I w' → Ext w w') : LoadsI P T size I a xs := fun _ _ hx =>
  let ⟨b, off, ha, hl⟩ := h.load hx
  ⟨b, off, ha, fun w' hw => hl w' (hI w' hw)⟩
theorem Looks.looksI {P : Program} {f : Nat} {cap : Array Value} {w : World} {xs : List Value} {g : Nat → Bool} (h : Looks P f cap w xs g) : LooksI P f cap (Ext w) xs g := fun i x hx hno w' hw =>
  (h i x hx hno w' hw).mono fun _ _ ⟨he, hb⟩ => ⟨he, hw.trans hb⟩

theorem ret_int {k : IntKind} {a b : Int} (h : a = b) : Ending.returned (.int k a) = .returned (.int k b) := by rw [h]
theorem ret_bool {a b : Bool} (h : a = b) : Ending.returned (.bool a) = .returned (.bool b) := by rw [h]

end Go.Proofs.YtgjahejhpkbecaaGreatDoor
