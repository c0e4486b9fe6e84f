/- Maps with integer keys that a function builds and asks: what an insertion and a look-up do. -/
import Derived.Test.YtgjahejhpkbecaaGreatDoorBase
import Derived.RangeFuncRecord
import Derived.MapKept
import Derived.Laws.EntriesVeiled
import Derived.WalkLawsBesides
import Derived.WalkSpells
namespace Go.Proofs.YtgjahejhpkbecaaGreatDoor
open Go.RowKit Go.MapKept
variable {P : Program}

theorem alloc_set (w : World) (o o' : Obj) : { w.alloc o with heap := (w.alloc o).heap.setIfInBounds w.heap.size o' } = w.alloc o' := by
  simp only [World.alloc]
  congr 1
  apply Array.ext_getElem?
  intro k
  rw [Array.getElem?_setIfInBounds]
  simp only [Array.getElem?_push, Array.size_push]
  by_cases h : w.heap.size = k
  · subst h; simp
  · have h' : ¬ k = w.heap.size := fun e => h e.symm
    simp [h, h']

/-- an insertion of a new key into the map that was made last -/
theorem run_insert_new {T K E : TypeId} {k : IntKind} (hT : P.underlying T = some (.map K E)) (hK : P.underlying K = some (.int k)) (W : World) (es : Array MapEntry) (c r : Nat) (n : Int) (v : Value)
    (hr : r = W.heap.size) (hno : Instr.findNow (.int k) (.int k n) es.toList 0 = some none) :
    (Instr.mapUpdate T (.map (some r)) (.int k n) v).run P (W.alloc (.map es c)) = .ok () (W.alloc (.map (es.push ⟨.int k n, v, c⟩) (c + 1))) := by
  subst hr
  have hb := heap_alloc_new W (.map es c)
  simp only [Instr.mapUpdate, Sem.run_bind, run_underlying hT, Result.andThen_ok, Go.MapKept.run_getObj_map hb, Go.MapKept.run_checkKey hK (k := .int k n) rfl, Go.MapKept.run_findKey hK hno, Go.MapKept.run_setObj_map _ hb]
  exact congrArg (Result.ok ()) (alloc_set W _ _)

/-- a look-up of a key in a map that is known -/
theorem run_lookup_of {T K E : TypeId} {k : IntKind} (hT : P.underlying T = some (.map K E)) (hK : P.underlying K = some (.int k)) {w : World} {es : Array MapEntry} {c r : Nat} (h : w.heap[r]? = some (.map es c)) (n : Int) (i : Nat) (v : Value)
    (hf : Instr.findNow (.int k) (.int k n) es.toList 0 = some (some (i, v))) :
    (Instr.lookup T (.map (some r)) (.int k n) false).run P w = .ok v w := by
  simp only [Instr.lookup, Sem.run_bind, run_underlying hT, Result.andThen_ok, Go.MapKept.run_getObj_map h, Go.MapKept.run_checkKey hK (k := .int k n) rfl, Go.MapKept.run_findKey hK hf, Sem.run_pure]
  rfl

theorem wpList_insert_val {ops : Array Oper} {rest : List Oper} {o : Oper} {a : Act} {w w' : World} {Q : Exit → Act → World → Prop} (hgd : o.guard = none) (T : TypeId) (m k x : Operand) (ho : o.op = .insert T m k x)
    (hrun : (Instr.mapUpdate T (a.eval m) (a.eval k) (a.eval x)).run P w = .ok () w') (h : wpList P ops Q rest (a.put o.dst undef) w') : wpList P ops Q (o :: rest) a w :=
  wpList_plain hgd fun _ hK => by
    unfold Oper.wp execOp; rw [ho]
    simp only [Sem.run_bind, hrun]; exact hK _ _ h
theorem wpList_update_val {ops : Array Oper} {rest : List Oper} {o : Oper} {a : Act} {w w' : World} {Q : Exit → Act → World → Prop} (hgd : o.guard = none) (T : TypeId) (m k x : Operand) (ho : o.op = .mapUpdate T m k x)
    (hrun : (Instr.mapUpdate T (a.eval m) (a.eval k) (a.eval x)).run P w = .ok () w') (h : wpList P ops Q rest (a.put o.dst undef) w') : wpList P ops Q (o :: rest) a w :=
  wpList_plain hgd fun _ hK => by
    unfold Oper.wp execOp; rw [ho]
    simp only [Sem.run_bind, hrun]; exact hK _ _ h

end Go.Proofs.YtgjahejhpkbecaaGreatDoor
