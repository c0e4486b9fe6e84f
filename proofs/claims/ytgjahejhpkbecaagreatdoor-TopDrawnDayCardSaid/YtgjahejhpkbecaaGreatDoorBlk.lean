/- A block that is known, and a cell of it that is written. -/
import Derived.Test.YtgjahejhpkbecaaGreatDoorRange
namespace Go.Proofs.YtgjahejhpkbecaaGreatDoor
open Go.RowKit

/-- a cell of a block that is known is written -/
theorem set_blk {w : World} {b : Nat} {cs : Array Value} {t : TypeId} {fr : Nat × Nat} (h : w.heap[b]? = some (.cells cs t fr)) (o : Nat) (v : Value) : (w.setCell ⟨b, o, none⟩ v).heap[b]? = some (.cells (cs.setIfInBounds o v) t fr) := by
  have hlt := lt_of_block h
  have h' : w.heap[b] = .cells cs t fr := by simpa [Array.getElem?_eq_getElem hlt] using h
  show (w.heap.modify b _)[b]? = _
  rw [Array.getElem?_eq_getElem (by simpa using hlt), Array.getElem_modify_self, h']
  rfl
theorem frozenOf {w : World} {b : Nat} {cs : Array Value} {t : TypeId} (h : w.heap[b]? = some (.cells cs t (0, 0))) : ∀ o, w.frozen? ⟨b, o, none⟩ = false := fun o => by simp [World.frozen?, h]

theorem keep_set {l : Nat} {a b : World} (h : Keep (· = l) a b) (o : Nat) (v : Value) : Keep (· = l) a (b.setCell ⟨l, o, none⟩ v) := Keep.setCell (X := (· = l)) (p := ⟨l, o, none⟩) h (Or.inl rfl) v

/-- a result that is a row of cells, in a block of its own -/
theorem loadAt_var {P : Program} {T : Nat} {b o : Nat} {v : Value} {w : World} (hl : (Instr.loadAt T (.pointer (some ⟨b, o, none⟩))).run P w = .ok v w) : (loadVar T ⟨b, o, none⟩).run P w = .ok v w := by
  simpa [Instr.loadAt, Instr.sureAddr] using hl
theorem results_row {P : Program} {fn : Func} {tmps : Array Value} {s T b o : Nat} {v : Value} {w : World} (h : fn.results = #[.cell s T]) (ht : tmps.getD s undef = .pointer (some ⟨b, o, none⟩))
    (hl : (Instr.loadAt T (.pointer (some ⟨b, o, none⟩))).run P w = .ok v w) : (results fn tmps).run P w = .ok v w := by
  have := loadAt_var hl
  simp only [Array.getD_eq_getD_getElem?] at ht
  simp [results, h, ht, asAddr, this]
theorem results_row_tmp {P : Program} {fn : Func} {tmps : Array Value} {s T b o s2 : Nat} {v : Value} {w : World} (h : fn.results = #[.cell s T, .tmp s2]) (ht : tmps.getD s undef = .pointer (some ⟨b, o, none⟩))
    (hl : (Instr.loadAt T (.pointer (some ⟨b, o, none⟩))).run P w = .ok v w) : (results fn tmps).run P w = .ok (.tuple #[v, tmps.getD s2 undef]) w := by
  have := loadAt_var hl
  simp only [Array.getD_eq_getD_getElem?] at ht
  simp [results, h, ht, asAddr, this]
theorem row_load {P : Program} {T : Nat} {d : TypeDesc} (hu : P.underlying T = some d) (hd : d.isRow = true) {cs : Array Value} (hi : (P.info? T).map (·.size) = some cs.size) {w : World} {b : Nat} {t : TypeId} {fr : Nat × Nat} (hb : w.heap[b]? = some (.cells cs t fr)) :
    (Instr.loadAt T (.pointer (some ⟨b, 0, none⟩))).run P w = .ok (.agg cs) w :=
  Loads.agg hu hd hi w b 0 (fun j v hj => by rw [Nat.zero_add, cellsOf hb]; simpa [Value.cells] using hj)

end Go.Proofs.YtgjahejhpkbecaaGreatDoor
