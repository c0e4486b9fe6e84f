/- Witness: a drawing in memory; a line is written to it; a person is found. -/
import Derived.Test.YtgjahejhpkbecaaGreatDoorWitF
namespace Go.Proofs.YtgjahejhpkbecaaGreatDoor
open Go.RowKit

structure Per where
  hash : ByteArray
  value : Nat
  sealed : Nat
  opn : Nat
  right : Bool
def Per.cells (p : Per) : List Value := [.string p.hash, .int .i64 p.value, .int .i64 p.sealed, .int .i64 p.opn, .bool p.right]
def perL (ps : List Per) : List Value := ps.flatMap Per.cells
theorem perL_length (ps : List Per) : (perL ps).length = ps.length * 5 := by
  induction ps with
  | nil => rfl
  | cons p ps ih => rw [perL, List.flatMap_cons, List.length_append, ← perL, ih]; simp [Per.cells]; omega
theorem perL_at {ps : List Per} {i j : Nat} {p : Per} (hi : ps[i]? = some p) (hj : j < 5) : (perL ps)[i * 5 + j]? = p.cells[j]? := by
  induction ps generalizing i with
  | nil => simp at hi
  | cons q ps ih =>
    rw [perL, List.flatMap_cons, ← perL]
    cases i with
    | zero =>
      obtain rfl : q = p := by simpa using hi
      rw [List.getElem?_append_left (by simp [Per.cells]; omega)]; simp
    | succ i =>
      rw [List.getElem?_append_right (by simp [Per.cells]; omega)]
      have := ih (i := i) (by simpa using hi)
      rw [← this]; congr 1; simp [Per.cells]; omega
theorem perL_set {ps : List Per} {i j : Nat} {p q : Per} {v : Value} (hi : ps[i]? = some p) (hj : j < 5) (hq : q.cells = p.cells.set j v) : (perL ps).set (i * 5 + j) v = perL (ps.set i q) := by
  induction ps generalizing i with
  | nil => simp at hi
  | cons r ps ih =>
    rw [perL, List.flatMap_cons, ← perL]
    cases i with
    | zero =>
      obtain rfl : r = p := by simpa using hi
      rw [List.set_append_left _ _ (by simp [Per.cells]; omega), Nat.zero_mul, Nat.zero_add, ← hq]; rfl
    | succ i =>
      rw [List.set_append_right _ _ (by simp [Per.cells]; omega), List.set_cons_succ]
      show r.cells ++ (perL ps).set _ v = r.cells ++ perL (ps.set i q)
      rw [← ih (i := i) (by simpa using hi)]
      congr 2; simp [Per.cells]; omega

/-- a drawing, in memory from block base on -/
def DrawAt (w : World) (base db pb below : Nat) (ps : List Per) (s o n : Nat) : Prop := base ≤ w.heap.size ∧ base ≤ db ∧ base ≤ pb ∧ ∃ v xs,
  w.heap[db]? = some (.cells #[v, .int .i64 below, .slice (some ⟨pb, 0, none⟩) ps.length ps.length, .int .i64 s, .int .i64 o, .int .i64 0] 95 (0, 0)) ∧
  w.heap[pb]? = some (.cells (perL ps).toArray 106 (0, 0)) ∧ w.ownsRow base 9 1 v n xs
theorem owns_ne {w : World} {base size n : Nat} {e t : TypeId} {v : Value} {xs : List Value} (h : w.ownsRow base e size v n xs) {k : Nat} {cs : Array Value} {fr : Nat × Nat} (hk : w.heap[k]? = some (.cells cs t fr)) (ht : t ≠ e) : v.ownBlock ≠ some k := by
  rcases h.2 with ⟨rfl, _⟩ | ⟨g, cap, cur, rfl, hb, hgg, _⟩
  · intro h; cases h
  · intro h
    obtain rfl : g = k := by simpa [Value.ownBlock] using h
    rw [hgg] at hk; cases hk; exact ht rfl
theorem owns_ge {w : World} {base size n : Nat} {e : TypeId} {v : Value} {xs : List Value} (h : w.ownsRow base e size v n xs) {k : Nat} (hk : v.ownBlock = some k) : base ≤ k := by
  rcases h.2 with ⟨rfl, _⟩ | ⟨g, cap, cur, rfl, hb, hgg, _⟩
  · cases hk
  · obtain rfl : g = k := by simpa [Value.ownBlock] using hk
    exact hb
theorem DrawAt.later {w w' : World} {base db pb below : Nat} {ps : List Per} {s o n : Nat} (h : DrawAt w base db pb below ps s o n) (he : Ext w w') : DrawAt w' base db pb below ps s o n := by
  obtain ⟨h0, h1, h2, v, xs, h3, h4, h5⟩ := h
  exact ⟨Nat.le_trans h0 he.size, h1, h2, v, xs, he.blk' h3, he.blk' h4, owns_keep h5 (Keep.of_ext (X := fun _ => False) he) (fun _ _ h => h)⟩

theorem write_draw (base db pb below : Nat) (ps : List Per) (s o n : Nat) (bk c : Nat) (ws : List ByteArray) (w : World) (hD : DrawAt w base db pb below ps s o n) (hn : n ≤ 1000)
    (hws : ∀ (j : Nat) x, ws[j]? = some x → w.cell? ⟨bk, 0 + j, none⟩ = some (.string x)) (hbk : bk < w.heap.size) (hl : ws.length ≤ c) (hl2 : ws.length ≤ 1000) (hlen : (Lib.join (ws.map (·.data.toList)) [32]).length ≤ 1000) :
    Calls Tryz.prog 36 #[.pointer (some ⟨db, 0, none⟩), .slice (some ⟨bk, 0, none⟩) ws.length c] w fun e w' => e = .returned (.int .i64 ((n : Int) + 1)) ∧ DrawAt w' base db pb below ps s o (n + 1) ∧ Keep (fun k => base ≤ k) w w' ∧
      ∀ (k : Nat) (cs : Array Value) (t : TypeId) (fr : Nat × Nat), k ≠ db → t ≠ 9 → w.heap[k]? = some (.cells cs t fr) → w'.heap[k]? = some (.cells cs t fr) := by
  obtain ⟨h0, h1, h2, v, xs, h3, h4, h5⟩ := hD
  have hdb := owns_ne h5 h3 (by decide)
  have hpb := owns_ne h5 h4 (by decide)
  have hne : db ≠ pb := by
    intro e; subst e; rw [h3] at h4; exact absurd (Obj.cells.inj (Option.some.inj h4)).2.1 (by decide)
  refine (write_any db base n v xs bk c ws w (cellsOf h3 0) (frozenOf h3 0) h5 h0 hdb hn hws hbk hl hl2 hlen).mono ?_
  rintro e w' ⟨rfl, gg, cap, xs', W2, rfl, hk, ho, hgg⟩
  have g3 := hk.blk h3 hdb
  have g4 := hk.blk h4 hpb
  have hgd : gg ≠ db := by
    rintro rfl
    exact owns_ne ho g3 (by decide) rfl
  have hgb : base ≤ gg := by
    rcases hgg with h | h
    · exact owns_ge h5 h
    · omega
  have hK : Keep (fun k => base ≤ k) W2 (W2.setCell ⟨db, 0, none⟩ (.slice (some ⟨gg, 0, none⟩) (n + 1) cap)) := Keep.setCell (Keep.refl _ _) (.inl h1) _
  refine ⟨rfl, ⟨by have := hk.size; have := hK.size; omega, h1, h2, _, xs', set_blk g3 0 _, ?_, ?_⟩, (hk.mono fun k _ h => owns_ge h5 h).trans hK, fun k cs t fr g1 g2 g3 => (Below.heap_setCell _ _ _ _ (by dsimp only; omega)).trans (hk.blk g3 (owns_ne h5 g3 g2))⟩
  · exact (Below.heap_setCell _ _ _ _ (by dsimp only; omega)).trans g4
  · exact owns_keep ho (Keep.setCell (Keep.refl (· = db) W2) (p := ⟨db, 0, none⟩) (.inl rfl) _) (fun g h e => hgd (by cases h; exact e))

theorem find_t (base db pb below : Nat) (ps : List Per) (s o n i : Nat) (w : World) (hD : DrawAt w base db pb below ps s o n) (hi : i < ps.length) (hlen : ps.length ≤ 1000) :
    Calls Tryz.prog 41 #[.pointer (some ⟨db, 0, none⟩), .int .i64 ((i : Int) + 1)] w fun e w' => e = .returned (.pointer (some ⟨pb, i * 5, none⟩)) ∧ w = w' := by
  obtain ⟨h0, h1, h2, v, xs, h3, h4, h5⟩ := hD
  have hk := cellsOf h3
  clear h3 h4 h5
  go_enter Tryz.func41, Tryz.ntmps41
  go_wp2_with (go_at_call 35; refine (wwithin _ _ _ _ (by omega)).mono ?_; rintro e w' ⟨rfl, rfl⟩)
  go_ret
  exact ⟨rfl, rfl⟩
end Go.Proofs.YtgjahejhpkbecaaGreatDoor
