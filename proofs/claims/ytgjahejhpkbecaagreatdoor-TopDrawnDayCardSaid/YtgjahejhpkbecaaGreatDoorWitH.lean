/- Witness: a hash is posted. -/
import Derived.Test.YtgjahejhpkbecaaGreatDoorWitG
namespace Go.Proofs.YtgjahejhpkbecaaGreatDoor
open Go.RowKit

theorem DrawAt.setPer {w : World} {base db pb below : Nat} {ps : List Per} {s o n : Nat} (h : DrawAt w base db pb below ps s o n) {i j : Nat} {p q : Per} {v : Value} (hi : ps[i]? = some p) (hj : j < 5) (hq : q.cells = p.cells.set j v) :
    DrawAt (w.setCell ⟨pb, i * 5 + j, none⟩ v) base db pb below (ps.set i q) s o n ∧ Keep (fun k => base ≤ k) w (w.setCell ⟨pb, i * 5 + j, none⟩ v) := by
  obtain ⟨h0, h1, h2, v', xs, h3, h4, h5⟩ := h
  have hpb := owns_ne h5 h4 (by decide)
  have hne : db ≠ pb := by
    intro e; subst e; rw [h3] at h4; exact absurd (Obj.cells.inj (Option.some.inj h4)).2.1 (by decide)
  have hK : Keep (fun k => base ≤ k) w (w.setCell ⟨pb, i * 5 + j, none⟩ v) := Keep.setCell (Keep.refl _ _) (.inl h2) _
  refine ⟨⟨Nat.le_trans h0 hK.size, h1, h2, v', xs, ?_, ?_, ?_⟩, hK⟩
  · rw [List.length_set]; exact (Below.heap_setCell _ _ _ _ (by dsimp only; omega)).trans h3
  · have := set_blk h4 (i * 5 + j) v
    rw [this, List.setIfInBounds_toArray, perL_set hi hj hq]
  · exact owns_keep h5 (Keep.setCell (Keep.refl (· = pb) w) (p := ⟨pb, i * 5 + j, none⟩) (.inl rfl) _) (fun g h e => hpb (by rw [h, e]))
theorem DrawAt.setS {w : World} {base db pb below : Nat} {ps : List Per} {s o n : Nat} (h : DrawAt w base db pb below ps s o n) (s' : Nat) :
    DrawAt (w.setCell ⟨db, 3, none⟩ (.int .i64 s')) base db pb below ps s' o n ∧ Keep (fun k => base ≤ k) w (w.setCell ⟨db, 3, none⟩ (.int .i64 s')) := by
  obtain ⟨h0, h1, h2, v', xs, h3, h4, h5⟩ := h
  have hdb := owns_ne h5 h3 (by decide)
  have hne : db ≠ pb := by
    intro e; subst e; rw [h3] at h4; exact absurd (Obj.cells.inj (Option.some.inj h4)).2.1 (by decide)
  have hK : Keep (fun k => base ≤ k) w (w.setCell ⟨db, 3, none⟩ (.int .i64 s')) := Keep.setCell (Keep.refl _ _) (.inl h1) _
  refine ⟨⟨Nat.le_trans h0 hK.size, h1, h2, v', xs, set_blk h3 3 _, ?_, ?_⟩, hK⟩
  · exact (Below.heap_setCell _ _ _ _ (by dsimp only; omega)).trans h4
  · exact owns_keep h5 (Keep.setCell (Keep.refl (· = db) w) (p := ⟨db, 3, none⟩) (.inl rfl) _) (fun g h e => hdb (by rw [h, e]))
theorem DrawAt.setO {w : World} {base db pb below : Nat} {ps : List Per} {s o n : Nat} (h : DrawAt w base db pb below ps s o n) (o' : Nat) :
    DrawAt (w.setCell ⟨db, 4, none⟩ (.int .i64 o')) base db pb below ps s o' n ∧ Keep (fun k => base ≤ k) w (w.setCell ⟨db, 4, none⟩ (.int .i64 o')) := by
  obtain ⟨h0, h1, h2, v', xs, h3, h4, h5⟩ := h
  have hdb := owns_ne h5 h3 (by decide)
  have hne : db ≠ pb := by
    intro e; subst e; rw [h3] at h4; exact absurd (Obj.cells.inj (Option.some.inj h4)).2.1 (by decide)
  have hK : Keep (fun k => base ≤ k) w (w.setCell ⟨db, 4, none⟩ (.int .i64 o')) := Keep.setCell (Keep.refl _ _) (.inl h1) _
  refine ⟨⟨Nat.le_trans h0 hK.size, h1, h2, v', xs, set_blk h3 4 _, ?_, ?_⟩, hK⟩
  · exact (Below.heap_setCell _ _ _ _ (by dsimp only; omega)).trans h4
  · exact owns_keep h5 (Keep.setCell (Keep.refl (· = db) w) (p := ⟨db, 4, none⟩) (.inl rfl) _) (fun g h e => hdb (by rw [h, e]))
theorem DrawAt.ne {w : World} {base db pb below : Nat} {ps : List Per} {s o n : Nat} (h : DrawAt w base db pb below ps s o n) : db ≠ pb := by
  obtain ⟨h0, h1, h2, v', xs, h3, h4, h5⟩ := h
  intro e; subst e; rw [h3] at h4; exact absurd (Obj.cells.inj (Option.some.inj h4)).2.1 (by decide)
/-- the cells of a drawing, for a walk -/
theorem DrawAt.db {w : World} {base db pb below : Nat} {ps : List Per} {s o n : Nat} (h : DrawAt w base db pb below ps s o n) :
    w.cell? ⟨db, 1, none⟩ = some (.int .i64 below) ∧ w.cell? ⟨db, 2, none⟩ = some (.slice (some ⟨pb, 0, none⟩) ps.length ps.length) ∧ w.cell? ⟨db, 3, none⟩ = some (.int .i64 s) ∧ w.cell? ⟨db, 4, none⟩ = some (.int .i64 o) ∧ w.cell? ⟨db, 5, none⟩ = some (.int .i64 0) ∧ ∀ k, w.frozen? ⟨db, k, none⟩ = false := by
  obtain ⟨_, _, _, v, xs, h3, _, _⟩ := h
  exact ⟨cellsOf h3 1, cellsOf h3 2, cellsOf h3 3, cellsOf h3 4, cellsOf h3 5, frozenOf h3⟩
theorem DrawAt.pb {w : World} {base db pb below : Nat} {ps : List Per} {s o n : Nat} (h : DrawAt w base db pb below ps s o n) {i : Nat} {p : Per} (hi : ps[i]? = some p) :
    w.cell? ⟨pb, i * 5, none⟩ = some (.string p.hash) ∧ w.cell? ⟨pb, i * 5 + 1, none⟩ = some (.int .i64 p.value) ∧ w.cell? ⟨pb, i * 5 + 2, none⟩ = some (.int .i64 p.sealed) ∧ w.cell? ⟨pb, i * 5 + 3, none⟩ = some (.int .i64 p.opn) ∧ w.cell? ⟨pb, i * 5 + 4, none⟩ = some (.bool p.right) ∧ ∀ k, w.frozen? ⟨pb, k, none⟩ = false := by
  obtain ⟨_, _, _, v, xs, _, h4, _⟩ := h
  have e : ∀ j, j < 5 → w.cell? ⟨pb, i * 5 + j, none⟩ = p.cells[j]? := fun j hj => (cellsOf h4 _).trans (by rw [List.getElem?_toArray]; exact perL_at hi hj)
  exact ⟨e 0 (by omega), e 1 (by omega), e 2 (by omega), e 3 (by omega), e 4 (by omega), frozenOf h4⟩

set_option maxRecDepth 100000 in
set_option maxHeartbeats 3200000 in
theorem dSeal_any (base db pb below : Nat) (ps : List Per) (s o n i h : Nat) (p : Per) (w : World) (hD : DrawAt w base db pb below ps s o n) (hi : ps[i]? = some p) (hp : p.sealed = 0) (hlen : ps.length ≤ 30) (hn : n ≤ 1000) (hs : s ≤ 1000) (hh : h < 18446744073709551616) :
    Calls Tryz.prog 17 #[.pointer (some ⟨db, 0, none⟩), .int .i64 ((i : Int) + 1), .string ⟨(hashL h).toArray⟩] w fun e w' => e = .returned (.int .i64 0) ∧
      DrawAt w' base db pb below (ps.set i ⟨⟨(hashL h).toArray⟩, p.value, n + 1, p.opn, p.right⟩) (s + 1) o (n + 1) ∧ Keep (fun k => base ≤ k) w w' := by
  have hil : i < ps.length := (List.getElem?_eq_some_iff.1 hi).1
  have hSs : (⟨(hashL h).toArray⟩ : ByteArray).size = 16 := (size_of_list _).trans (hashL_length h hh)
  have hSd : (⟨(hashL h).toArray⟩ : ByteArray).data.toList.length = 16 := hSs
  have cf := hid (fun W (hW : Ext w W) => find_t base db pb below ps s o n i W (hD.later hW) hil (by omega))
  have ch := hid (isHash_t h hh)
  have hbs := decB_size (i + 1) (by omega)
  generalize (⟨(hashL h).toArray⟩ : ByteArray) = S at hSs hSd ch ⊢
  have cn : Hid (∀ W, Calls Tryz.prog 37 #[.int .i64 ((i : Int) + 1)] W fun e w' => e = .returned (.string (decB (i + 1))) ∧ W = w') := hid (fun W => number_any (i + 1) (by omega) W)
  have cwr := hid (fun (W : World) (hW : Ext w W) (bk : Nat) (hb : W.heap[bk]? = some (.cells #[.string ⟨#[115, 101, 97, 108]⟩, .string (decB (i + 1)), .string S] 9 (0, 0))) =>
    write_draw base db pb below ps s o n bk 3 [⟨#[115, 101, 97, 108]⟩, decB (i + 1), S] W (hD.later hW) hn (fun j x hx => by
      rw [Nat.zero_add, cellsOf hb]
      rcases j with _ | _ | _ | j <;> simp_all) (lt_of_block hb) (by simp) (by simp) (by
        have : (decB (i + 1)).data.toList.length ≤ 2 := hbs
        simp [Lib.join, List.intercalate]; simp at hSd this; omega))
  have h2 := hid hD
  have Hi := hid hi
  have hen1 := hid (enters Tryz.func37 (by kernel_rfl) rfl)
  have hen2 := hid (enters Tryz.func36 (by kernel_rfl) rfl)
  have ph := hid hp
  clear hD hi hp hSd hbs
  go_enter Tryz.func17, Tryz.ntmps17
  go_wp2_with (first
    | (go_at_call 41; refine (cf.out _ (Ext.refl w)).mono ?_; rintro e w' ⟨rfl, rfl⟩)
    | (go_at_call 42; refine (ch.out _).mono ?_; rintro e w1 ⟨rfl, hE⟩; obtain ⟨q0, q1, q2, q3, q4, q5⟩ := (h2.out.later hE).pb Hi.out; rw [ph.out] at q2))
  have hne := h2.out.ne
  have hne' := Ne.symm hne
  clear q0 q1 q2 q3 q4 q5
  go_region_law
    ((first
      | (refine step_calls (by rfl) 37 #[.int .i64 ((i : Int) + 1)] ?_ (cn.out _) ?_; (focus (simp [go_sem, execOp, Act.eval, Act.put, hen1.out]; done)); rintro e w2 ⟨rfl, rfl⟩; refine ⟨_, rfl, ?_⟩)
      | (refine step_calls (by rfl) 36 #[.pointer (some ⟨db, 0, none⟩), .slice (some ⟨w1.heap.size, 0, none⟩) 3 3] ?_ (cwr.out _ ((hE.alloc _).drew) w1.heap.size (heap_alloc_new w1 _)) ?_
         (focus (simp [go_sem, execOp, Act.eval, Act.put, hen2.out]; done))
         rintro e w3 ⟨rfl, hD3, hK3, _⟩
         refine ⟨_, rfl, ?_⟩
         obtain ⟨r0, r1, r2, r3, r4, r5⟩ := hD3.pb Hi.out
         obtain ⟨s1, s2, s3, s4, s5, s6⟩ := hD3.db
         have HD3 := hid hD3
         have HK3 := hid hK3
         clear hD3 hK3)))
  go_wp2
  go_ret
  have a1 := HD3.out.setPer Hi.out (j := 0) (v := .string S) (q := ⟨S, p.value, p.sealed, p.opn, p.right⟩) (by omega) rfl
  have hi2 : (ps.set i ⟨S, p.value, p.sealed, p.opn, p.right⟩)[i]? = some ⟨S, p.value, p.sealed, p.opn, p.right⟩ := List.getElem?_set_self hil
  have a2 := a1.1.setPer hi2 (j := 2) (v := .int .i64 ((n : Int) + 1)) (q := ⟨S, p.value, n + 1, p.opn, p.right⟩) (by omega) rfl
  have a3 := a2.1.setS (s + 1)
  rw [List.set_set] at a3
  exact ⟨rfl, a3.1, ((((Keep.of_ext ((hE.alloc _).drew)).trans HK3.out).trans a1.2).trans a2.2).trans a3.2⟩
end Go.Proofs.YtgjahejhpkbecaaGreatDoor
