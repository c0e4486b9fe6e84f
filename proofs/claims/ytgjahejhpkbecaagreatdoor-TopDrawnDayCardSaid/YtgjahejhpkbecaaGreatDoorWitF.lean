/- Witness: a line is written. -/
import Derived.Test.YtgjahejhpkbecaaGreatDoorWitE
import Derived.Deep.RegionHeld3
import Derived.Deep.AppendLies
namespace Go.Proofs.YtgjahejhpkbecaaGreatDoor
open Go.RowKit

theorem infoStr : (Tryz.prog.info? 9).map (fun i => (i.zero, i.size, i.bytes)) = some (some (.string ⟨#[]⟩), 1, 16) := by kernel_rfl

theorem owns_keep {w w' : World} {base size n : Nat} {e : TypeId} {v : Value} {xs : List Value} (h : w.ownsRow base e size v n xs) {X : Nat → Prop} (k : Keep X w w') (hx : ∀ g, v.ownBlock = some g → ¬ X g) : w'.ownsRow base e size v n xs := by
  refine ⟨h.1, ?_⟩
  rcases h.2 with hn | ⟨g, cap, cur, rfl, hb, hgg, rest⟩
  · exact .inl hn
  · exact .inr ⟨g, cap, cur, rfl, hb, k.blk hgg (hx g rfl), rest⟩

theorem grown_keep {a b : World} {row : Option Nat} (h : a.grownBy b row) : Keep (fun k => row = some k) a b := ⟨h.os, h.tape, h.output, h.size, fun k hk hx => h.block k hk (fun e => hx e.symm)⟩
/-- what writing a line has done: n lines have become n + 1 -/
def Wrote (db base n : Nat) (v : Value) (w w' : World) : Prop := ∃ gg cap xs' W2, w' = W2.setCell ⟨db, 0, none⟩ (.slice (some ⟨gg, 0, none⟩) (n + 1) cap) ∧ Keep (fun k => v.ownBlock = some k) w W2 ∧
  W2.ownsRow base 9 1 (.slice (some ⟨gg, 0, none⟩) (n + 1) cap) (n + 1) xs' ∧ (v.ownBlock = some gg ∨ w.heap.size ≤ gg)
/-- a Go call, as one step of a region -/
theorem step_calls {P : Program} {ops : Array Oper} {o : Oper} {a : Act} {w : World} {K : Act → World → Prop} {Q : Exit → Act → World → Prop} {E : Prop} (hgd : o.guard = none) (f : FuncId) (vals : Array Value)
    (hrun : (execOp a.eval o).run P w = .ok (.enter f vals) w) {R : Ending → World → Prop} (hc : Calls P f vals w R) (h : ∀ e w', R e w' → ∃ v, e = .returned v ∧ K (a.put o.dst v) w') :
    if Region.wanted o (yielded ops a.tmps) = true then Oper.wp P o a w K Q else E := by
  have hw : Region.wanted o (yielded ops a.tmps) = true := by simp [Region.wanted, hgd]
  rw [if_pos hw]
  unfold Oper.wp
  rw [hrun]
  refine Calls.mono hc fun e w' hr => ?_
  obtain ⟨v, rfl, hk⟩ := h e w' hr
  exact hk

set_option maxRecDepth 100000 in
set_option maxHeartbeats 3200000 in
theorem write_any (db base n : Nat) (v : Value) (xs : List Value) (bk c : Nat) (ws : List ByteArray) (w : World) (hcell : w.cell? ⟨db, 0, none⟩ = some v) (hfro : w.frozen? ⟨db, 0, none⟩ = false)
    (hown : w.ownsRow base 9 1 v n xs) (hbase : base ≤ w.heap.size) (hdb : v.ownBlock ≠ some db) (hn : n ≤ 1000) (hws : ∀ (j : Nat) x, ws[j]? = some x → w.cell? ⟨bk, 0 + j, none⟩ = some (.string x)) (hbk : bk < w.heap.size)
    (hl : ws.length ≤ c) (hl2 : ws.length ≤ 1000) (hlen : (Lib.join (ws.map (·.data.toList)) [32]).length ≤ 1000) :
    Calls Tryz.prog 36 #[.pointer (some ⟨db, 0, none⟩), .slice (some ⟨bk, 0, none⟩) ws.length c] w fun e w' => e = .returned (.int .i64 ((n : Int) + 1)) ∧ Wrote db base n v w w' := by
  obtain ⟨i0, hi, hz0, hz1, hz2⟩ := info_parts infoStr
  have ldb := World.block_lt_of_cell? w _ hcell
  have hj := hid (fun (W : World) (hW : Ext w W) => Tryz.strings_Join bk 0 c ws ⟨#[32]⟩ W (fun j x hx => hW.cell' (hws j x hx)) (Nat.lt_of_lt_of_le hbk hW.size) (by omega) hl (by show (Lib.join (ws.map (·.data.toList)) [32]).length ≤ _; omega))
  clear hws
  have hen := hid (enters Tryz.func72 (by kernel_rfl) rfl)
  obtain ⟨T, hT⟩ : ∃ T : ByteArray, T = ⟨(Lib.join (ws.map (·.data.toList)) [32]).toArray⟩ := ⟨_, rfl⟩
  have hTs : T.size ≤ 1000 := by rw [hT, size_of_list]; exact hlen
  rw [show (⟨#[32]⟩ : ByteArray).data.toList = [32] from rfl, ← hT] at hj
  clear hT hlen
  have hT1 : ¬ 9223372036854775807 < T.size + 1 := by omega
  go_enter Tryz.func36, Tryz.ntmps36
  go_wp2_with fail
  go_region_law
    ((first
      | (refine step_calls (by rfl) 72 #[.slice (some ⟨bk, 0, none⟩) ws.length c, .string ⟨#[32]⟩] (by simp [go_sem, execOp, Act.eval, Act.put, hen.out]) (hj.out _ ((Ext.refl w).drew)) ?_; rintro e w1 ⟨rfl, hb0⟩; refine ⟨_, rfl, ?_⟩; have hb : Ext w w1 := ((Ext.refl w).drew).trans hb0; have hown1 := owns_keep hown (Keep.of_ext (X := fun _ => False) hb) (fun _ _ h => h); have hb1 := Ext.size hb; have hc1 : w1.cell? ⟨db, 0, none⟩ = some v := Ext.cell' hb hcell; have hc1' : ∀ o, (w1.alloc o).cell? ⟨db, 0, none⟩ = some v := (fun o => Ext.cell' ((Ext.refl w1).alloc o) hc1); clear hb0)
      | (refine step_append_lies _ (by rfl) _ _ _ (by rfl) base 9 i0 _ 1 16 Tryz.underlying91 hi hz0 hz1 hz2 rfl (by omega) v n xs (by rfl) (hown1.alloc _)
          ⟨w1.heap.size, 0, none⟩ 1 1 [.string (T ++ ⟨#[10]⟩)] (by rfl) (by rfl) (World.news_of_block (cs := #[.string (T ++ ⟨#[10]⟩)]) (t := 9) (fr := (0, 0)) (heap_alloc_new w1 _)) (by simp [Value.oneCell'])
          (by omega) (by simp [maxLen]; omega) (by omega) (by simp; omega) (w1.heap.size + 1) (by simp) ?_; intro gg cap w2 hown2 hgrow hat hlt; have hc2 : w2.cell? ⟨db, 0, none⟩ = some v := (hgrow.cell_far _ (by simp; omega) (Ne.symm hdb)).trans (Ext.cell' ((Ext.refl w1).alloc _) (Ext.cell' hb hcell)); have hf2 : w2.frozen? ⟨db, 0, none⟩ = false := (hgrow.frozen_far _ (by simp; omega) (Ne.symm hdb)).trans ((Ext.frozens ((Ext.refl w1).alloc _) _ _ (by omega)).trans ((Ext.frozens hb _ _ ldb).trans hfro)))))
  all_goals go_wp2
  all_goals go_ret
  all_goals exact ⟨rfl, gg, cap, _, w2, rfl, (Keep.of_ext (hb.alloc _)).trans (grown_keep hgrow), hown2, hat.imp id (fun h => by omega)⟩
end Go.Proofs.YtgjahejhpkbecaaGreatDoor
