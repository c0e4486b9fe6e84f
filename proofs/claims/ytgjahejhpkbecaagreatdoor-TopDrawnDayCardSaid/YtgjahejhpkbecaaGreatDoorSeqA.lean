/- Iterators of the library: slices.Backward. -/
import Derived.Test.YtgjahejhpkbecaaGreatDoorRange
import Derived.Test.YtgjahejhpkbecaaGreatDoorFuncs
namespace Go.Proofs.YtgjahejhpkbecaaGreatDoor
open Go.RowKit

attribute [local go_sem] Oper.semAt_some

theorem wpListIn_load_val {F : Fence} {n : Nat} {P : Program} {ops : Array Oper} {rest : List Oper} {o : Oper} {a : Act} {w : World} {Q : Exit → Act → World → Prop} (hF : ∀ f, F.fn f) (hgd : o.guard = none) (ty : TypeId) (x : Operand) (ho : o.op = .load ty x)
    (p : Value) (hx : a.eval x = p) (v : Value) (hrun : (Instr.loadAt ty p).run P w = .ok v w)
    (h : wpListIn F n P ops Q rest (a.put o.dst v) w) : wpListIn F n P ops Q (o :: rest) a w :=
  wpListIn_plain hgd fun _ hK => ⟨fun f _ => hF f, by
    have e : o.semAt F.round a.eval = execOp a.eval o := by cases F.round <;> simp [Oper.semAt, ho]
    rw [e]; unfold execOp; rw [ho]; subst hx
    simp only [Sem.run_bind, hrun]; exact hK _ _ h⟩

/-- the rounds change what is in X, and what is new -/
theorem Keep.rounds {X Y : Nat → Prop} {w A B : World} (h : Keep X w A) (k : Keep (fun k => (X k ∨ w.heap.size ≤ k) ∧ ¬ Y k) A B) : Keep X w B :=
  ⟨k.os.trans h.os, k.tape.trans h.tape, k.output.trans h.output, Nat.le_trans h.size k.size, fun i hi hx =>
    (k.block i (Nat.lt_of_lt_of_le hi h.size) (fun e => by rcases e.1 with e | e; exact hx e; omega)).trans (h.block i hi hx)⟩

def backX (vs : List Value) : List (Array Value) := (List.range vs.length).map fun k => #[.int .i64 ((vs.length - 1 - k : Nat) : Int), vs.getD (vs.length - 1 - k) undef]
theorem backX_at {vs : List Value} {k : Nat} (h : k < vs.length) : (backX vs)[k]? = some #[.int .i64 ((vs.length - 1 - k : Nat) : Int), vs.getD (vs.length - 1 - k) undef] := by
  simp [backX, h]
theorem backX_length (vs : List Value) : (backX vs).length = vs.length := by simp [backX]

set_option maxRecDepth 20000 in
set_option maxHeartbeats 1000000 in
theorem backward_seq (X : Nat → Prop) (w : World) (sb : Nat) (a : Option Addr) (cp : Nat) (vs : List Value) (hs : w.heap[sb]? = some (.cells #[.slice a vs.length cp] 43)) (hX : ¬ X sb)
    (hx : Stab X w fun w' => Elems Tryz.prog 38 2 w' a vs) (hlen : vs.length ≤ 1000000000) :
    Seq Tryz.prog 81 #[.pointer (some ⟨sb, 0, none⟩)] X w (backX vs) := by
  intro l n1 J Jx W hW hn hnW hJ hJx hG hY h0
  have hsb : sb < w.heap.size := lt_of_block hs
  have HS := hid hs
  have HX := hid hx
  have HY := hid hY
  clear hG
  have hWk := cellsOf (hW.blk hs hX)
  clear hs hx hY hJ hJx
  refine (callsIn_wide (n := 0)).1 ?_
  refine callsIn_of_wp Tryz.func81 rfl trivial ?_ rfl
  simp only [Tryz.ntmps81, List.size_toArray, List.length_cons, List.length_nil, Nat.reduceAdd, Nat.reduceSub, Array.replicate_succ, Array.replicate_zero, List.push_toArray, List.append_toArray, List.nil_append, List.cons_append]
  gi_wp2
  gi_loopw [3] (fun i wr => ∃ k : Nat, k ≤ vs.length ∧ i = .int .i64 ((vs.length : Int) - 1 - k) ∧ J (fun _ => False) k wr ∧ Keep X w wr ∧ n1 ≤ wr.heap.size) (fun i _ => (intOf i + 1).toNat)
  case atStart => exact ⟨0, Nat.zero_le _, by simp, h0, hW, hnW⟩
  case round =>
    obtain ⟨k, hk, rfl, hj, hkw, hnw⟩ := hrel
    by_cases hlt : k < vs.length
    · have hck := cellsOf (hkw.blk HS.out hX)
      have hat := backX_at hlt
      obtain ⟨x, hxk⟩ : ∃ x, vs[vs.length - 1 - k]? = some x := ⟨_, List.getElem?_eq_getElem (by omega)⟩
      have hg : vs.getD (vs.length - 1 - k) undef = x := by simp [List.getD, hxk]
      obtain ⟨b, off, rfl, hl⟩ := (HX.out wr hkw).load hxk
      have hl := hl wr (Ext.refl _)
      rw [hg] at hat
      obtain ⟨fn, tmps, assign, body, hy, hR⟩ := HY.out (fun _ => False) k _ wr hat (fun _ h => h.elim) hnw hj
      have e1 : ((vs.length - 1 - k : Nat) : Int) = (vs.length : Int) - 1 - k := by omega
      rw [e1] at hy
      have HL := hid hl
      have HR := hid hR
      clear hl hat hxk hg hR e1
      gi_wp2_with (refine wpListIn_load_val (fun _ => trivial) rfl 38 (.tmp 15) rfl _ rfl x HL.out ?_)
      refine ⟨rfl, (HR.out 0).mono ?_⟩
      rintro e B (⟨rfl, hj', hk'⟩ | ⟨rfl, hjx, hn'⟩)
      · have hkB := hkw.rounds hk'
        have hnB := Nat.le_trans hnw hk'.size
        clear hj hk' hkw HL HR
        gi_wp2
        go_roundw
        case rel => exact ⟨k + 1, by omega, by go_num, hj', hkB, hnB⟩
        case measure => simp [intOf]; omega
      · gi_wp2
        refine bodyPost_ret (results_none rfl _ _ _) rfl ?_
        exact ⟨⟨_, rfl⟩, (fun _ => False), fun _ h => h.elim, .inr ⟨k, by rw [backX_length]; exact hlt, hjx⟩⟩
    · obtain rfl : k = vs.length := by omega
      gi_wp2
      go_end0
      exact ⟨⟨_, rfl⟩, (fun _ => False), fun _ h => h.elim, .inl (by rw [backX_length]; exact hj)⟩

theorem backward_any (a : Option Addr) (n cp : Nat) (w : World) :
    Calls Tryz.prog 60 #[.slice a n cp] w fun e w' => e = .returned (.func (.func 81) #[] #[.pointer (some ⟨w.heap.size, 0, none⟩)]) ∧ w' = w.alloc (.cells #[.slice a n cp] 43) := by
  have hm : ∀ (fn : Fn) (first cap : Array Value) (w : World), (Instr.makeFunc fn first cap).run Tryz.prog w = .ok (.func fn first cap) w := fun _ _ _ _ => rfl
  go_enter Tryz.func60, Tryz.ntmps60
  go_wp2
  go_ret
  exact ⟨rfl, rfl⟩
end Go.Proofs.YtgjahejhpkbecaaGreatDoor
