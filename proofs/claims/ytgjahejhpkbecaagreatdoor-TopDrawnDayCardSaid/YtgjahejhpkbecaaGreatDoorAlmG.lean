/- Almanacs, continued: a look in use: the tests of a rule, one after another; which rule decides. -/
import Derived.Test.YtgjahejhpkbecaaGreatDoorAlmF
import Derived.Test.YtgjahejhpkbecaaGreatDoorBlk
namespace Go.Proofs.YtgjahejhpkbecaaGreatDoor
open Go.RowKit

theorem at_any (Z : Nat → Prop) (w : World) (l : Nat) (A : Alm) (day : Int) (q : Ids) (h : LookAt0 Z w l A q) :
    Calls Tryz.prog 23 #[.pointer (some ⟨l, 0, none⟩), .int .i64 day] w fun e w' => e = .returned (.pointer (some ⟨l, 0, none⟩)) ∧ LookAt Z w' l A day q ∧ Keep (· = l) w w' := by
  obtain ⟨d, sun, moon, hl, hs⟩ := h
  have hk := cellsOf hl
  have hf := frozenOf hl
  have hls := lt_of_block hl
  have hfin : ∀ w', w' = ((w.setCell ⟨l, 1, none⟩ (.int .i64 day)).setCell ⟨l, 2, none⟩ (.pointer none)).setCell ⟨l, 3, none⟩ (.pointer none) → LookAt Z w' l A day q ∧ Keep (· = l) w w' := by
    rintro w' rfl
    have hK : Keep (· = l) w (((w.setCell ⟨l, 1, none⟩ (.int .i64 day)).setCell ⟨l, 2, none⟩ (.pointer none)).setCell ⟨l, 3, none⟩ (.pointer none)) :=
      keep_set (keep_set (keep_set (Keep.refl _ w) _ _) _ _) _ _
    refine ⟨⟨none, none, ?_, fun w'' k => ?_⟩, hK⟩
    · exact set_blk (set_blk (set_blk hl _ _) _ _) _ _
    · have := hs w'' ((hK.mono fun _ _ h => .inl h).trans k)
      exact ⟨this.alm, this.fn, this.map, .inl rfl, .inl rfl⟩
  have HF := hid hfin
  clear hfin hl hs
  simp only [lookCells] at hk
  go_enter Tryz.func23, Tryz.ntmps23
  go_wp2
  go_ret
  exact ⟨rfl, HF.out _ rfl⟩

/-- what the closure for a test does -/
def TestRuns (A : Alm) (t : DT) : Prop :=
  ∀ (Z : Nat → Prop) (w : World) (l : Nat) (day : Int) (q : Ids), (∀ k, Z k → k < w.heap.size) → LookAt Z w l A day q → 0 ≤ day ∧ day ≤ 1000000 → ∃ i fn cap, Instr.findNow (.int .i64) (.int .i64 t.kind) (testsMap q.fb).toList 0 = some (some (i, .func (.func fn) #[] cap)) ∧
    (∀ args w, (callFunc fn args).run Tryz.prog w = .ok (.enter fn args) w) ∧
    Calls Tryz.prog fn (#[.pointer (some ⟨l, 0, none⟩), t.enc] ++ cap) w fun e w' => e = .returned (.bool (holdsT A day t)) ∧ LookAt Z w' l A day q ∧ Keep (· = l) w w'

theorem TestRuns.cycle {A : Alm} {t : DT} (hok : A.ok = true) (ht : t.ok A = true) (hk : t.kind = 1) : TestRuns A t := by
  intro Z w l day q hZ h hd
  refine ⟨0, 50, #[.pointer (some ⟨q.fb, 0, none⟩)], by rw [hk]; rfl, enters Tryz.func50 (by kernel_rfl) rfl, ?_⟩
  obtain ⟨sun, moon, hl, hs⟩ := id h
  have hn := hs.now
  refine (newLook2_any A l q.ab q.fb day sun moon q.tb t w hl hn.alm hn.fn hok ht hk hd).mono fun e w' ⟨he, hb⟩ => ⟨by rw [he]; simp [holdsT, hk], ⟨sun, moon, hb.blk' hl, hs.later (Keep.of_ext hb)⟩, Keep.of_ext hb⟩

set_option maxHeartbeats 1000000 in
theorem decides1_any (Z : Nat → Prop) (w : World) (l : Nat) (A : Alm) (day : Int) (q : Ids) (lb : Nat) (t : DT) (h : LookAt Z w l A day q) (hlb : w.heap[lb]? = some (.cells #[.pointer (some ⟨l, 0, none⟩)] 76)) (hne : lb ≠ l) (hZ : ∀ k, Z k → k < w.heap.size)
    (hd : 0 ≤ day ∧ day ≤ 1000000) (ht : TestRuns A t) :
    Calls Tryz.prog 62 #[t.enc, .pointer (some ⟨lb, 0, none⟩)] w fun e w' => e = .returned (.bool (!holdsT A day t)) ∧ LookAt Z w' l A day q ∧ Keep (· = l) w w' := by
  have hls : lb < w.heap.size := lt_of_block hlb
  obtain ⟨W, hW⟩ : ∃ W, W = w.alloc (.cells #[.int .i64 t.kind, .int .i64 t.which, .int .u64 t.set, .int .i64 t.frm, .int .i64 t.to] 42) := ⟨_, rfl⟩
  have hE : Ext w W := by rw [hW]; exact (Ext.refl w).alloc _
  have hlW : l < w.heap.size := by obtain ⟨_, _, hl, _⟩ := h; exact lt_of_block hl
  obtain ⟨I, hI⟩ : ∃ I : World → Prop, I = fun w' => LookAt Z w' l A day q ∧ Keep (· = l) W w' := ⟨_, rfl⟩
  have hI0 : I W.drew := by rw [hI]; exact ⟨h.ext hE.drew, (Keep.refl _ W).drew⟩
  have inst : Inhabited (RgI I) := ⟨⟨_, hI0⟩⟩
  have hIe : ∀ w', I w' → LookAt Z w' l A day q ∧ Keep (· = l) W w' := by rw [hI]; exact fun _ h => h
  have hIi : ∀ w', LookAt Z w' l A day q ∧ Keep (· = l) W w' → I w' := by rw [hI]; exact fun _ h => h
  clear hI
  have q0 : ∀ (p : RgI I) (o : Nat), p.w'.cell? ⟨w.heap.size, o, none⟩ = #[Value.int .i64 t.kind, .int .i64 t.which, .int .u64 t.set, .int .i64 t.frm, .int .i64 t.to][o]? := fun p =>
    cellsOf ((hIe _ p.h).2.blk (by rw [hW]; exact heap_alloc_new w _) (by omega))
  have q1 : ∀ (p : RgI I) (o : Nat), p.w'.cell? ⟨lb, o, none⟩ = #[Value.pointer (some ⟨l, 0, none⟩)][o]? := fun p => cellsOf ((hIe _ p.h).2.blk (hE.blk' hlb) hne)
  have q2 : ∀ (p : RgI I), p.w'.cell? ⟨l, 4, none⟩ = some (.map (some q.tb)) := fun p => by
    obtain ⟨sun, moon, hl, _⟩ := (hIe _ p.h).1
    rw [cellsOf hl]; rfl
  obtain ⟨i, fn, cap, hfind, hen, _⟩ := ht Z w l day q hZ h hd
  have q3 : ∀ (p : RgI I), (Instr.lookup 118 (.map (some q.tb)) (.int .i64 t.kind) false).run Tryz.prog p.w' = .ok (.func (.func fn) #[] cap) p.w' := fun p => by
    obtain ⟨sun, moon, hl, hs⟩ := (hIe _ p.h).1
    exact run_lookup_of Tryz.underlying118 Tryz.underlying39 hs.now.map _ i _ hfind
  have c1 := hid (fun (p : RgI I) => Calls.rgI (p := p) (v := .bool (holdsT A day t)) (f := fn) (args := #[.pointer (some ⟨l, 0, none⟩), t.enc] ++ cap) (by
    obtain ⟨i', fn', cap', hfind', _, hc⟩ := ht Z p.w' l day q (fun k hk => Nat.lt_of_lt_of_le (hZ k hk) (Nat.le_trans hE.size (hIe _ p.h).2.size)) (hIe _ p.h).1 hd
    rw [hfind] at hfind'
    cases hfind'
    exact hc.mono fun e w' ⟨he, hl, hk⟩ => ⟨he, hIi _ ⟨hl, (hIe _ p.h).2.trans hk⟩⟩))
  have HI := hid hIe
  have HE := hid hE
  have HL := hid hlW
  obtain ⟨kind, which, set, frm, to⟩ := t
  have HB := hid hI0
  simp only [DT.enc] at c1
  clear h hlb ht hIe hIi hfind hE hlW hls hne hI0 hZ
  go_enter Tryz.func62, Tryz.ntmps62
  unfold DT.enc
  go_wp2
  rw [← hW]
  clear hW
  refine wp_region_I I HB.out (by kernel_rfl) (by kernel_rfl) ?_
  repeat (go_big_quiet_step (exact c1.out _))
  refine wpQuiet_nil ?_
  intro p
  go_wp2
  go_ret
  have h1 := HI.out _ p.h
  exact ⟨rfl, h1.1, (Keep.of_ext HE.out).trans h1.2⟩
end Go.Proofs.YtgjahejhpkbecaaGreatDoor
