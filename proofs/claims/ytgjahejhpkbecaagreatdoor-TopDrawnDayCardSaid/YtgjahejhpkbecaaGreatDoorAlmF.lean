/- Almanacs, continued: a new look. -/
import Derived.Test.YtgjahejhpkbecaaGreatDoorAlmE
import Derived.Test.YtgjahejhpkbecaaGreatDoorMapA
import Derived.Test.YtgjahejhpkbecaaGreatDoorRange
namespace Go.Proofs.YtgjahejhpkbecaaGreatDoor
open Go.RowKit

/-- dates, as the program reckons them -/
def lcmF : List Int → Int → Option Int
  | [], all => some all
  | n :: l, all => if n = 0 then none else lcmF l (all * (n / (Int.gcd n all : Int)))
def multF (year : Int) (l : List Int) : Int := match lcmF l 1 with | none => 0 | some all => (year + all - 1) / all
def begF (s : Sol) (y : Int) : Int := 365 * y + multF y [s.every] - multF y [s.every, s.but] + multF y [s.every, s.but, s.unl]
def monthF (s : Sol) (y : Int) : List Int := [31, 28 + (begF s (y + 1) - begF s y - 365), 31, 30, 31, 30, 31, 31, 30, 31, 30, 31]
def searchF (f : Nat → Bool) (i j : Nat) : Nat := if i < j then (if f ((i + j) / 2) then searchF f i ((i + j) / 2) else searchF f ((i + j) / 2 + 1) j) else i
  termination_by j - i
def dateF : List Int → Int → Int → Int × Int
  | [], m, d => (m, d)
  | n :: l, m, d => if d ≤ n then (m, d) else dateF l (m + 1) (d - n)
def yearF (s : Sol) (day : Int) : Nat := searchF (fun y => decide (day < begF s (y + 1))) 0 2740
def solarF (s : Sol) (day : Int) : Int × Int × Int := (yearF s day, dateF (monthF s (yearF s day)) 1 (day - begF s (yearF s day) + 1))
def atF (by_ per start n : Int) : Int := (by_ * n + start) / per
def turnsF (by_ per start place : Int) : Int := ((place + 1) * per - 1 - start) / by_
def moonM (r : Lun) (day : Int) : Int := turnsF r.days r.per r.phase day
def moonY (r : Lun) (day : Int) : Int := turnsF r.months r.years r.shift (moonM r day)
def moonN (r : Lun) (day : Int) : Int := moonM r day - atF r.months r.years r.shift (moonY r day) + 1
def moonD (r : Lun) (day : Int) : Int := day - atF r.days r.per r.phase (moonM r day) + 1
def moonL (r : Lun) (day : Int) : Bool := (atF r.months r.years r.shift (moonY r day + 1) - atF r.months r.years r.shift (moonY r day) == 13) && decide (r.leap < moonN r day)
def lunarF (r : Lun) (day : Int) : Int × Int × Int × Bool :=
  if moonL r day then (moonY r day, moonN r day - 1, moonD r day, moonN r day == r.leap + 1) else (moonY r day, moonN r day, moonD r day, false)
/-- bit n of a set -/
def bitB (set n : Int) : Bool := bits .and .u64 (set / 2 ^ n.toNat) 1 == 1
/-- does a test hold on a day? -/
def holdsT (A : Alm) (day : Int) (t : DT) : Bool :=
  if t.kind = 1 then cycHolds A day t
  else if t.kind = 2 then bitB t.set (solarF A.sol day).2.1
  else if t.kind = 3 then bitB t.set (solarF A.sol day).2.2
  else if t.kind = 4 then bitB t.set (lunarF A.lun day).2.1
  else if t.kind = 5 then bitB t.set (lunarF A.lun day).2.2.1
  else if t.kind = 6 then (lunarF A.lun day).2.2.2
  else withinB day t.frm t.to
/-- the dates that a look has found -/
def SunAt (w : World) (A : Alm) (day : Int) (p : Option Addr) : Prop :=
  p = none ∨ ∃ b, p = some ⟨b, 0, none⟩ ∧ w.heap[b]? = some (.cells #[.int .i64 (solarF A.sol day).1, .int .i64 (solarF A.sol day).2.1, .int .i64 (solarF A.sol day).2.2] 123)
def MoonAt (w : World) (A : Alm) (day : Int) (p : Option Addr) : Prop :=
  p = none ∨ ∃ b, p = some ⟨b, 0, none⟩ ∧ w.heap[b]? = some (.cells #[.int .i64 (lunarF A.lun day).1, .int .i64 (lunarF A.lun day).2.1, .int .i64 (lunarF A.lun day).2.2.1, .bool (lunarF A.lun day).2.2.2] 126)

def testsMap (fb : Nat) : Array MapEntry :=
  #[⟨.int .i64 1, .func (.func 50) #[] #[.pointer (some ⟨fb, 0, none⟩)], 0⟩, ⟨.int .i64 2, .func (.func 52) #[] #[.pointer (some ⟨fb, 0, none⟩)], 1⟩,
    ⟨.int .i64 3, .func (.func 54) #[] #[.pointer (some ⟨fb, 0, none⟩)], 2⟩, ⟨.int .i64 4, .func (.func 55) #[] #[.pointer (some ⟨fb, 0, none⟩)], 3⟩,
    ⟨.int .i64 5, .func (.func 57) #[] #[.pointer (some ⟨fb, 0, none⟩)], 4⟩, ⟨.int .i64 6, .func (.func 58) #[] #[], 5⟩, ⟨.int .i64 7, .func (.func 59) #[] #[], 6⟩]
/-- what a look leans on -/
structure Leans (w : World) (A : Alm) (day : Int) (ab fb tb : Nat) (sun moon : Option Addr) : Prop where
  alm : AlmBox w A ab
  fn : w.heap[fb]? = some (.cells #[.func (.func 49) #[] #[]] 113)
  map : w.heap[tb]? = some (.map (testsMap fb) 7)
  sun : SunAt w A day sun
  moon : MoonAt w A day moon
theorem Leans.later {w w' : World} {A : Alm} {day : Int} {ab fb tb : Nat} {sun moon : Option Addr} (h : Leans w A day ab fb tb sun moon) (he : Ext w w') : Leans w' A day ab fb tb sun moon :=
  ⟨h.alm.later he, he.blk' h.fn, he.blk' h.map, h.sun.imp id (fun ⟨b, hb, hw⟩ => ⟨b, hb, he.blk' hw⟩), h.moon.imp id (fun ⟨b, hb, hw⟩ => ⟨b, hb, he.blk' hw⟩)⟩
def lookCells (ab tb : Nat) (day : Int) (sun moon : Option Addr) : Array Value := #[.pointer (some ⟨ab, 0, none⟩), .int .i64 day, .pointer sun, .pointer moon, .map (some tb)]
/-- a look for an almanac, at a day, lies in block l; what it leans on stays, whatever becomes of that block -/
structure Ids where
  ab : Nat
  fb : Nat
  tb : Nat
def LookAt (Z : Nat → Prop) (w : World) (l : Nat) (A : Alm) (day : Int) (q : Ids) : Prop :=
  ∃ sun moon, w.heap[l]? = some (.cells (lookCells q.ab q.tb day sun moon) 120) ∧ Stab (fun k => k = l ∨ Z k) w (fun w' => Leans w' A day q.ab q.fb q.tb sun moon)

theorem LookAt.ext {Z : Nat → Prop} {w w' : World} {l : Nat} {A : Alm} {day : Int} {q : Ids} (h : LookAt Z w l A day q) (hb : Ext w w') : LookAt Z w' l A day q := by
  obtain ⟨sun, moon, hl, hs⟩ := h
  exact ⟨sun, moon, hb.blk' hl, hs.later (Keep.of_ext hb)⟩
theorem LookAt.keep {Z : Nat → Prop} {w w' : World} {l : Nat} {A : Alm} {day : Int} {q : Ids} (h : LookAt Z w l A day q) (hz : w'.heap[l]? = w.heap[l]?) (hb : Keep Z w w') : LookAt Z w' l A day q := by
  obtain ⟨sun, moon, hl, hs⟩ := h
  exact ⟨sun, moon, hz.trans hl, hs.later (hb.mono fun _ _ h => .inr h)⟩
theorem LookAt.lt {Z : Nat → Prop} {w : World} {l : Nat} {A : Alm} {day : Int} {q : Ids} (h : LookAt Z w l A day q) : l < w.heap.size := by
  obtain ⟨_, _, hl, _⟩ := h; exact lt_of_block hl
theorem LookAt.mono {Y Z : Nat → Prop} {w : World} {l : Nat} {A : Alm} {day : Int} {q : Ids} (h : LookAt Z w l A day q) (hyz : ∀ k, k < w.heap.size → Y k → Z k) : LookAt Y w l A day q := by
  obtain ⟨sun, moon, hl, hs⟩ := h
  exact ⟨sun, moon, hl, fun w' hk => hs w' (hk.mono fun k hk' h => h.imp id (hyz k hk'))⟩
theorem LookAt.grow {Y Z : Nat → Prop} {w w' : World} {l : Nat} {A : Alm} {day : Int} {q : Ids} (h : LookAt Z w l A day q) (hb : Ext w w') (hyz : ∀ k, k < w.heap.size → Y k → Z k) : LookAt Y w' l A day q := by
  obtain ⟨sun, moon, hl, hs⟩ := h
  exact ⟨sun, moon, hb.blk' hl, fun w'' hk => hs w'' (hb.keep hk fun k hk' h => h.imp id (hyz k hk'))⟩
/-- a look before it looks at a day: what dates it holds does not matter -/
structure Leans0 (w : World) (A : Alm) (ab fb tb : Nat) : Prop where
  alm : AlmBox w A ab
  fn : w.heap[fb]? = some (.cells #[.func (.func 49) #[] #[]] 113)
  map : w.heap[tb]? = some (.map (testsMap fb) 7)
def LookAt0 (Z : Nat → Prop) (w : World) (l : Nat) (A : Alm) (q : Ids) : Prop :=
  ∃ day sun moon, w.heap[l]? = some (.cells (lookCells q.ab q.tb day sun moon) 120) ∧ Stab (fun k => k = l ∨ Z k) w (fun w' => Leans0 w' A q.ab q.fb q.tb)
theorem LookAt.zero {Z : Nat → Prop} {w : World} {l : Nat} {A : Alm} {day : Int} {q : Ids} (h : LookAt Z w l A day q) : LookAt0 Z w l A q := by
  obtain ⟨sun, moon, hl, hs⟩ := h
  exact ⟨day, sun, moon, hl, fun w' hk => ⟨(hs w' hk).alm, (hs w' hk).fn, (hs w' hk).map⟩⟩
theorem LookAt0.lt {Z : Nat → Prop} {w : World} {l : Nat} {A : Alm} {q : Ids} (h : LookAt0 Z w l A q) : l < w.heap.size := by
  obtain ⟨_, _, _, hl, _⟩ := h; exact lt_of_block hl
theorem LookAt0.mono {Y Z : Nat → Prop} {w : World} {l : Nat} {A : Alm} {q : Ids} (h : LookAt0 Z w l A q) (hyz : ∀ k, k < w.heap.size → Y k → Z k) : LookAt0 Y w l A q := by
  obtain ⟨day, sun, moon, hl, hs⟩ := h
  exact ⟨day, sun, moon, hl, fun w' hk => hs w' (hk.mono fun k hk' h => h.imp id (hyz k hk'))⟩
/-- after a day has been looked at -/
theorem LookAt0.after {Y Z : Nat → Prop} {w w' : World} {l : Nat} {A : Alm} {day : Int} {q : Ids} (h : LookAt0 Z w l A q) (hk : Keep (· = l) w w') (h' : LookAt Y w' l A day q) : LookAt0 Z w' l A q := by
  obtain ⟨_, _, _, _, hs⟩ := h
  obtain ⟨sun, moon, hl, _⟩ := h'
  exact ⟨day, sun, moon, hl, hs.later (hk.mono fun _ _ h => .inl h)⟩
theorem LookAt0.keep {Z : Nat → Prop} {w w' : World} {l : Nat} {A : Alm} {q : Ids} (h : LookAt0 Z w l A q) (hb : Keep Z w w') (hz : ¬ Z l) : LookAt0 Z w' l A q := by
  obtain ⟨day, sun, moon, hl, hs⟩ := h
  exact ⟨day, sun, moon, hb.blk hl hz, hs.later (hb.mono fun _ _ h => .inr h)⟩
/-- a look that more blocks do not touch -/
theorem LookAt.join {Y Z : Nat → Prop} {w : World} {l : Nat} {A : Alm} {day : Int} {q : Ids} (h : Stab Z w fun w' => LookAt Y w' l A day q) (hz : ¬ Z l) : LookAt (fun k => Y k ∨ Z k) w l A day q := by
  obtain ⟨sun, moon, hl, hs⟩ := h.now
  refine ⟨sun, moon, hl, fun w' hk => ?_⟩
  have : Stab Z w fun w' => Stab (fun k => k = l ∨ Y k) w' fun w' => Leans w' A day q.ab q.fb q.tb sun moon := fun w' hk => by
    obtain ⟨sun', moon', hl', hs'⟩ := h w' hk
    have e := hl'.symm.trans (hk.blk hl hz)
    simp only [lookCells, Option.some.injEq, Obj.cells.injEq, Array.mk.injEq, List.cons.injEq, Value.pointer.injEq] at e
    obtain ⟨⟨_, _, rfl, rfl, _⟩, _⟩ := e
    exact hs'
  exact this.join w' (hk.mono fun k _ h => by rcases h with h | h | h; exact .inl (.inl h); exact .inl (.inr h); exact .inr h)
theorem LookAt.split {Y Z : Nat → Prop} {w : World} {l : Nat} {A : Alm} {day : Int} {q : Ids} (h : LookAt (fun k => Y k ∨ Z k) w l A day q) (hz : ¬ Z l) : Stab Z w fun w' => LookAt Y w' l A day q := by
  obtain ⟨sun, moon, hl, hs⟩ := h
  exact fun w' hk => ⟨sun, moon, hk.blk hl hz, fun w'' hk' => hs w'' ((hk.mono fun _ _ h => .inr (.inr h)).trans (hk'.mono fun _ _ h => h.imp id .inl))⟩

set_option maxRecDepth 20000 in
set_option maxHeartbeats 400000 in
theorem newLook_any (A : Alm) (a : Option Addr) (cp : Nat) (w : World) (Z : Nat → Prop) (hZ : ∀ k, Z k → k < w.heap.size) (ha : Stab Z w fun w' => AlmAt w' A a) :
    Calls Tryz.prog 22 #[A.val a cp] w fun e w' => ∃ l q, e = .returned (.pointer (some ⟨l, 0, none⟩)) ∧ w.heap.size ≤ l ∧ l < w'.heap.size ∧ LookAt Z w' l A 0 q ∧ Ext w w' := by
  have hfin : ∀ (o1 o2 o3 : Obj) (w1 w3 : World), o1 = .cells (A.cells a cp) 32 → o2 = .cells #[.func (.func 49) #[] #[]] 113 → o3 = .map (testsMap (w.heap.size + 1)) 7 →
      w1 = ((w.alloc o1).alloc o2).alloc o3 → w3 = w1.alloc (.cells (lookCells w.heap.size (w.heap.size + 1 + 1) 0 none none) 120) → LookAt Z w3 (w.heap.size + 1 + 1 + 1) A 0 ⟨w.heap.size, w.heap.size + 1, w.heap.size + 1 + 1⟩ ∧ Ext w w3 := by
    rintro o1 o2 o3 w1 w3 rfl rfl rfl h1 h3
    have e1 : Ext w w1 := by rw [h1]; exact (((Ext.refl w).alloc _).alloc _).alloc _
    have e3 : Ext w1 w3 := by rw [h3]; exact (Ext.refl w1).alloc _
    have s1 : w1.heap.size = w.heap.size + 1 + 1 + 1 := by rw [h1]; simp
    have b1 : w1.heap[w.heap.size]? = some (.cells (A.cells a cp) 32) := by
      rw [h1]; exact Ext.blk' (((Ext.refl _).alloc _).alloc _) (heap_alloc_new w _)
    have b2 : w1.heap[w.heap.size + 1]? = some (.cells #[.func (.func 49) #[] #[]] 113) := by
      rw [h1]; refine Ext.blk' ((Ext.refl _).alloc _) ?_
      have := heap_alloc_new (w.alloc (.cells (A.cells a cp) 32)) (.cells #[.func (.func 49) #[] #[]] 113)
      simpa using this
    have b3 : w1.heap[w.heap.size + 1 + 1]? = some (.map (testsMap (w.heap.size + 1)) 7) := by
      rw [h1]
      have := heap_alloc_new ((w.alloc (.cells (A.cells a cp) 32)).alloc (.cells #[.func (.func 49) #[] #[]] 113)) (.map (testsMap (w.heap.size + 1)) 7)
      simpa using this
    refine ⟨⟨none, none, ?_, fun w' hk => ?_⟩, e1.trans e3⟩
    · rw [h3, ← s1]; exact heap_alloc_new w1 _
    · have hn : ∀ k, k < w1.heap.size → w.heap.size ≤ k → ¬ (k = w.heap.size + 1 + 1 + 1 ∨ Z k) := by
        rintro k h1 h2 (h | h)
        · omega
        · have := hZ k h; omega
      have hb : ∀ (k : Nat) (o : Obj), w.heap.size ≤ k → w1.heap[k]? = some o → w'.heap[k]? = some o := fun k o h1 h2 => hk.blk (e3.blk' h2) (hn k (lt_of_block h2) h1)
      exact ⟨⟨a, cp, ha w' ((e1.trans e3).keep hk (fun k h1 h2 => h2.resolve_left (by omega))), hb _ _ (by dsimp only; omega) b1⟩, hb _ _ (by dsimp only; omega) b2, hb _ _ (by dsimp only; omega) b3, .inl rfl, .inl rfl⟩
  obtain ⟨cs, ⟨s1, s2, s3⟩, ⟨l1, l2, l3, l4, l5, l6, l7⟩⟩ := A
  simp only [Alm.cells, lookCells, testsMap] at hfin
  have HF := hid hfin
  unfold Alm.val
  clear hfin ha hZ
  have hmm := @run_makeMap Tryz.prog
  have hm : ∀ (fn : Fn) (first cap : Array Value) (w : World), (Instr.makeFunc fn first cap).run Tryz.prog w = .ok (.func fn first cap) w := fun _ _ _ _ => rfl
  have hup := hid (fun (W : World) (es : Array MapEntry) (c r : Nat) (n : Int) (v : Value) => run_insert_new (P := Tryz.prog) Tryz.underlying118 Tryz.underlying39 W es c r n v)
  go_enter Tryz.func22, Tryz.ntmps22
  go_wp2_with (refine wpList_insert_val rfl 118 _ _ _ rfl (hup.out _ _ _ _ _ _ (by simp) rfl) ?_)
  go_ret
  obtain ⟨hL, hE⟩ := HF.out _ _ _ _ _ rfl rfl rfl rfl rfl
  exact ⟨w.heap.size + 1 + 1 + 1, _, rfl, by omega, by simp, hL, hE⟩
end Go.Proofs.YtgjahejhpkbecaaGreatDoor
