/- slices.IndexFunc and slices.ContainsFunc, at each type of element that the program uses. -/
import Derived.Test.YtgjahejhpkbecaaGreatDoorProg
import Derived.Test.YtgjahejhpkbecaaGreatDoorBase
namespace Go.Proofs.YtgjahejhpkbecaaGreatDoor
open Go.RowKit

set_option maxRecDepth 20000 in
set_option maxHeartbeats 400000 in
theorem indexICycle (f : Nat) (cap : Array Value) (g : Nat → Bool) (xs : List Value) (a : Option Addr) (cp : Nat) (I : World → Prop) (w : World) (hI : I w)
    (hlen : xs.length ≤ 1000000000) (he : ∀ args w, (callFunc f args).run Tryz.prog w = .ok (.enter f args) w)
    (hx : LoadsI Tryz.prog 35 2 I a xs) (hf : LooksI Tryz.prog f cap I xs g) :
    Calls Tryz.prog 110 #[.slice a xs.length cp, .func (.func f) #[] cap] w fun e w' => e = .returned (.int .i64 (firstN g xs.length)) ∧ I w' := by
  go_enter Tryz.func110, Tryz.ntmps110
  go_wp2
  go_loopw [8] (fun i wr => ∃ k : Nat, k ≤ xs.length ∧ i = .int .i64 k ∧ Hid (∀ j, j < k → g j = false) ∧ I wr) (fun i _ => xs.length - (intOf i).toNat)
  case atStart => exact ⟨0, Nat.zero_le _, rfl, fun j hj => absurd hj (Nat.not_lt_zero _), hI⟩
  case round =>
    obtain ⟨k, hk, rfl, hno, hb⟩ := hrel
    by_cases hlt : k < xs.length
    · obtain ⟨x, hxk⟩ : ∃ x, xs[k]? = some x := ⟨_, List.getElem?_eq_getElem hlt⟩
      obtain ⟨b, off, rfl, hl⟩ := hx k x hxk
      have hl := hl wr hb
      try simp only [Nat.mul_one] at hl
      have HL := hid hl
      have HX := hid hxk
      clear hl hxk
      go_wp2_with (refine wpList_load_val rfl 35 (.tmp 14) rfl _ rfl x HL.out ?_)
      refine (hf k x HX.out hno.out wr hb).mono ?_
      rintro e w2 ⟨rfl, hb2⟩
      clear HL
      cases hp : g k
      · have Hp := hid (all_succ hno.out hp)
        clear hp
        go_wp2
        go_roundw
        case rel => exact ⟨k + 1, by omega, by go_num, Hp, hb2⟩
        case measure => simp [intOf]; omega
      · have e := hid (firstN_hit hlt hp hno.out)
        clear hp
        go_wp2
        go_ret
        exact ⟨by rw [e.out]; rfl, hb2⟩
    · obtain rfl : k = xs.length := by omega
      have e := hid (firstN_miss hno.out)
      go_wp2
      go_ret
      exact ⟨by rw [e.out]; rfl, hb⟩

theorem containsICycle (f : Nat) (cap : Array Value) (g : Nat → Bool) (xs : List Value) (a : Option Addr) (cp : Nat) (I : World → Prop) (w : World) (hI : I w)
    (hlen : xs.length ≤ 1000000000) (he : ∀ args w, (callFunc f args).run Tryz.prog w = .ok (.enter f args) w)
    (hx : LoadsI Tryz.prog 35 2 I a xs) (hf : LooksI Tryz.prog f cap I xs g) :
    Calls Tryz.prog 83 #[.slice a xs.length cp, .func (.func f) #[] cap] w fun e w' => e = .returned (.bool (anyN g xs.length)) ∧ I w' := by
  go_enter Tryz.func83, Tryz.ntmps83
  go_wp2_with (go_at_call 110; refine (indexICycle f cap g xs a cp I w hI hlen he hx hf).mono ?_; rintro e w' ⟨rfl, hb⟩)
  go_ret
  exact ⟨by rw [← firstN_any]; rfl, by assumption⟩

theorem containsCycle (f : Nat) (cap : Array Value) (g : Nat → Bool) (xs : List Value) (a : Option Addr) (cp : Nat) (w : World)
    (hlen : xs.length ≤ 1000000000) (he : ∀ args w, (callFunc f args).run Tryz.prog w = .ok (.enter f args) w)
    (hx : Elems Tryz.prog 35 2 w a xs) (hf : Looks Tryz.prog f cap w xs g) :
    Calls Tryz.prog 83 #[.slice a xs.length cp, .func (.func f) #[] cap] w fun e w' => e = .returned (.bool (anyN g xs.length)) ∧ Ext w w' :=
  containsICycle f cap g xs a cp (Ext w) w (Ext.refl w) hlen he (hx.loadsI fun _ h => h) hf.looksI
set_option maxRecDepth 20000 in
set_option maxHeartbeats 400000 in
theorem indexIDayTest (f : Nat) (cap : Array Value) (g : Nat → Bool) (xs : List Value) (a : Option Addr) (cp : Nat) (I : World → Prop) (w : World) (hI : I w)
    (hlen : xs.length ≤ 1000000000) (he : ∀ args w, (callFunc f args).run Tryz.prog w = .ok (.enter f args) w)
    (hx : LoadsI Tryz.prog 42 5 I a xs) (hf : LooksI Tryz.prog f cap I xs g) :
    Calls Tryz.prog 82 #[.slice a xs.length cp, .func (.func f) #[] cap] w fun e w' => e = .returned (.int .i64 (firstN g xs.length)) ∧ I w' := by
  go_enter Tryz.func82, Tryz.ntmps82
  go_wp2
  go_loopw [8] (fun i wr => ∃ k : Nat, k ≤ xs.length ∧ i = .int .i64 k ∧ Hid (∀ j, j < k → g j = false) ∧ I wr) (fun i _ => xs.length - (intOf i).toNat)
  case atStart => exact ⟨0, Nat.zero_le _, rfl, fun j hj => absurd hj (Nat.not_lt_zero _), hI⟩
  case round =>
    obtain ⟨k, hk, rfl, hno, hb⟩ := hrel
    by_cases hlt : k < xs.length
    · obtain ⟨x, hxk⟩ : ∃ x, xs[k]? = some x := ⟨_, List.getElem?_eq_getElem hlt⟩
      obtain ⟨b, off, rfl, hl⟩ := hx k x hxk
      have hl := hl wr hb
      try simp only [Nat.mul_one] at hl
      have HL := hid hl
      have HX := hid hxk
      clear hl hxk
      go_wp2_with (refine wpList_load_val rfl 42 (.tmp 14) rfl _ rfl x HL.out ?_)
      refine (hf k x HX.out hno.out wr hb).mono ?_
      rintro e w2 ⟨rfl, hb2⟩
      clear HL
      cases hp : g k
      · have Hp := hid (all_succ hno.out hp)
        clear hp
        go_wp2
        go_roundw
        case rel => exact ⟨k + 1, by omega, by go_num, Hp, hb2⟩
        case measure => simp [intOf]; omega
      · have e := hid (firstN_hit hlt hp hno.out)
        clear hp
        go_wp2
        go_ret
        exact ⟨by rw [e.out]; rfl, hb2⟩
    · obtain rfl : k = xs.length := by omega
      have e := hid (firstN_miss hno.out)
      go_wp2
      go_ret
      exact ⟨by rw [e.out]; rfl, hb⟩

theorem containsIDayTest (f : Nat) (cap : Array Value) (g : Nat → Bool) (xs : List Value) (a : Option Addr) (cp : Nat) (I : World → Prop) (w : World) (hI : I w)
    (hlen : xs.length ≤ 1000000000) (he : ∀ args w, (callFunc f args).run Tryz.prog w = .ok (.enter f args) w)
    (hx : LoadsI Tryz.prog 42 5 I a xs) (hf : LooksI Tryz.prog f cap I xs g) :
    Calls Tryz.prog 61 #[.slice a xs.length cp, .func (.func f) #[] cap] w fun e w' => e = .returned (.bool (anyN g xs.length)) ∧ I w' := by
  go_enter Tryz.func61, Tryz.ntmps61
  go_wp2_with (go_at_call 82; refine (indexIDayTest f cap g xs a cp I w hI hlen he hx hf).mono ?_; rintro e w' ⟨rfl, hb⟩)
  go_ret
  exact ⟨by rw [← firstN_any]; rfl, by assumption⟩

theorem containsDayTest (f : Nat) (cap : Array Value) (g : Nat → Bool) (xs : List Value) (a : Option Addr) (cp : Nat) (w : World)
    (hlen : xs.length ≤ 1000000000) (he : ∀ args w, (callFunc f args).run Tryz.prog w = .ok (.enter f args) w)
    (hx : Elems Tryz.prog 42 5 w a xs) (hf : Looks Tryz.prog f cap w xs g) :
    Calls Tryz.prog 61 #[.slice a xs.length cp, .func (.func f) #[] cap] w fun e w' => e = .returned (.bool (anyN g xs.length)) ∧ Ext w w' :=
  containsIDayTest f cap g xs a cp (Ext w) w (Ext.refl w) hlen he (hx.loadsI fun _ h => h) hf.looksI
set_option maxRecDepth 20000 in
set_option maxHeartbeats 400000 in
theorem indexIDayRule (f : Nat) (cap : Array Value) (g : Nat → Bool) (xs : List Value) (a : Option Addr) (cp : Nat) (I : World → Prop) (w : World) (hI : I w)
    (hlen : xs.length ≤ 1000000000) (he : ∀ args w, (callFunc f args).run Tryz.prog w = .ok (.enter f args) w)
    (hx : LoadsI Tryz.prog 38 2 I a xs) (hf : LooksI Tryz.prog f cap I xs g) :
    Calls Tryz.prog 86 #[.slice a xs.length cp, .func (.func f) #[] cap] w fun e w' => e = .returned (.int .i64 (firstN g xs.length)) ∧ I w' := by
  go_enter Tryz.func86, Tryz.ntmps86
  go_wp2
  go_loopw [8] (fun i wr => ∃ k : Nat, k ≤ xs.length ∧ i = .int .i64 k ∧ Hid (∀ j, j < k → g j = false) ∧ I wr) (fun i _ => xs.length - (intOf i).toNat)
  case atStart => exact ⟨0, Nat.zero_le _, rfl, fun j hj => absurd hj (Nat.not_lt_zero _), hI⟩
  case round =>
    obtain ⟨k, hk, rfl, hno, hb⟩ := hrel
    by_cases hlt : k < xs.length
    · obtain ⟨x, hxk⟩ : ∃ x, xs[k]? = some x := ⟨_, List.getElem?_eq_getElem hlt⟩
      obtain ⟨b, off, rfl, hl⟩ := hx k x hxk
      have hl := hl wr hb
      try simp only [Nat.mul_one] at hl
      have HL := hid hl
      have HX := hid hxk
      clear hl hxk
      go_wp2_with (refine wpList_load_val rfl 38 (.tmp 14) rfl _ rfl x HL.out ?_)
      refine (hf k x HX.out hno.out wr hb).mono ?_
      rintro e w2 ⟨rfl, hb2⟩
      clear HL
      cases hp : g k
      · have Hp := hid (all_succ hno.out hp)
        clear hp
        go_wp2
        go_roundw
        case rel => exact ⟨k + 1, by omega, by go_num, Hp, hb2⟩
        case measure => simp [intOf]; omega
      · have e := hid (firstN_hit hlt hp hno.out)
        clear hp
        go_wp2
        go_ret
        exact ⟨by rw [e.out]; rfl, hb2⟩
    · obtain rfl : k = xs.length := by omega
      have e := hid (firstN_miss hno.out)
      go_wp2
      go_ret
      exact ⟨by rw [e.out]; rfl, hb⟩

theorem containsIDayRule (f : Nat) (cap : Array Value) (g : Nat → Bool) (xs : List Value) (a : Option Addr) (cp : Nat) (I : World → Prop) (w : World) (hI : I w)
    (hlen : xs.length ≤ 1000000000) (he : ∀ args w, (callFunc f args).run Tryz.prog w = .ok (.enter f args) w)
    (hx : LoadsI Tryz.prog 38 2 I a xs) (hf : LooksI Tryz.prog f cap I xs g) :
    Calls Tryz.prog 67 #[.slice a xs.length cp, .func (.func f) #[] cap] w fun e w' => e = .returned (.bool (anyN g xs.length)) ∧ I w' := by
  go_enter Tryz.func67, Tryz.ntmps67
  go_wp2_with (go_at_call 86; refine (indexIDayRule f cap g xs a cp I w hI hlen he hx hf).mono ?_; rintro e w' ⟨rfl, hb⟩)
  go_ret
  exact ⟨by rw [← firstN_any]; rfl, by assumption⟩

theorem containsDayRule (f : Nat) (cap : Array Value) (g : Nat → Bool) (xs : List Value) (a : Option Addr) (cp : Nat) (w : World)
    (hlen : xs.length ≤ 1000000000) (he : ∀ args w, (callFunc f args).run Tryz.prog w = .ok (.enter f args) w)
    (hx : Elems Tryz.prog 38 2 w a xs) (hf : Looks Tryz.prog f cap w xs g) :
    Calls Tryz.prog 67 #[.slice a xs.length cp, .func (.func f) #[] cap] w fun e w' => e = .returned (.bool (anyN g xs.length)) ∧ Ext w w' :=
  containsIDayRule f cap g xs a cp (Ext w) w (Ext.refl w) hlen he (hx.loadsI fun _ h => h) hf.looksI
set_option maxRecDepth 20000 in
set_option maxHeartbeats 400000 in
theorem indexIRules (f : Nat) (cap : Array Value) (g : Nat → Bool) (xs : List Value) (a : Option Addr) (cp : Nat) (I : World → Prop) (w : World) (hI : I w)
    (hlen : xs.length ≤ 1000000000) (he : ∀ args w, (callFunc f args).run Tryz.prog w = .ok (.enter f args) w)
    (hx : LoadsI Tryz.prog 43 1 I a xs) (hf : LooksI Tryz.prog f cap I xs g) :
    Calls Tryz.prog 71 #[.slice a xs.length cp, .func (.func f) #[] cap] w fun e w' => e = .returned (.int .i64 (firstN g xs.length)) ∧ I w' := by
  go_enter Tryz.func71, Tryz.ntmps71
  go_wp2
  go_loopw [8] (fun i wr => ∃ k : Nat, k ≤ xs.length ∧ i = .int .i64 k ∧ Hid (∀ j, j < k → g j = false) ∧ I wr) (fun i _ => xs.length - (intOf i).toNat)
  case atStart => exact ⟨0, Nat.zero_le _, rfl, fun j hj => absurd hj (Nat.not_lt_zero _), hI⟩
  case round =>
    obtain ⟨k, hk, rfl, hno, hb⟩ := hrel
    by_cases hlt : k < xs.length
    · obtain ⟨x, hxk⟩ : ∃ x, xs[k]? = some x := ⟨_, List.getElem?_eq_getElem hlt⟩
      obtain ⟨b, off, rfl, hl⟩ := hx k x hxk
      have hl := hl wr hb
      try simp only [Nat.mul_one] at hl
      have HL := hid hl
      have HX := hid hxk
      clear hl hxk
      go_wp2_with (refine wpList_load_val rfl 43 (.tmp 14) rfl _ rfl x HL.out ?_)
      refine (hf k x HX.out hno.out wr hb).mono ?_
      rintro e w2 ⟨rfl, hb2⟩
      clear HL
      cases hp : g k
      · have Hp := hid (all_succ hno.out hp)
        clear hp
        go_wp2
        go_roundw
        case rel => exact ⟨k + 1, by omega, by go_num, Hp, hb2⟩
        case measure => simp [intOf]; omega
      · have e := hid (firstN_hit hlt hp hno.out)
        clear hp
        go_wp2
        go_ret
        exact ⟨by rw [e.out]; rfl, hb2⟩
    · obtain rfl : k = xs.length := by omega
      have e := hid (firstN_miss hno.out)
      go_wp2
      go_ret
      exact ⟨by rw [e.out]; rfl, hb⟩

theorem containsIRules (f : Nat) (cap : Array Value) (g : Nat → Bool) (xs : List Value) (a : Option Addr) (cp : Nat) (I : World → Prop) (w : World) (hI : I w)
    (hlen : xs.length ≤ 1000000000) (he : ∀ args w, (callFunc f args).run Tryz.prog w = .ok (.enter f args) w)
    (hx : LoadsI Tryz.prog 43 1 I a xs) (hf : LooksI Tryz.prog f cap I xs g) :
    Calls Tryz.prog 32 #[.slice a xs.length cp, .func (.func f) #[] cap] w fun e w' => e = .returned (.bool (anyN g xs.length)) ∧ I w' := by
  go_enter Tryz.func32, Tryz.ntmps32
  go_wp2_with (go_at_call 71; refine (indexIRules f cap g xs a cp I w hI hlen he hx hf).mono ?_; rintro e w' ⟨rfl, hb⟩)
  go_ret
  exact ⟨by rw [← firstN_any]; rfl, by assumption⟩

theorem containsRules (f : Nat) (cap : Array Value) (g : Nat → Bool) (xs : List Value) (a : Option Addr) (cp : Nat) (w : World)
    (hlen : xs.length ≤ 1000000000) (he : ∀ args w, (callFunc f args).run Tryz.prog w = .ok (.enter f args) w)
    (hx : Elems Tryz.prog 43 1 w a xs) (hf : Looks Tryz.prog f cap w xs g) :
    Calls Tryz.prog 32 #[.slice a xs.length cp, .func (.func f) #[] cap] w fun e w' => e = .returned (.bool (anyN g xs.length)) ∧ Ext w w' :=
  containsIRules f cap g xs a cp (Ext w) w (Ext.refl w) hlen he (hx.loadsI fun _ h => h) hf.looksI
set_option maxRecDepth 20000 in
set_option maxHeartbeats 400000 in
theorem indexIInt (f : Nat) (cap : Array Value) (g : Nat → Bool) (xs : List Value) (a : Option Addr) (cp : Nat) (I : World → Prop) (w : World) (hI : I w)
    (hlen : xs.length ≤ 1000000000) (he : ∀ args w, (callFunc f args).run Tryz.prog w = .ok (.enter f args) w)
    (hx : LoadsI Tryz.prog 3 1 I a xs) (hf : LooksI Tryz.prog f cap I xs g) :
    Calls Tryz.prog 63 #[.slice a xs.length cp, .func (.func f) #[] cap] w fun e w' => e = .returned (.int .i64 (firstN g xs.length)) ∧ I w' := by
  go_enter Tryz.func63, Tryz.ntmps63
  go_wp2
  go_loopw [8] (fun i wr => ∃ k : Nat, k ≤ xs.length ∧ i = .int .i64 k ∧ Hid (∀ j, j < k → g j = false) ∧ I wr) (fun i _ => xs.length - (intOf i).toNat)
  case atStart => exact ⟨0, Nat.zero_le _, rfl, fun j hj => absurd hj (Nat.not_lt_zero _), hI⟩
  case round =>
    obtain ⟨k, hk, rfl, hno, hb⟩ := hrel
    by_cases hlt : k < xs.length
    · obtain ⟨x, hxk⟩ : ∃ x, xs[k]? = some x := ⟨_, List.getElem?_eq_getElem hlt⟩
      obtain ⟨b, off, rfl, hl⟩ := hx k x hxk
      have hl := hl wr hb
      try simp only [Nat.mul_one] at hl
      have HL := hid hl
      have HX := hid hxk
      clear hl hxk
      go_wp2_with (refine wpList_load_val rfl 3 (.tmp 14) rfl _ rfl x HL.out ?_)
      refine (hf k x HX.out hno.out wr hb).mono ?_
      rintro e w2 ⟨rfl, hb2⟩
      clear HL
      cases hp : g k
      · have Hp := hid (all_succ hno.out hp)
        clear hp
        go_wp2
        go_roundw
        case rel => exact ⟨k + 1, by omega, by go_num, Hp, hb2⟩
        case measure => simp [intOf]; omega
      · have e := hid (firstN_hit hlt hp hno.out)
        clear hp
        go_wp2
        go_ret
        exact ⟨by rw [e.out]; rfl, hb2⟩
    · obtain rfl : k = xs.length := by omega
      have e := hid (firstN_miss hno.out)
      go_wp2
      go_ret
      exact ⟨by rw [e.out]; rfl, hb⟩

theorem containsIInt (f : Nat) (cap : Array Value) (g : Nat → Bool) (xs : List Value) (a : Option Addr) (cp : Nat) (I : World → Prop) (w : World) (hI : I w)
    (hlen : xs.length ≤ 1000000000) (he : ∀ args w, (callFunc f args).run Tryz.prog w = .ok (.enter f args) w)
    (hx : LoadsI Tryz.prog 3 1 I a xs) (hf : LooksI Tryz.prog f cap I xs g) :
    Calls Tryz.prog 25 #[.slice a xs.length cp, .func (.func f) #[] cap] w fun e w' => e = .returned (.bool (anyN g xs.length)) ∧ I w' := by
  go_enter Tryz.func25, Tryz.ntmps25
  go_wp2_with (go_at_call 63; refine (indexIInt f cap g xs a cp I w hI hlen he hx hf).mono ?_; rintro e w' ⟨rfl, hb⟩)
  go_ret
  exact ⟨by rw [← firstN_any]; rfl, by assumption⟩

theorem containsInt (f : Nat) (cap : Array Value) (g : Nat → Bool) (xs : List Value) (a : Option Addr) (cp : Nat) (w : World)
    (hlen : xs.length ≤ 1000000000) (he : ∀ args w, (callFunc f args).run Tryz.prog w = .ok (.enter f args) w)
    (hx : Elems Tryz.prog 3 1 w a xs) (hf : Looks Tryz.prog f cap w xs g) :
    Calls Tryz.prog 25 #[.slice a xs.length cp, .func (.func f) #[] cap] w fun e w' => e = .returned (.bool (anyN g xs.length)) ∧ Ext w w' :=
  containsIInt f cap g xs a cp (Ext w) w (Ext.refl w) hlen he (hx.loadsI fun _ h => h) hf.looksI

end Go.Proofs.YtgjahejhpkbecaaGreatDoor
