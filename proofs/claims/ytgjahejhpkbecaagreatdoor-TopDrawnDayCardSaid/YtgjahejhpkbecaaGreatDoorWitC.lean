/- Witness: a hash in digits. -/
import Derived.Test.YtgjahejhpkbecaaGreatDoorWitB
import Derived.Test.YtgjahejhpkbecaaGreatDoorShelf
namespace Go.Proofs.YtgjahejhpkbecaaGreatDoor
open Go.RowKit

theorem FormatUint_any (u : Nat) (hu : u < 18446744073709551616) (w : World) (ht : w.cell? ⟨5, 15, none⟩ = some (.int .u8 4))  :
    Calls Tryz.prog 75 #[.int .u64 u, .int .i64 16] w fun e w' => e = .returned (.string ⟨(hexL u).toArray⟩) ∧ Ext w w' := by
  have h1 : Calls Tryz.prog 92 #[.int .u64 u, .int .i64 16] w fun e w' => e = .returned (.string ⟨(hexL u).toArray⟩) ∧ Ext w w' := by
    have hc := hid (formatBits16 u hu w ht)
    go_enter Tryz.func92, Tryz.ntmps92
    go_wp2_with (go_at_call 117; refine hc.out.mono ?_; rintro e w' ⟨rfl, hb⟩)
    go_ret
    exact ⟨rfl, hb⟩
  have hc := hid h1
  clear h1
  go_enter Tryz.func75, Tryz.ntmps75
  go_wp2_with (go_at_call 92; refine hc.out.mono ?_; rintro e w' ⟨rfl, hb⟩)
  go_ret
  exact ⟨rfl, hb⟩

theorem hexL_length : ∀ (k n : Nat), n < 16 ^ (k + 1) → 1 ≤ (hexL n).length ∧ (hexL n).length ≤ k + 1 := by
  intro k
  induction k with
  | zero => intro n h; rw [hexL_lt (by simpa using h)]; simp
  | succ k ih =>
    intro n h
    by_cases h16 : n < 16
    · rw [hexL_lt h16]; simp
    · have := ih (n / 16) (by rw [Nat.div_lt_iff_lt_mul (by omega)]; rwa [Nat.pow_succ] at h)
      rw [hexL_ge (by omega)]
      simp; omega

theorem bytes_append (a b : List UInt8) : (⟨a.toArray⟩ : ByteArray) ++ ⟨b.toArray⟩ = ⟨(a ++ b).toArray⟩ := by
  apply ByteArray.ext; simp
/-- a hash in sixteen digits -/
def hashL (h : Nat) : List UInt8 := Lib.repeatL [48] (16 - (hexL h).length) ++ hexL h
set_option maxRecDepth 20000 in
theorem String_any (h : Nat) (hh : h < 18446744073709551616) (w : World) (ht : w.cell? ⟨5, 15, none⟩ = some (.int .u8 4))  :
    Calls Tryz.prog 40 #[.int .u64 h] w fun e w' => e = .returned (.string ⟨(hashL h).toArray⟩) ∧ Ext w w' := by
  have hc := hid (FormatUint_any h hh w ht)
  have hl := hexL_length 15 h (by simpa using hh)
  obtain ⟨d, hd⟩ : ∃ d, 16 - (hexL h).length = d := ⟨_, rfl⟩
  obtain ⟨S, hS⟩ : ∃ S : ByteArray, S = ⟨(hexL h).toArray⟩ := ⟨_, rfl⟩
  have hSs : S.size = (hexL h).length := by rw [hS]; exact size_of_list _
  have hs : 16 - (S.size : Int) = d := by omega
  obtain ⟨R, hR⟩ : ∃ R, R = Lib.repeatL [48] d := ⟨_, rfl⟩
  have hRl : R.length = d := by rw [hR, Lib.repeatL_length]; simp
  have hsum : ¬ 9223372036854775807 < R.length + S.size := by omega
  rw [← hS] at hc
  have HS := hid hS
  clear hS hSs
  have hr : hashL h = Lib.repeatL [48] d ++ hexL h := by rw [hashL, hd]
  have hrp := (fun w' => Tryz.strings_Repeat ⟨#[48]⟩ d w' (by omega) (by show 1 * d ≤ _; omega))
  have hrp' : ∀ w', Calls Tryz.prog 76 #[.string ⟨#[48]⟩, .int .i64 d] w' fun e w'' => e = .returned (.string ⟨R.toArray⟩) ∧ Below w'.heap.size w' w'' := by rw [hR]; exact hrp
  have hrep := hid hrp'
  rw [hr, ← hR]
  clear hrp hrp' hR
  clear hr hd hl
  go_enter Tryz.func40, Tryz.ntmps40
  go_wp2_with (first | (go_at_call 75; refine hc.out.mono ?_; rintro e w1 ⟨rfl, hb⟩) | (go_at_call 76; refine (hrep.out _).mono ?_; rintro e w2 ⟨rfl, hb2⟩))
  go_ret
  refine ⟨?_, hb.trans hb2⟩
  rw [HS.out]
  exact congrArg (fun s => Ending.returned (.string s)) (bytes_append _ _)

set_option maxRecDepth 20000 in
theorem number_any (n : Nat) (hn : n < 100) (w : World) : Calls Tryz.prog 37 #[.int .i64 n] w fun e w' => e = .returned (.string ⟨(Lib.decDigits n).toArray⟩) ∧ w = w' := by
  go_enter Tryz.func37, Tryz.ntmps37
  go_wp2_with (go_at_call 73; refine (Tryz.strconv_Itoa_small n hn _).mono ?_; rintro e w' ⟨rfl, rfl⟩)
  go_ret
  exact ⟨rfl, rfl⟩
end Go.Proofs.YtgjahejhpkbecaaGreatDoor
