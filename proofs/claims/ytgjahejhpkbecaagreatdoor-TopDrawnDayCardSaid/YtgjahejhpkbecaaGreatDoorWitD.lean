/- Witness: salts, hashes, boxes; a box is sealed. -/
import Derived.Test.YtgjahejhpkbecaaGreatDoorWitC
import Derived.Shelf.Strings.SlTrimAscii
namespace Go.Proofs.YtgjahejhpkbecaaGreatDoor
open Go.RowKit

theorem wwithin (n l m : Int) (w : World) (h : l ≤ n ∧ n ≤ m) : Calls Tryz.prog 35 #[.int .i64 n, .int .i64 l, .int .i64 m] w fun e w' => e = .returned (.bool true) ∧ w = w' := by
  obtain ⟨h1, h2⟩ := h
  go_enter Tryz.func35, Tryz.ntmps35
  go_wp2
  go_ret
  exact ⟨rfl, rfl⟩

def hexCs : List UInt8 := [48, 49, 50, 51, 52, 53, 54, 55, 56, 57, 97, 98, 99, 100, 101, 102]
def saltCs : List UInt8 := [97, 98, 99, 100, 101, 102, 103, 104, 105, 106, 107, 108, 109, 110, 111, 112, 113, 114, 115, 116, 117, 118, 119, 120, 121, 122, 48, 49, 50, 51, 52, 53, 54, 55, 56, 57]
def salt : ByteArray := ⟨#[115, 97, 108, 116]⟩
theorem dropAll {p : UInt8 → Bool} {l : List UInt8} (h : ∀ b ∈ l, p b = true) : l.dropWhile p = [] := by
  induction l with
  | nil => rfl
  | cons a l ih => rw [List.dropWhile_cons, if_pos (h a (by simp))]; exact ih fun b hb => h b (by simp [hb])
theorem trimS_all {l cs : List UInt8} (h : ∀ b ∈ l, cs.contains b = true) : Lib.trimS l cs = [] := by
  have h1 : Lib.trimRightS l cs = [] := by
    unfold Lib.trimRightS
    rw [show l.reverse.dropWhile (cs.contains ·) = [] from dropAll (fun b hb => h b (List.mem_reverse.1 hb))]
    rfl
  rw [Lib.trimS, h1]
  rfl
theorem dig_hex : ∀ n, n < 16 → hexCs.contains (dig n) = true := by
  have : ∀ i : Fin 16, hexCs.contains (dig i.1) = true := by decide
  exact fun n h => this ⟨n, h⟩
theorem hexL_hex : ∀ (k n : Nat), n < 16 ^ (k + 1) → ∀ b ∈ hexL n, hexCs.contains b = true := by
  intro k
  induction k with
  | zero => intro n h b hb; rw [hexL_lt (by simpa using h)] at hb; simp only [List.mem_singleton] at hb; rw [hb]; exact dig_hex n (by simpa using h)
  | succ k ih =>
    intro n h b hb
    by_cases h16 : n < 16
    · rw [hexL_lt h16] at hb; simp only [List.mem_singleton] at hb; rw [hb]; exact dig_hex n h16
    · rw [hexL_ge (by omega), List.mem_append] at hb
      rcases hb with hb | hb
      · exact ih (n / 16) (by rw [Nat.div_lt_iff_lt_mul (by omega)]; rwa [Nat.pow_succ] at h) b hb
      · simp only [List.mem_singleton] at hb; rw [hb]; exact dig_hex _ (by omega)
theorem repeat0 (d : Nat) : Lib.repeatL [48] d = List.replicate d 48 := by
  have := Lib.repeatL_replicate 48 1 d
  simpa using this
theorem hashL_hex (h : Nat) (hh : h < 18446744073709551616) : ∀ b ∈ hashL h, hexCs.contains b = true := by
  intro b hb
  rw [hashL, List.mem_append] at hb
  rcases hb with hb | hb
  · rw [repeat0] at hb
    rw [(List.mem_replicate.1 hb).2]; decide
  · exact hexL_hex 15 h (by simpa using hh) b hb
theorem hashL_length (h : Nat) (hh : h < 18446744073709551616) : (hashL h).length = 16 := by
  have := hexL_length 15 h (by simpa using hh)
  rw [hashL, List.length_append, repeat0, List.length_replicate]; omega

theorem trim_hex (s : ByteArray) (w : World) (hl : s.size = 16) (h : ∀ b ∈ s.data.toList, hexCs.contains b = true) :
    Calls Tryz.prog 77 #[.string s, .string ⟨#[48, 49, 50, 51, 52, 53, 54, 55, 56, 57, 97, 98, 99, 100, 101, 102]⟩] w fun e w' => e = .returned (.string ⟨#[]⟩) ∧ Ext w w' := by
  have := Any.strings_Trim_laid Tryz.lays160 (by kernel_rfl) s ⟨#[48, 49, 50, 51, 52, 53, 54, 55, 56, 57, 97, 98, 99, 100, 101, 102]⟩ w (by omega) (by decide) (ascii_of_all (by decide))
  refine this.mono fun e w' ⟨h1, h2⟩ => ⟨?_, h2⟩
  rw [h1, show (⟨#[48, 49, 50, 51, 52, 53, 54, 55, 56, 57, 97, 98, 99, 100, 101, 102]⟩ : ByteArray).data.toList = hexCs from rfl, trimS_all h]
theorem trim_salt (w : World) :
    Calls Tryz.prog 77 #[.string salt, .string ⟨#[97, 98, 99, 100, 101, 102, 103, 104, 105, 106, 107, 108, 109, 110, 111, 112, 113, 114, 115, 116, 117, 118, 119, 120, 121, 122, 48, 49, 50, 51, 52, 53, 54, 55, 56, 57]⟩] w fun e w' => e = .returned (.string ⟨#[]⟩) ∧ Ext w w' := by
  have := Any.strings_Trim_laid Tryz.lays160 (by kernel_rfl) salt ⟨#[97, 98, 99, 100, 101, 102, 103, 104, 105, 106, 107, 108, 109, 110, 111, 112, 113, 114, 115, 116, 117, 118, 119, 120, 121, 122, 48, 49, 50, 51, 52, 53, 54, 55, 56, 57]⟩ w (by decide) (by decide) (ascii_of_all (by decide))
  refine this.mono fun e w' ⟨h1, h2⟩ => ⟨?_, h2⟩
  rw [h1, trimS_all (by decide)]

set_option maxRecDepth 20000 in
theorem isSalt_t (w : World) : Calls Tryz.prog 43 #[.string salt] w fun e w' => e = .returned (.bool true) ∧ Ext w w' := by
  have hs : salt.size = 4 := rfl
  have hc := hid (trim_salt)
  go_enter Tryz.func43, Tryz.ntmps43
  go_wp2_with (first | (go_at_call 35; refine (wwithin _ _ _ _ (by omega)).mono ?_; rintro e w' ⟨rfl, rfl⟩) | (go_at_call 77; refine (hc.out _).mono ?_; rintro e w' ⟨rfl, hb⟩))
  go_ret
  exact ⟨rfl, hb⟩
set_option maxRecDepth 20000 in
theorem isHash_t (h : Nat) (hh : h < 18446744073709551616) (w : World) : Calls Tryz.prog 42 #[.string ⟨(hashL h).toArray⟩] w fun e w' => e = .returned (.bool true) ∧ Ext w w' := by
  obtain ⟨S, hS⟩ : ∃ S : ByteArray, S = ⟨(hashL h).toArray⟩ := ⟨_, rfl⟩
  have hSs : S.size = 16 := by rw [hS]; exact (size_of_list _).trans (hashL_length h hh)
  have hc := hid (trim_hex S w hSs (by rw [hS]; exact hashL_hex h hh))
  rw [← hS]
  clear hS
  go_enter Tryz.func42, Tryz.ntmps42
  go_wp2_with (go_at_call 77; refine hc.out.mono ?_; rintro e w' ⟨rfl, hb⟩)
  go_ret
  exact ⟨rfl, hb⟩
end Go.Proofs.YtgjahejhpkbecaaGreatDoor
