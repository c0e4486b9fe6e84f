/- A day drawn by lot: the plain law. -/
import Derived.Test.YtgjahejhpkbecaaGreatDoorPubB
import Derived.Test.YtgjahejhpkbecaaGreatDoorPubQ
namespace Go.Proofs.YtgjahejhpkbecaaGreatDoor
open Go.RowKit

def lawRules (S : Int) : List DR := [⟨[], true⟩, ⟨[⟨1, 0, S, 0, 0⟩], false⟩]
theorem errBoth_law (S : Int) (h : 0 ≤ S ∧ S < 128) : errBoth quietA (lawRules S) = 0 ∧ (⟨1, 0, S, 0, 0⟩ : DT).ok quietA = true := by
  have h1 : ∀ s : Fin 128, errBoth quietA (lawRules (s.val : Nat)) = 0 ∧ (⟨1, 0, (s.val : Nat), 0, 0⟩ : DT).ok quietA = true := by decide +kernel
  have h2 := h1 ⟨S.toNat, by omega⟩
  rw [show ((⟨S.toNat, by omega⟩ : Fin 128).val : Int) = S by simp; omega] at h2
  exact h2
theorem quietA_ok : quietA.ok = true := by decide +kernel
theorem tests_law (S : Int) (h : 0 ≤ S ∧ S < 128) : ∀ r ∈ lawRules S, ∀ t ∈ r.whens, TestRuns quietA t := by
  intro r hr t ht
  simp only [lawRules, List.mem_cons, List.mem_nil_iff, or_false] at hr
  rcases hr with rfl | rfl
  · cases ht
  · obtain rfl : t = ⟨1, 0, S, 0, 0⟩ := by simpa using ht
    exact TestRuns.cycle quietA_ok (errBoth_law S h).2 rfl
theorem allow_zero (d : Int) : allowB quietA (lawRules 0) d = true := by
  have h0 : ruleAt quietA (lawRules 0) d 0 = true := rfl
  have hc : cycHolds quietA d ⟨1, 0, 0, 0, 0⟩ = false := by
    unfold cycHolds quietA
    simp only [Int.toNat_zero, List.getElem?_cons_zero, Int.zero_ediv]
    decide +kernel
  have h1 : ruleAt quietA (lawRules 0) d 1 = false := by
    show (DR.holds quietA d ⟨[⟨1, 0, 0, 0, 0⟩], false⟩) = false
    simp only [DR.holds, List.all_cons, holdsT, if_true, hc, Bool.false_and]
  exact allowB_hit (k := 0) (r := ⟨[], true⟩) (lastN_hit (by decide) h0 (fun j h2 h3 => by
    have h3 : j < 2 := h3
    obtain rfl : j = 1 := by omega
    exact h1)) rfl

theorem daysF_add (g : Int → Bool) (x : Int) (j : Nat) : ∀ n, daysF g x (j + n) = daysF g x j ++ daysF g (x + j) n := by
  intro n
  induction n with
  | zero => simp [daysF]
  | succ n ih =>
    rw [← Nat.add_assoc, daysF, ih, daysF, List.append_assoc, show x + ((j + n : Nat) : Int) = x + j + n by omega]
theorem daysF_split {g : Int → Bool} {x : Int} {j n : Nat} (h : j ≤ n) : daysF g x n = daysF g x j ++ daysF g (x + j) (n - j) := by
  rw [← daysF_add, show j + (n - j) = n by omega]
/-- the first of some days -/
theorem daysF_first {g : Int → Bool} {x : Int} {n : Nat} (h : 0 < (daysF g x n).length) : ∃ j, j < n ∧ firstD (daysF g x n) = x + j ∧ firstE (daysF g x n) = 0 ∧ daysF g x (j + 1) = [x + (j : Int)] := by
  induction n with
  | zero => simp [daysF] at h
  | succ n ih =>
    by_cases h0 : 0 < (daysF g x n).length
    · obtain ⟨j, hj, h1, h2, h3⟩ := ih h0
      refine ⟨j, by omega, ?_, ?_, h3⟩
      · rw [← h1, daysF]
        cases hd : daysF g x n with
        | nil => rw [hd] at h0; simp at h0
        | cons a l => simp [firstD]
      · rw [daysF]
        cases hd : daysF g x n with
        | nil => rw [hd] at h0; simp at h0
        | cons a l => simp [firstE]
    · have hn : daysF g x n = [] := List.eq_nil_of_length_eq_zero (by omega)
      rw [daysF, hn] at h
      have hg : g (x + n) = true := by
        cases hg : g (x + n) with
        | true => rfl
        | false => rw [hg] at h; simp at h
      refine ⟨n, by omega, ?_, ?_, ?_⟩ <;> rw [daysF, hn, hg] <;> simp [firstD, firstE]
theorem daysF_mem {g : Int → Bool} {x : Int} {n i : Nat} {d : Int} (h : (daysF g x n)[i]? = some d) : g d = true ∧ x ≤ d ∧ d < x + n := by
  have hm := List.mem_of_getElem? h
  clear h
  induction n with
  | zero => simp [daysF] at hm
  | succ n ih =>
    rw [daysF, List.mem_append] at hm
    rcases hm with hm | hm
    · obtain ⟨h1, h2, h3⟩ := ih hm
      exact ⟨h1, h2, by omega⟩
    · cases hg : g (x + n) with
      | true =>
        rw [hg] at hm
        obtain rfl : d = x + n := by simpa using hm
        exact ⟨hg, by omega, by omega⟩
      | false => rw [hg] at hm; simp at hm
theorem daysF_lt {g : Int → Bool} {x : Int} {n i j : Nat} {d e : Int} (hi : (daysF g x n)[i]? = some d) (hj : (daysF g x n)[j]? = some e) (hij : i < j) : d < e := by
  induction n with
  | zero => simp [daysF] at hi
  | succ n ih =>
    rw [daysF] at hi hj
    by_cases h1 : j < (daysF g x n).length
    · rw [List.getElem?_append_left (by omega)] at hi
      rw [List.getElem?_append_left h1] at hj
      exact ih hi hj
    · rw [List.getElem?_append_right (by omega)] at hj
      have he : e = x + n := by
        split at hj
        · have h4 := List.mem_of_getElem? hj
          simpa using h4
        · simp at hj
      have hlen : j - (daysF g x n).length = 0 := by
        split at hj
        · obtain ⟨h2, _⟩ := List.getElem?_eq_some_iff.1 hj
          simp only [List.length_cons, List.length_nil] at h2
          omega
        · simp at hj
      rw [List.getElem?_append_left (by omega)] at hi
      have := (daysF_mem hi).2.2
      omega
theorem daysF_inj {g : Int → Bool} {x : Int} {n i j : Nat} {d : Int} (hi : (daysF g x n)[i]? = some d) (hj : (daysF g x n)[j]? = some d) : i = j := by
  rcases Nat.lt_trichotomy i j with h | h | h
  · have := daysF_lt hi hj h; omega
  · exact h
  · have := daysF_lt hj hi h; omega
theorem daysF_all {x : Int} {n : Nat} {g : Int → Bool} (h : ∀ d, g d = true) : (daysF g x n).length = n := by
  induction n with
  | zero => rfl
  | succ n ih => rw [daysF, h]; simp [ih]

/-- the others' values -/
def totN (os : List Nat) : Nat → Nat
  | 0 => 0
  | k + 1 => totN os k + os.getD k 0
theorem sumN_cons (n v : Nat) (os : List Nat) : ∀ k, sumN n (v :: os) (k + 1) = (v + totN os k) % n := by
  intro k
  induction k with
  | zero => simp [sumN, totN]
  | succ k ih =>
    rw [sumN, ih, totN, List.getD_cons_succ, Nat.mod_add_mod, Nat.add_assoc]
theorem draw_inj {n u v t : Nat} (hu : u < n) (hv : v < n) (h : (u + t) % n = (v + t) % n) : u = v := by
  have h1 := Nat.div_add_mod (u + t) n
  have h2 := Nat.div_add_mod (v + t) n
  rw [h] at h1
  rcases Nat.lt_trichotomy ((u + t) / n) ((v + t) / n) with h3 | h3 | h3
  · have := Nat.mul_le_mul_left n h3
    rw [Nat.mul_succ] at this
    omega
  · rw [h3] at h1; omega
  · have := Nat.mul_le_mul_left n h3
    rw [Nat.mul_succ] at this
    omega
end Go.Proofs.YtgjahejhpkbecaaGreatDoor
