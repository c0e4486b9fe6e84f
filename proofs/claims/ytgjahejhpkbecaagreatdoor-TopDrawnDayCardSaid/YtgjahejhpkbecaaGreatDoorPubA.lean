/- Publicly: what a drawing without deviants gives. -/
import Derived.Test.YtgjahejhpkbecaaGreatDoorWitO
namespace Go.Proofs.YtgjahejhpkbecaaGreatDoor
open Go.RowKit

/-- person j, sealed; opened -/
def perS (vs : List Nat) (j : Nat) : Per := ⟨hashB (j + 1) (vs.getD j 0), 0, j + 2, 0, false⟩
def perO (vs : List Nat) (j : Nat) : Per := ⟨hashB (j + 1) (vs.getD j 0), vs.getD j 0, j + 2, vs.length + j + 2, true⟩
def lateL (n i : Nat) (f g : Nat → Per) : List Per := (List.range n).map fun j => if j < i then f j else g j
theorem lateL_length (n i : Nat) (f g : Nat → Per) : (lateL n i f g).length = n := by simp [lateL]
theorem lateL_at {n i : Nat} {f g : Nat → Per} {j : Nat} (hj : j < n) : (lateL n i f g)[j]? = some (if j < i then f j else g j) := by
  simp [lateL, List.getElem?_map, List.getElem?_range hj]
theorem lateL_set {n i : Nat} {f g : Nat → Per} (hi : i < n) : (lateL n i f g).set i (f i) = lateL n (i + 1) f g := by
  refine List.ext_getElem? fun j => ?_
  by_cases hj : j < n
  · rw [lateL_at hj]
    by_cases hij : i = j
    · subst hij
      rw [List.getElem?_set_self (by rw [lateL_length]; exact hj), if_pos (by omega)]
    · rw [List.getElem?_set_ne hij, lateL_at hj]
      by_cases h : j < i
      · rw [if_pos h, if_pos (by omega)]
      · rw [if_neg h, if_neg (by omega)]
  · rw [List.getElem?_eq_none (by rw [List.length_set, lateL_length]; omega), List.getElem?_eq_none (by rw [lateL_length]; omega)]
theorem lateL_zero (n : Nat) (f : Nat → Per) (p : Per) : lateL n 0 f (fun _ => p) = List.replicate n p := by
  refine List.ext_getElem? fun j => ?_
  by_cases hj : j < n
  · rw [lateL_at hj, List.getElem?_replicate, if_pos hj, if_neg (by omega)]
  · rw [List.getElem?_eq_none (by rw [lateL_length]; omega), List.getElem?_eq_none (by simp; omega)]
theorem lateL_full (n : Nat) (f g h : Nat → Per) : lateL n n f g = lateL n 0 h f := by
  refine List.ext_getElem? fun j => ?_
  by_cases hj : j < n
  · rw [lateL_at hj, lateL_at hj, if_pos hj, if_neg (by omega)]
  · rw [List.getElem?_eq_none (by rw [lateL_length]; omega), List.getElem?_eq_none (by rw [lateL_length]; omega)]
/-- the sum of the first values, modulo below -/
def sumN (below : Nat) (vs : List Nat) : Nat → Nat
  | 0 => 0
  | k + 1 => (sumN below vs k + vs.getD k 0) % below
theorem accV_late (below : Nat) (vs : List Nat) (g : Nat → Per) : ∀ k, k ≤ vs.length → accV below (lateL vs.length vs.length (perO vs) g) k = sumN below vs k := by
  intro k
  induction k with
  | zero => intro _; rfl
  | succ k ih =>
    intro hk
    rw [accV, sumN, ih (by omega), lateL_at (by omega), if_pos (by omega)]
    rfl
theorem mem_late {n : Nat} {f g : Nat → Per} {p : Per} (h : p ∈ lateL n n f g) : ∃ j, j < n ∧ p = f j := by
  obtain ⟨j, hj, rfl⟩ := List.mem_map.1 h
  have hj := List.mem_range.1 hj
  exact ⟨j, hj, if_pos hj⟩

theorem dSeal_late (base db pb below : Nat) (vs : List Nat) (k vk : Nat) (H : ByteArray) (W : World) (hvk : vk = vs.getD k 0) (hH : hashB (k + 1) vk = H) (hD : DrawAt W base db pb below (lateL vs.length k (perS vs) (fun _ => zeroPer)) k 0 (k + 1)) (hk : k < vs.length) (hn : vs.length ≤ 30) :
    Calls Tryz.prog 17 #[.pointer (some ⟨db, 0, none⟩), .int .i64 ((k : Int) + 1), .string H] W fun e w' => e = .returned (.int .i64 0) ∧
      DrawAt w' base db pb below (lateL vs.length (k + 1) (perS vs) (fun _ => zeroPer)) (k + 1) 0 (k + 1 + 1) ∧ Keep (fun j => base ≤ j) W w' := by
  have h := dSeal_any base db pb below _ k 0 (k + 1) k (sealN (k + 1) vk) zeroPer W hD (by rw [lateL_at hk, if_neg (by omega)]) rfl (by rw [lateL_length]; omega) (by omega) (by omega) (sealN_lt _ _).1
  have h1 : (⟨(hashL (sealN (k + 1) vk)).toArray⟩ : ByteArray) = H := hH
  have h2 : (lateL vs.length k (perS vs) (fun _ => zeroPer)).set k ⟨H, zeroPer.value, k + 1 + 1, zeroPer.opn, zeroPer.right⟩ = lateL vs.length (k + 1) (perS vs) (fun _ => zeroPer) := by
    rw [← lateL_set hk, perS, ← hvk, hH]; rfl
  rw [h1, h2] at h
  exact h
theorem Open_late (base db pb below : Nat) (vs : List Nat) (k vk : Nat) (W : World) (hvk : vk = vs.getD k 0) (hD : DrawAt W base db pb below (lateL vs.length k (perO vs) (perS vs)) vs.length k (vs.length + 1 + k)) (hk : k < vs.length) (hn : vs.length ≤ 30)
    (hv : vk < below) (hb : below < 100) (ht : W.cell? ⟨5, 15, none⟩ = some (.int .u8 4)) :
    Calls Tryz.prog 18 #[.pointer (some ⟨db, 0, none⟩), .agg #[.int .i64 ((k : Int) + 1), .int .i64 vk, .string ⟨#[115, 97, 108, 116]⟩]] W fun e w' => e = .returned (.tuple #[.bool true, .int .i64 0]) ∧
      DrawAt w' base db pb below (lateL vs.length (k + 1) (perO vs) (perS vs)) vs.length (k + 1) (vs.length + 1 + (k + 1)) ∧ Keep (fun j => base ≤ j) W w' := by
  have hl := lateL_length vs.length k (perO vs) (perS vs)
  have hD' : DrawAt W base db pb below (lateL vs.length k (perO vs) (perS vs)) (lateL vs.length k (perO vs) (perS vs)).length k (vs.length + 1 + k) := by rw [hl]; exact hD
  have h := Open_any base db pb below _ k (vs.length + 1 + k) k vk (perS vs k) W hD' (by rw [lateL_at hk, if_neg (by omega)]) rfl (by rw [perS, ← hvk]) (by rw [hl]; omega) (by omega) (by rw [hl]; omega) hv hb ht
  have h2 : (lateL vs.length k (perO vs) (perS vs)).set k ⟨hashB (k + 1) vk, vk, (perS vs k).sealed, vs.length + 1 + k + 1, true⟩ = lateL vs.length (k + 1) (perO vs) (perS vs) := by
    rw [← lateL_set hk, perO, ← hvk]
    congr 2
    omega
  rw [h2, hl] at h
  exact h

set_option maxRecDepth 100000 in
set_option maxHeartbeats 2000000 in
theorem publicly_any (below : Nat) (vs : List Nat) (bk c : Nat) (w : World) (hb : 1 ≤ below ∧ below < 100) (hn : 1 ≤ vs.length ∧ vs.length ≤ 30) (hv : ∀ v ∈ vs, v < below)
    (hc : ∀ j, j < vs.length → w.cell? ⟨bk, j, none⟩ = some (.int .i64 (vs.getD j 0 : Nat))) (ht : w.cell? ⟨5, 15, none⟩ = some (.int .u8 4)) :
    Calls Tryz.prog 8 #[.int .i64 below, .slice (some ⟨bk, 0, none⟩) vs.length c] w fun e w' => e = .returned (.int .i64 (sumN below vs vs.length : Nat)) ∧ Ext w w' := by
  have hvk : ∀ k, k < vs.length → vs.getD k 0 < below := fun k hk => by
    rw [List.getD_eq_getElem?_getD, List.getElem?_eq_getElem hk]; exact hv _ (List.getElem_mem hk)
  have HV := hid hvk
  have HC := hid hc
  have HT := hid ht
  obtain ⟨S, hS⟩ : ∃ S, S = sumN below vs vs.length := ⟨_, rfl⟩
  rw [← hS]
  have HS := hid hS
  clear hv hvk hc ht hS
  go_enter Tryz.func8, Tryz.ntmps8
  go_wp2_with (go_at_call 15; refine (New_any below vs.length hb hn w).mono ?_; rintro e w1 ⟨db, pb, rfl, hD, hE⟩)
  obtain ⟨base, hbase⟩ : ∃ base, base = w.heap.size := ⟨_, rfl⟩
  rw [← hbase] at hD
  rw [← lateL_zero vs.length (perS vs) zeroPer] at hD
  have HB := hid hbase
  clear hbase
  have HE := hid hE
  clear hE
  go_loopw [7] (fun i wr => ∃ k : Nat, k ≤ vs.length ∧ i = .int .i64 k ∧ DrawAt wr base db pb below (lateL vs.length k (perS vs) (fun _ => zeroPer)) k 0 (k + 1) ∧ Ext w wr) (fun i _ => vs.length - (intOf i).toNat)
  case atStart => exact ⟨0, Nat.zero_le _, rfl, hD, HE.out⟩
  case round =>
    clear hD
    obtain ⟨k, hk, rfl, hDk, hEk⟩ := hrel
    by_cases hlt : k < vs.length
    · have hcell := hEk.cell' (HC.out k hlt)
      have hvl := HV.out k hlt
      have c1 := hid (SealBox_any (k + 1) (vs.getD k 0) ⟨by omega, by omega⟩ (by omega) wr (hEk.cell' HT.out))
      obtain ⟨vk, hvk⟩ : ∃ vk, vk = vs.getD k 0 := ⟨_, rfl⟩
      rw [← hvk] at hcell hvl c1
      obtain ⟨H, hH⟩ : ∃ H, hashB (k + 1) vk = H := ⟨_, rfl⟩
      have c2 := hid (show Calls Tryz.prog 16 #[.agg #[.int .i64 ((k : Int) + 1), .int .i64 vk, .string ⟨#[115, 97, 108, 116]⟩]] wr fun e w' => e = .returned (.tuple #[.string H, .int .i64 0]) ∧ Ext wr w' from hH ▸ c1.out)
      have c3 := hid (fun (W : World) (hW : Ext wr W) => dSeal_late base db pb below vs k vk H W hvk hH (hDk.later hW) hlt hn.2)
      have HEk := hid hEk
      clear c1 hDk hEk hvk hH
      go_wp2_with (first
        | (go_at_call 16; refine c2.out.mono ?_; rintro e w2 ⟨rfl, hE2⟩)
        | (go_at_call 17; refine (c3.out _ hE2).mono ?_; rintro e w3 ⟨rfl, hD3, hK3⟩))
      go_roundw
      case rel => exact ⟨k + 1, by omega, by go_num, hD3, (hK3.ext_of (HEk.out.trans hE2) (fun j hj hx => by rw [HB.out] at hx; omega))⟩
      case measure => simp [intOf]; omega
    · obtain rfl : k = vs.length := by omega
      rw [lateL_full _ _ _ (perO vs)] at hDk
      have HDk := hid hDk
      have HEk := hid hEk
      clear hDk hEk hlt hk
      go_wp2
      go_loopw [10] (fun i wq => ∃ k : Nat, k ≤ vs.length ∧ i = .int .i64 k ∧ DrawAt wq base db pb below (lateL vs.length k (perO vs) (perS vs)) vs.length k (vs.length + 1 + k) ∧ Ext w wq) (fun i _ => vs.length - (intOf i).toNat)
      case atStart => exact ⟨0, Nat.zero_le _, rfl, HDk.out, HEk.out⟩
      case round =>
        obtain ⟨k, hk, rfl, hDk, hEk⟩ := hrel
        by_cases hlt : k < vs.length
        · have hcell := hEk.cell' (HC.out k hlt)
          have hvl := HV.out k hlt
          obtain ⟨vk, hvk⟩ : ∃ vk, vk = vs.getD k 0 := ⟨_, rfl⟩
          rw [← hvk] at hcell hvl
          have c3 := hid (Open_late base db pb below vs k vk _ hvk hDk hlt hn.2 hvl hb.2 (hEk.cell' HT.out))
          have HEk := hid hEk
          clear hDk hEk hvk
          go_wp2_with (go_at_call 18; refine c3.out.mono ?_; rintro e w3 ⟨rfl, hD3, hK3⟩)
          go_roundw
          case rel => exact ⟨k + 1, by omega, by go_num, hD3, (hK3.ext_of HEk.out (fun j hj hx => by rw [HB.out] at hx; omega))⟩
          case measure => simp [intOf]; omega
        · obtain rfl : k = vs.length := by omega
          have hl := lateL_length vs.length vs.length (perO vs) (perS vs)
          have hall : ∀ p ∈ lateL vs.length vs.length (perO vs) (perS vs), 0 < p.opn ∧ p.right = true := fun p hp => by
            obtain ⟨j, _, rfl⟩ := mem_late hp
            exact ⟨by unfold perO; simp, rfl⟩
          have hvv : ∀ p ∈ lateL vs.length vs.length (perO vs) (perS vs), p.value < below := fun p hp => by
            obtain ⟨j, hj, rfl⟩ := mem_late hp
            exact HV.out j hj
          have c4 := hid (fun (W : World) (hD : DrawAt W base db pb below (lateL vs.length vs.length (perO vs) (perS vs)) vs.length vs.length (vs.length + 1 + vs.length)) =>
            (show Calls Tryz.prog 19 #[.pointer (some ⟨db, 0, none⟩)] W fun e w' => e = .returned (.tuple #[.int .i64 S, .int .i64 0]) ∧ Ext W w' from by
              have h := Value_any base db pb below _ vs.length (vs.length + 1 + vs.length) W (by rw [hl]; exact hD) (by rw [hl]; omega) hall hvv (by omega)
              rw [hl, accV_late _ _ _ _ (Nat.le_refl _), ← HS.out] at h
              exact h))
          have c5 := hid (fun (W : World) (hD : DrawAt W base db pb below (lateL vs.length vs.length (perO vs) (perS vs)) vs.length vs.length (vs.length + 1 + vs.length)) =>
            Deviants_none base db pb below _ vs.length vs.length (vs.length + 1 + vs.length) W hD (by rw [hl]; omega) hall)
          have HD := hid hDk
          have HEq := hid hEk
          clear hDk hEk hl hall hvv hlt hk
          go_wp2_with (first
            | (go_at_call 19; refine (c4.out _ HD.out).mono ?_; rintro e w4 ⟨rfl, hE4⟩)
            | (go_at_call 20; refine (c5.out _ (HD.out.later hE4)).mono ?_; rintro e w5 ⟨rfl, hE5⟩))
          go_ret
          exact ⟨rfl, HEq.out.trans (hE4.trans hE5)⟩
end Go.Proofs.YtgjahejhpkbecaaGreatDoor
