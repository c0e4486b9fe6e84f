/- Witness: a new drawing. -/
import Derived.Test.YtgjahejhpkbecaaGreatDoorWitH
namespace Go.Proofs.YtgjahejhpkbecaaGreatDoor
open Go.RowKit

def zeroPer : Per := ⟨⟨#[]⟩, 0, 0, 0, false⟩
theorem infoPer : (Tryz.prog.info? 106).map (fun i => (i.zero, i.size, i.bytes)) = some (some (.agg #[.string ⟨#[]⟩, .int .i64 0, .int .i64 0, .int .i64 0, .bool false]), 5, 48) := by kernel_rfl

theorem made (n : Nat) : (madeCells (Value.agg #[.string ⟨#[]⟩, .int .i64 0, .int .i64 0, .int .i64 0, .bool false]).cells (n * 5)).toList = perL (List.replicate n zeroPer) := by
  refine List.ext_getElem? fun k => ?_
  by_cases hk : k < n * 5
  · have h1 : (List.replicate n zeroPer)[k / 5]? = some zeroPer := by rw [List.getElem?_replicate, if_pos (by omega)]
    have h2 := perL_at h1 (j := k % 5) (by omega)
    rw [show k / 5 * 5 + k % 5 = k by omega] at h2
    rw [h2, Array.getElem?_toList, madeCells, Array.getElem?_map, Array.getElem?_range, if_pos hk]
    have h3 : ∀ j : Fin 5, some ((#[Value.string ⟨#[]⟩, .int .i64 0, .int .i64 0, .int .i64 0, .bool false] : Array Value)[j.1]!) = zeroPer.cells[j.1]? := by
      intro j
      match j with
      | ⟨0, _⟩ => rfl
      | ⟨1, _⟩ => rfl
      | ⟨2, _⟩ => rfl
      | ⟨3, _⟩ => rfl
      | ⟨4, _⟩ => rfl
    exact h3 ⟨k % 5, by omega⟩
  · rw [List.getElem?_eq_none (by simp [size_madeCells]; omega), List.getElem?_eq_none (by rw [perL_length]; simp; omega)]

set_option maxRecDepth 100000 in
set_option maxHeartbeats 3200000 in
theorem New_any (below n : Nat) (hb : 1 ≤ below ∧ below < 100) (hn : 1 ≤ n ∧ n ≤ 30) (w : World) :
    Calls Tryz.prog 15 #[.int .i64 below, .int .i64 n] w fun e w' => ∃ db pb, e = .returned (.tuple #[.pointer (some ⟨db, 0, none⟩), .int .i64 0]) ∧
      DrawAt w' w.heap.size db pb below (List.replicate n zeroPer) 0 0 1 ∧ Ext w w' := by
  obtain ⟨i0, hi, hz0, hz1, hz2⟩ := info_parts infoPer
  have cn := hid (fun (k : Nat) (hk : k < 100) W => number_any k hk W)
  have hen1 := hid (enters Tryz.func37 (by kernel_rfl) rfl)
  have hen2 := hid (enters Tryz.func36 (by kernel_rfl) rfl)
  have cwr := hid (fun (base db pb : Nat) (W : World) (hD : DrawAt W base db pb below (List.replicate n zeroPer) 0 0 0) (bk : Nat) (hb' : W.heap[bk]? = some (.cells #[.string ⟨#[100, 114, 97, 119]⟩, .string (decB below), .string (decB n)] 9 (0, 0))) =>
    write_draw base db pb below (List.replicate n zeroPer) 0 0 0 bk 3 [⟨#[100, 114, 97, 119]⟩, decB below, decB n] W hD (by omega) (fun j x hx => by
      rw [Nat.zero_add, cellsOf hb']
      rcases j with _ | _ | _ | j <;> simp_all) (lt_of_block hb') (by simp) (by simp) (by
        have h1 : (decB below).data.toList.length ≤ 2 := decB_size below hb.2
        have h2 : (decB n).data.toList.length ≤ 2 := decB_size n (by omega)
        simp [Lib.join, List.intercalate]; simp at h1 h2; omega))
  have c1 : Hid (∀ W, Calls Tryz.prog 37 #[.int .i64 below] W fun e w' => e = .returned (.string (decB below)) ∧ W = w') := hid (fun W => cn.out below hb.2 W)
  have c2 : Hid (∀ W, Calls Tryz.prog 37 #[.int .i64 n] W fun e w' => e = .returned (.string (decB n)) ∧ W = w') := hid (fun W => cn.out n (by omega) W)
  clear cn
  go_enter Tryz.func15, Tryz.ntmps15
  go_wp2_with (first
    | (go_at_call 35; refine (wwithin _ _ _ _ (by omega)).mono ?_; rintro e w' ⟨rfl, rfl⟩)
    | (at_make; refine wpList_make_full _ rfl _ _ 90 rfl w.heap.size 106 i0 _ 5 Tryz.underlying90 hi hz0 hz1 _ _ _ _ n rfl rfl rfl rfl (by rw [hz2]; omega) (by simp [maxLen]; omega) (Nat.le_refl _) ?_; intro w1 hr hg
       have hp : w1.heap[w.heap.size]? = some (.cells (perL (List.replicate n zeroPer)).toArray 106 (0, 0)) := (by
         rcases hr.2 with ⟨h, _⟩ | ⟨g, cap, cur, he, _, hgg, _, _, hsz, htk⟩
         · cases h
         · cases he
           rw [List.take_of_length_le (by simpa using Nat.le_of_eq hsz), made] at htk
           rw [hgg, ← htk])
       have hg1 : Ext w w1 := (grown_keep hg).ext (fun _ _ h => by cases h)
       have HP := hid hp
       have HE := hid hg1
       clear hr hg hp hg1))
  have hD : DrawAt (w1.alloc (.cells #[.slice none 0 0, .int .i64 below, .slice (some ⟨w.heap.size, 0, none⟩) n n, .int .i64 0, .int .i64 0, .int .i64 0] 95)) w.heap.size w1.heap.size w.heap.size below (List.replicate n zeroPer) 0 0 0 := by
    refine ⟨by have := HE.out.size; simp; omega, HE.out.size, Nat.le_refl _, .slice none 0 0, [], ?_, Ext.blk' ((Ext.refl w1).alloc _) HP.out, ⟨rfl, .inl ⟨rfl, rfl⟩⟩⟩
    rw [List.length_replicate]; exact heap_alloc_new w1 _
  obtain ⟨W2, hW2⟩ : ∃ W2, W2 = w1.alloc (.cells #[.slice none 0 0, .int .i64 below, .slice (some ⟨w.heap.size, 0, none⟩) n n, .int .i64 0, .int .i64 0, .int .i64 0] 95) := ⟨_, rfl⟩
  rw [← hW2] at hD ⊢
  have hE2 : Ext w W2 := by rw [hW2]; exact HE.out.alloc _
  have HD := hid hD
  clear hD hW2
  go_region_law
    ((first
      | (refine step_calls (by rfl) 37 #[.int .i64 below] ?_ (c1.out _) ?_; (focus (simp [go_sem, execOp, Act.eval, Act.put, hen1.out]; done)); rintro e w2 ⟨rfl, rfl⟩; refine ⟨_, rfl, ?_⟩)
      | (refine step_calls (by rfl) 37 #[.int .i64 n] ?_ (c2.out _) ?_; (focus (simp [go_sem, execOp, Act.eval, Act.put, hen1.out]; done)); rintro e w2 ⟨rfl, rfl⟩; refine ⟨_, rfl, ?_⟩)
      | (refine step_calls (by rfl) 36 #[.pointer (some ⟨w1.heap.size, 0, none⟩), .slice (some ⟨W2.heap.size, 0, none⟩) 3 3] ?_ (cwr.out _ _ _ _ (HD.out.later (((Ext.refl W2).alloc _).drew)) W2.heap.size (heap_alloc_new W2 _)) ?_
         (focus (simp [go_sem, execOp, Act.eval, Act.put, hen2.out]; done))
         rintro e w3 ⟨rfl, hD3, hK3, _⟩
         refine ⟨_, rfl, ?_⟩
         have HD3 := hid hD3
         have HK3 := hid hK3
         clear hD3 hK3)))
  go_wp2
  refine bodyPost_ret (results_tmp2 rfl _ _ _) rfl ?_
  refine ⟨_, _, rfl, HD3.out, ?_⟩
  exact ((Keep.of_ext (X := fun _ => False) (hE2.trans (((Ext.refl W2).alloc _).drew))).then (X := fun _ => False) HK3.out (fun k h1 h2 => by omega)).ext fun _ _ h => h
end Go.Proofs.YtgjahejhpkbecaaGreatDoor
