/- Witness: a box is opened. -/
import Derived.Test.YtgjahejhpkbecaaGreatDoorWitK
namespace Go.Proofs.YtgjahejhpkbecaaGreatDoor
open Go.RowKit

set_option maxRecDepth 100000 in
set_option maxHeartbeats 6400000 in
theorem Open_any (base db pb below : Nat) (ps : List Per) (o n i v : Nat) (p : Per) (w : World) (hD : DrawAt w base db pb below ps ps.length o n) (hi : ps[i]? = some p) (hp : p.opn = 0) (hph : p.hash = hashB (i + 1) v) (hlen : ps.length ≤ 30) (hn : n ≤ 1000)
    (ho : o < ps.length) (hv : v < below) (hb : below < 100) (ht : w.cell? ⟨5, 15, none⟩ = some (.int .u8 4)) :
    Calls Tryz.prog 18 #[.pointer (some ⟨db, 0, none⟩), boxV (i + 1) v] w fun e w' => e = .returned (.tuple #[.bool true, .int .i64 0]) ∧
      DrawAt w' base db pb below (ps.set i ⟨hashB (i + 1) v, v, p.sealed, n + 1, true⟩) ps.length (o + 1) (n + 1) ∧ Keep (fun k => base ≤ k) w w' := by
  have hil : i < ps.length := (List.getElem?_eq_some_iff.1 hi).1
  have cf := hid (fun W (hW : Ext w W) => find_t base db pb below ps ps.length o n i W (hD.later hW) hil (by omega))
  have cs := hid (isSalt_t)
  have cr := hid (fun W (hW : Ext w W) => running_t base db pb below ps o n W (hD.later hW) ho)
  have hB := hid (heap_alloc_new w (.cells #[.int .i64 ((i : Int) + 1), .int .i64 v, .string salt] 67))
  obtain ⟨W1, hW1⟩ : ∃ W1, W1 = w.alloc (.cells #[.int .i64 ((i : Int) + 1), .int .i64 v, .string salt] 67) := ⟨_, rfl⟩
  have hE1 : Ext w W1 := by rw [hW1]; exact (Ext.refl w).alloc _
  have hb1 : W1.heap[w.heap.size]? = some (.cells #[.int .i64 ((i : Int) + 1), .int .i64 v, .string salt] 67) := by rw [hW1]; exact heap_alloc_new w _
  have H1 := hid hb1
  have HE1 := hid hE1
  have H2 := hid hD
  have Hi := hid hi
  have q1 : ∀ r : Rg W1, r.w'.cell? ⟨db, 1, none⟩ = some (.int .i64 below) := fun r => (hD.later (hE1.trans r.h)).db.1
  have q2 : ∀ (r : Rg W1) (k : Nat), r.w'.cell? ⟨w.heap.size, k, none⟩ = #[Value.int .i64 ((i : Int) + 1), .int .i64 v, .string salt][k]? := fun r => cellsOf (r.h.blk' hb1)
  have cw := hid (fun (r : Rg W1) => Calls.rg (p := r) (v := .bool true) (f := 35) (args := #[.int .i64 v, .int .i64 0, .int .i64 ((below : Int) - 1)]) ((wwithin _ _ _ r.w' (by omega)).mono fun e w' ⟨h1, h2⟩ => ⟨h1, h2 ▸ Ext.refl _⟩))
  clear hD hi hb1 hE1
  have cl : Hid (∀ W, Calls Tryz.prog 39 #[.agg #[.int .i64 ((i : Int) + 1), .int .i64 v, .string salt]] W fun e w' => e = .returned (.int .u64 (sealF (i + 1) v)) ∧ Ext W w') := hid (fun W => seal_any (i + 1) v (by omega) (by omega) W)
  have cg := hid (fun W (hW : Ext w W) => stringBox (i + 1) v W (hW.cell' ht))
  have cn1 : Hid (∀ W, Calls Tryz.prog 37 #[.int .i64 ((i : Int) + 1)] W fun e w' => e = .returned (.string (decB (i + 1))) ∧ W = w') := hid (fun W => number_any (i + 1) (by omega) W)
  have cn2 : Hid (∀ W, Calls Tryz.prog 37 #[.int .i64 v] W fun e w' => e = .returned (.string (decB v)) ∧ W = w') := hid (fun W => number_any v (by omega) W)
  have hpb : pb ≠ w.heap.size := by
    obtain ⟨_, _, _, _, _, _, h4, _⟩ := H2.out
    have := lt_of_block h4
    omega
  have hpb' := Ne.symm hpb
  have hdb : db ≠ w.heap.size := by
    obtain ⟨_, _, _, _, _, h3, _, _⟩ := H2.out
    have := lt_of_block h3
    omega
  have hdb' := Ne.symm hdb
  have hen1 := hid (enters Tryz.func37 (by kernel_rfl) rfl)
  have hen2 := hid (enters Tryz.func36 (by kernel_rfl) rfl)
  have cwr := hid (fun (q : Per) (W : World) (hDW : DrawAt W base db pb below (ps.set i q) ps.length o n) (bk : Nat) (hb' : W.heap[bk]? = some (.cells #[.string ⟨#[111, 112, 101, 110]⟩, .string (decB (i + 1)), .string (decB v), .string salt] 9 (0, 0))) =>
    write_draw base db pb below (ps.set i q) ps.length o n bk 4 [⟨#[111, 112, 101, 110]⟩, decB (i + 1), decB v, salt] W hDW hn (fun j x hx => by
      rw [Nat.zero_add, cellsOf hb']
      rcases j with _ | _ | _ | _ | j <;> simp_all) (lt_of_block hb') (by simp) (by simp) (by
        have h1 : (decB (i + 1)).data.toList.length ≤ 2 := decB_size (i + 1) (by omega)
        have h2 : (decB v).data.toList.length ≤ 2 := decB_size v (by omega)
        have h3 : salt.data.toList.length = 4 := rfl
        simp [Lib.join, List.intercalate]; simp at h1 h2 h3; omega))
  have n1 : (⟨pb, i * 5 + 1, none⟩ : Addr) ≠ ⟨pb, i * 5, none⟩ := by simp
  have n4 : (⟨pb, i * 5 + 4, none⟩ : Addr) ≠ ⟨pb, i * 5, none⟩ := by simp
  unfold boxV
  generalize hashB (i + 1) v = Hs at hph cg ⊢
  generalize sealF (i + 1) v = F at cl cg
  subst hph
  go_enter Tryz.func18, Tryz.ntmps18
  go_wp2_with (first
    | (go_at_call 41; refine (cf.out _ (by (repeat (first | (with_reducible assumption) | (with_reducible exact Ext.refl _) | (with_reducible refine Ext.alloc ?_ _) | (with_reducible refine Ext.drew ?_))))).mono ?_; rintro e w' ⟨rfl, rfl⟩))
  rw [← hW1]
  clear hW1 hB
  refine wp_region_rg (by kernel_rfl) (by kernel_rfl) ?_
  repeat (go_big_quiet_step (exact cw.out _))
  refine wpQuiet_nil ?_
  intro r
  obtain ⟨W2, hW2⟩ : ∃ W2, W2 = r.w' := ⟨_, rfl⟩
  have hE2 : Ext W1 W2 := by rw [hW2]; exact r.h
  rw [← hW2]
  clear hW2
  have hk2 := cellsOf (hE2.blk' H1.out)
  have HE2 := hid hE2
  clear hE2 q1 q2 cw
  go_wp2_with (first
    | (go_at_call 43; refine (cs.out _).mono ?_; rintro e W3 ⟨rfl, hE3⟩; have HE3 := hid (HE2.out.trans hE3); clear hE3)
    | (go_at_call 44; refine (cr.out _ (HE1.out.trans HE3.out)).mono ?_; rintro e W4 ⟨rfl, hE4⟩; have HE4 := hid (HE3.out.trans hE4); clear hE4; obtain ⟨r0, r1, r2, r3, r4, r5⟩ := (H2.out.later (HE1.out.trans HE4.out)).pb Hi.out; rw [hp] at r3; have hk4 := cellsOf (HE4.out.blk' H1.out)))
  go_region_held3 (fun w' => w'.cell? ⟨w.heap.size, 0, none⟩ = some (.int .i64 ((i : Int) + 1)) ∧ w'.cell? ⟨w.heap.size, 1, none⟩ = some (.int .i64 v) ∧ w'.cell? ⟨w.heap.size, 2, none⟩ = some (.string salt) ∧ w'.cell? ⟨pb, i * 5, none⟩ = some (.string p.hash))
    (first | go_keep | exact ⟨k0, k1, k2, t0⟩ | exact ⟨m0, m1, m2, u0⟩ | exact f1 | exact f2 _ | skip)
    ((first
      | (go_at_call 39; refine (cl.out _).mono ?_; rintro e W5 ⟨rfl, hE5⟩; have HE5 := hid ((HE4.out.drew).trans hE5)
         have k0 := cellsOf (HE5.out.blk' H1.out) 0; have k1 := cellsOf (HE5.out.blk' H1.out) 1; have k2 := cellsOf (HE5.out.blk' H1.out) 2; obtain ⟨t0, t1, t2, t3, t4, t5⟩ := (H2.out.later (HE1.out.trans HE5.out)).pb Hi.out; clear hE5)
      | (go_at_call 40; refine (cg.out _ (HE1.out.trans HE5.out)).mono ?_; rintro e W6 ⟨rfl, hE6⟩; have HE6 := hid (HE5.out.trans hE6)
         have m0 := cellsOf (HE6.out.blk' H1.out) 0; have m1 := cellsOf (HE6.out.blk' H1.out) 1; have m2 := cellsOf (HE6.out.blk' H1.out) 2; obtain ⟨u0, u1, u2, u3, u4, u5⟩ := (H2.out.later (HE1.out.trans HE6.out)).pb Hi.out; have f1 : (W6.setCell ⟨pb, i * 5 + 1, none⟩ (.int .i64 v)).cell? ⟨pb, i * 5, none⟩ = some (.string p.hash) := (by rw [World.cell?_setCell_other]; exact u0; exact n1); have f2 : ∀ b, ((W6.setCell ⟨pb, i * 5 + 1, none⟩ (.int .i64 v)).setCell ⟨pb, i * 5 + 4, none⟩ b).cell? ⟨pb, i * 5, none⟩ = some (.string p.hash) := (fun b => by rw [World.cell?_setCell_other]; exact f1; exact n4); clear hE6)))
  have hi2 : (ps.set i ⟨p.hash, v, p.sealed, p.opn, p.right⟩)[i]? = some ⟨p.hash, v, p.sealed, p.opn, p.right⟩ := List.getElem?_set_self hil
  have a1 := (H2.out.later (HE1.out.trans HE6.out)).setPer Hi.out (j := 1) (v := .int .i64 v) (q := ⟨p.hash, v, p.sealed, p.opn, p.right⟩) (by omega) rfl
  have a2 := a1.1.setPer hi2 (j := 4) (v := .bool true) (q := ⟨p.hash, v, p.sealed, p.opn, true⟩) (by omega) rfl
  rw [List.set_set] at a2
  have hK7 : Keep (fun k => base ≤ k) w ((W6.setCell ⟨pb, i * 5 + 1, none⟩ (.int .i64 v)).setCell ⟨pb, i * 5 + 4, none⟩ (.bool true)) := ((Keep.of_ext (HE1.out.trans HE6.out)).trans a1.2).trans a2.2
  have hB7 : ((W6.setCell ⟨pb, i * 5 + 1, none⟩ (.int .i64 v)).setCell ⟨pb, i * 5 + 4, none⟩ (.bool true)).heap[w.heap.size]? = some (.cells #[.int .i64 ((i : Int) + 1), .int .i64 v, .string salt] 67) :=
    (Below.heap_setCell _ _ _ _ (by dsimp only; omega)).trans ((Below.heap_setCell _ _ _ _ (by dsimp only; omega)).trans (HE6.out.blk' H1.out))
  have HD7 := hid a2.1
  have HK7 := hid hK7
  have HB7 := hid hB7
  clear a1 a2 hK7 hB7 hi2
  generalize (W6.setCell ⟨pb, i * 5 + 1, none⟩ (.int .i64 v)).setCell ⟨pb, i * 5 + 4, none⟩ (.bool true) = W7 at HD7 HK7 HB7 ⊢
  have x0 := cellsOf HB7.out 0
  have x1 := cellsOf HB7.out 1
  have x2 := cellsOf HB7.out 2
  clear r0 r1 r2 r3 r4 r5 u0 u1 u2 u3 u4 u5 f1 f2 t0 t1 t2 t3 t4 t5 k0 k1 k2 m0 m1 m2 hk4
  go_wp2
  go_region_held3 (fun w' => w'.cell? ⟨w.heap.size, 0, none⟩ = some (.int .i64 ((i : Int) + 1)) ∧ w'.cell? ⟨w.heap.size, 1, none⟩ = some (.int .i64 v) ∧ w'.cell? ⟨w.heap.size, 2, none⟩ = some (.string salt))
    (first | go_keep | exact ⟨y0, y1, y2⟩ | skip)
    ((first
      | (go_at_call 37; refine (cn1.out _).mono ?_; rintro e w2 ⟨rfl, rfl⟩)
      | (go_at_call 37; refine (cn2.out _).mono ?_; rintro e w2 ⟨rfl, rfl⟩)
      | (go_at_call 36; refine (cwr.out _ _ (HD7.out.later (((Ext.refl W7).alloc _).drew)) W7.heap.size (heap_alloc_new W7 _)).mono ?_
         rintro e W8 ⟨rfl, hD8, hK8, hO8⟩
         have HB8 := hid (hO8 _ _ _ _ hdb' (by decide) (Ext.blk' (((Ext.refl W7).alloc _).drew) HB7.out))
         have y0 := cellsOf HB8.out 0
         have y1 := cellsOf HB8.out 1
         have y2 := cellsOf HB8.out 2
         have HD8 := hid hD8
         have HK8 := hid hK8
         obtain ⟨z0, z1, z2, z3, z4, z5⟩ := hD8.pb (List.getElem?_set_self hil)
         obtain ⟨v1, v2, v3, v4, v5, v6⟩ := hD8.db
         have hne := hD8.ne
         have hne' := Ne.symm hne
         clear hD8 hK8 hO8)))
  go_wp2
  refine bodyPost_ret (results_tmp2 rfl _ _ _) rfl ?_
  have b1 := HD8.out.setPer (i := i) (p := ⟨p.hash, v, p.sealed, p.opn, true⟩) (List.getElem?_set_self hil) (j := 3) (v := .int .i64 ((n : Int) + 1)) (q := ⟨p.hash, v, p.sealed, n + 1, true⟩) (by omega) rfl
  rw [List.set_set] at b1
  have b2 := b1.1.setO (o + 1)
  exact ⟨rfl, b2.1, (((HK7.out.trans (Keep.of_ext (((Ext.refl W7).alloc _).drew))).trans HK8.out).trans b1.2).trans b2.2⟩
end Go.Proofs.YtgjahejhpkbecaaGreatDoor
