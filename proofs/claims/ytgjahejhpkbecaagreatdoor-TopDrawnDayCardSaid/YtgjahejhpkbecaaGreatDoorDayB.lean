/- A day drawn by lot: the walk. -/
import Derived.Test.YtgjahejhpkbecaaGreatDoorDayA
namespace Go.Proofs.YtgjahejhpkbecaaGreatDoor
open Go.RowKit Go.Maps

set_option maxRecDepth 100000 in
set_option maxHeartbeats 4000000 in
theorem law_any (x m f : Nat) (ov : Value) (zs : List Nat) (w : World) (hx : x < 65536) (hm : m < 256) (hf : f < 256) (ho : OthersAt w ov zs) (ht : w.cell? ⟨5, 15, none⟩ = some (.int .u8 4)) :
    Calls Tryz.prog 3 #[.int .u16 x, .agg #[.int .u8 m, .int .u8 f], ov] w fun e w' => e = .returned (.bool true) ∧ Ext w w' := by
  have hkd := hid (fun (W : World) (hW : Ext w W) => knownDrawing_t W (hW.cell' ht))
  obtain ⟨M, hM, hM60⟩ : ∃ M : Nat, ((m : Int)).tmod 60 = M ∧ M < 60 := ⟨m % 60, tmod_nat m 60, Nat.mod_lt _ (by decide)⟩
  obtain ⟨S, hS, hS128⟩ : ∃ S : Nat, ((f : Int)).tmod 128 = S ∧ S < 128 := ⟨f % 128, tmod_nat f 128, Nat.mod_lt _ (by decide)⟩
  obtain ⟨n, hn⟩ : ∃ n, n = (daysF (lawG S) x (M + 1)).length := ⟨_, rfl⟩
  have hn60 : n ≤ 60 := by have := daysF_len (lawG S) x (M + 1); omega
  have hnS : n = 0 → S ≠ 0 := fun h0 hs => by
    subst hs
    have h1 := daysF_all (x := x) (n := M + 1) (g := lawG ((0 : Nat) : Int)) (fun d => allow_zero d)
    omega
  have HN := hid hn
  clear hn
  have HT := hid ht
  obtain ⟨hzl, ho⟩ := ho
  have HO := hid ho
  clear ht ho
  have q : ∀ (p : Rg (w.alloc (.cells #[.int .u8 m, .int .u8 f] 23))) (o : Nat), p.w'.cell? ⟨w.heap.size, o, none⟩ = #[Value.int .u8 m, .int .u8 f][o]? := fun p => cellsOf (p.h.blk' (heap_alloc_new w _))
  by_cases hl : 1 ≤ zs.length ∧ zs.length ≤ 4
  · obtain ⟨hl1, hl4⟩ := hl
    obtain ⟨a, cap, rfl, hcells⟩ : ∃ a cap, ov = .slice (some a) zs.length cap ∧ (∀ i, i < zs.length → w.cell? (a.add i) = some (.int .u16 (zs.getD i 0 : Nat)) ∧ zs.getD i 0 < 65536) := by
      rcases HO.out with ⟨_, rfl⟩ | h
      · simp at hl1
      · exact h
    have HC := hid hcells
    clear hcells HO
    have hd1 : decide ((zs.length : Int) < 1) = false := by simp; omega
    have hd4 : decide (4 < (zs.length : Int)) = false := by simp; omega
    by_cases hn0 : n = 0
    · have hS0 := hnS hn0
      have hS0b : ((S : Int) != 0) = true := by simp; omega
      subst hn0
      go_enter Tryz.func3, Tryz.ntmps3
      go_wp2
      refine wp_region_rg (by kernel_rfl) (by kernel_rfl) ?_
      repeat (go_big_quiet_step (fail))
      refine wpQuiet_nil ?_
      intro p
      obtain ⟨w1, hw1⟩ : ∃ w1, w1 = p.w' := ⟨_, rfl⟩
      have hE1 : Ext w w1 := by rw [hw1]; exact ((Ext.refl w).alloc _).trans p.h
      rw [← hw1]
      clear hw1 q
      have HE1 := hid hE1
      clear hE1 p
      go_wp2_with (first
        | (go_at_call 5; refine (show Calls Tryz.prog 5 #[.slice (some ⟨w1.heap.size, 0, none⟩) 1 1] (w1.alloc (.cells #[.int .i64 7, .int .i64 0] 35)) fun e w' => e = .returned (.agg #[.slice (some ⟨w1.heap.size, 0, none⟩) 1 1, .int .i64 4, .int .i64 100, .int .i64 400, .int .i64 59, .int .i64 2, .int .i64 0, .int .i64 235, .int .i64 19, .int .i64 0, .int .i64 4]) ∧ Ext (w1.alloc (.cells #[.int .i64 7, .int .i64 0] 35)) w' from quiet_any _ _).mono ?_; rintro e w2 ⟨rfl, hE2⟩)
        | (go_at_call 6; refine (count_law (lawMem_made w2 w1.heap.size S (hE2.blk' (heap_alloc_new w1 _))) (by omega) x M hx hM60).mono ?_; rw [← HN.out]; rintro e w4 ⟨rfl, hE4⟩)
        | (go_at_call 4; refine (hkd.out _ (HE1.out.trans (((Ext.refl w1).alloc _).trans (hE2.trans (((((Ext.refl w2).alloc _).alloc _).alloc _).trans hE4))))).mono ?_; rintro e w5 ⟨rfl, hE5⟩))
      go_ret
      exact ⟨rfl, (HE1.out.trans (((Ext.refl w1).alloc _).trans (hE2.trans (((((Ext.refl w2).alloc _).alloc _).alloc _).trans hE4)))).trans hE5⟩
    · have hnb : ((n : Int) == 0) = false := by simp; omega
      have hnl : decide ((n : Int) < 0) = false := by simp
      have hng : decide (60 < (n : Int)) = false := by simp; omega
      go_enter Tryz.func3, Tryz.ntmps3
      go_wp2
      refine wp_region_rg (by kernel_rfl) (by kernel_rfl) ?_
      repeat (go_big_quiet_step (fail))
      refine wpQuiet_nil ?_
      intro p
      obtain ⟨w1, hw1⟩ : ∃ w1, w1 = p.w' := ⟨_, rfl⟩
      have hE1 : Ext w w1 := by rw [hw1]; exact ((Ext.refl w).alloc _).trans p.h
      rw [← hw1]
      clear hw1 q
      have HE1 := hid hE1
      clear hE1 p hnS
      go_wp2_with (first
        | (go_at_call 5; refine (show Calls Tryz.prog 5 #[.slice (some ⟨w1.heap.size, 0, none⟩) 1 1] (w1.alloc (.cells #[.int .i64 7, .int .i64 0] 35)) fun e w' => e = .returned (.agg #[.slice (some ⟨w1.heap.size, 0, none⟩) 1 1, .int .i64 4, .int .i64 100, .int .i64 400, .int .i64 59, .int .i64 2, .int .i64 0, .int .i64 235, .int .i64 19, .int .i64 0, .int .i64 4]) ∧ Ext (w1.alloc (.cells #[.int .i64 7, .int .i64 0] 35)) w' from quiet_any _ _).mono ?_; rintro e w2 ⟨rfl, hE2⟩)
        | (go_at_call 6; refine (count_law (lawMem_made w2 w1.heap.size S (hE2.blk' (heap_alloc_new w1 _))) (by omega) x M hx hM60).mono ?_; rw [← HN.out]; rintro e w4 ⟨rfl, hE4⟩
           have HE4 := hid (HE1.out.trans (((Ext.refl w1).alloc _).trans (hE2.trans (((((Ext.refl w2).alloc _).alloc _).alloc _).trans hE4))))
           have HL := hid (LawMem.later (lawMem_made w2 w1.heap.size S (hE2.blk' (heap_alloc_new w1 _))) hE4)
           clear hE4 hE2))
      obtain ⟨i0, hi, hz0, hz1, hz2⟩ := info_parts infoInt
      go_loopw [15, 16] (fun d y wr => ∃ j k g cp : Nat, d = .slice (some ⟨g, 0, none⟩) k cp ∧ y = .int .i64 ((x : Int) + j) ∧ j ≤ M + 1 ∧ Hid (k = (daysF (lawG S) x j).length) ∧ k ≤ n ∧
          Hid (wr.ownsRow w4.heap.size 3 1 (.slice (some ⟨g, 0, none⟩) k cp) k ((daysF (lawG S) x j).map (Value.int .i64))) ∧ Hid (0 < k → (daysF (lawG S) x j)[k - 1]? = some ((x : Int) + j - 1)) ∧ Hid (Ext w4 wr)) (fun _ y _ => M + 1 - (intOf y - x).toNat)
      case atStart =>
        refine ⟨0, 0, w4.heap.size, 0, rfl, by go_num, by omega, hid rfl, by omega, hid ?_, hid (fun h => by omega), hid ((Ext.refl w4).alloc _)⟩
        exact ⟨rfl, .inr ⟨w4.heap.size, 0, #[], rfl, Nat.le_refl _, heap_alloc_new w4 _, Nat.le_refl _, by decide, rfl, rfl⟩⟩
      case round =>
        obtain ⟨j, k, g, cp, rfl, rfl, hj, hk, hkn, hown, hlast, hEr⟩ := hrel
        by_cases hlt : k < n
        · have hlen : (daysF (lawG S) x (M + 1)).length = (daysF (lawG S) x j).length + (daysF (lawG S) ((x : Int) + j) (M + 1 - j)).length := by
            rw [daysF_split hj, List.length_append]
          have hpos : 0 < (daysF (lawG S) ((x : Int) + j) (M + 1 - j)).length := by
            have h1 := HN.out
            have h2 := hk.out
            omega
          obtain ⟨j', hj', hfd, hfe, hone⟩ := daysF_first hpos
          obtain ⟨J, hJ⟩ : ∃ J, J = j + j' := ⟨_, rfl⟩
          have hJM : J ≤ M := by omega
          have hc := hid (fun (W : World) (hW : Ext w4 W) => (show Calls Tryz.prog 7 #[quietV w1.heap.size, .slice (some ⟨w2.heap.size + 1 + 1, 0, none⟩) 2 2, .int .i64 ((x : Int) + j), .int .i64 ((x : Int) + M)] W fun e w' => e = .returned (.tuple #[.int .i64 ((x : Int) + J), .int .i64 0]) ∧ Ext W w' from by
            have h := next_law (HL.out.later hW) (by omega) ((x : Int) + j) (M + 1 - j) ((x : Int) + M) (by omega) (by omega) (by omega)
            rw [hfd, hfe, show (x : Int) + j + j' = x + J by omega] at h
            exact h))
          have hnew := hid (show daysF (lawG S) x (J + 1) = daysF (lawG S) x j ++ [(x : Int) + J] by
            rw [hJ, show j + j' + 1 = j + (j' + 1) by omega, daysF_add, hone, show (x : Int) + j + j' = x + ((j + j' : Nat) : Int) by omega])
          have hjJ : j ≤ J := by omega
          clear hlen hpos hj' hfd hfe hone hJ
          go_wp2_with (first
            | (refine wpList_load_val rfl 32 (.tmp 9) rfl _ rfl _ (HL.out.later hEr.out).load ?_)
            | (go_at_call 7; refine (hc.out _ hEr.out).mono ?_; rintro e w5 ⟨rfl, hE5⟩; have hown5 := hid (owns_keep hown.out (Keep.of_ext (X := fun _ => False) hE5) (fun _ _ h => h)))
            | (refine wpList_append_lies _ rfl _ _ _ rfl w4.heap.size 3 i0 _ 1 8 Tryz.underlying47 hi hz0 hz1 hz2 rfl (by omega) (.slice (some ⟨g, 0, none⟩) k cp) k _ rfl (owns_keep hown5.out (Keep.of_ext (X := fun _ => False) ((Ext.refl w5).alloc _)) (fun _ _ h => h)) ⟨w5.heap.size, 0, none⟩ 1 1 [.int .i64 ((x : Int) + J)] rfl rfl
                (World.news_of_block (heap_alloc_new w5 _)) (by simp [Value.oneCell']) (by omega) (by simp [maxLen]; omega) (by omega) (by have := (hEr.out.trans hE5).size; simp; omega) (w5.heap.size + 1) (by simp) ?_
               intro gg cap2 w6 hown6 hgrow hat hlt6))
          go_roundw
          case rel =>
            refine ⟨J + 1, k + 1, gg, cap2, rfl, by go_num, by omega, hid ?_, by omega, hid ?_, hid (fun _ => ?_), hid ?_⟩
            · rw [hnew.out, List.length_append, ← hk.out]; rfl
            · rw [hnew.out, List.map_append]; exact hown6
            · rw [hnew.out, List.getElem?_append_right (by have := hk.out; omega), ← hk.out, show k + 1 - 1 - k = 0 by omega]
              simp; omega
            · exact ((Keep.of_ext (X := fun j => w4.heap.size ≤ j) (hEr.out.trans (hE5.alloc _))).trans ((grown_keep hgrow).mono fun j _ h => owns_ge hown.out h)).ext (fun j h1 h2 => by omega)
          case measure => simp [intOf]; omega
        · obtain rfl : k = n := by omega
          have hlen : (daysF (lawG S) x (M + 1)).length = (daysF (lawG S) x j).length + (daysF (lawG S) ((x : Int) + j) (M + 1 - j)).length := by
            rw [daysF_split hj, List.length_append]
          have hnil : daysF (lawG S) ((x : Int) + j) (M + 1 - j) = [] := by
            have h1 := HN.out
            have h2 := hk.out
            exact List.eq_nil_of_length_eq_zero (by omega)
          have hall : daysF (lawG S) x (M + 1) = daysF (lawG S) x j := by rw [daysF_split hj, hnil, List.append_nil]
          have hcell := (owns_int hown.out (k := k - 1) (u := .int .i64 ((x : Int) + j - 1)) (by rw [List.getElem?_map, hlast.out (by omega)]; rfl))
          have hk1 : 1 ≤ k := by omega
          clear hlen
          go_upto_if 125 with fail
          go_cut [19, 20] (fun _ _ wx => Ext wr wx)
          case first =>
            go_wp2
            · have hjM : j ≤ M := by omega
              have c := hid (fun (r : Rg wr) => Calls.rg (p := r) (v := .tuple #[.int .i64 0, .int .i64 7]) (f := 7) (args := #[quietV w1.heap.size, .slice (some ⟨w2.heap.size + 1 + 1, 0, none⟩) 2 2, .int .i64 ((x : Int) + j), .int .i64 ((x : Int) + M)]) (by
                have h := next_law (HL.out.later (hEr.out.trans r.h)) (by omega) ((x : Int) + j) (M + 1 - j) ((x : Int) + M) (by omega) (by omega) (by omega)
                rw [hnil] at h
                exact h))
              have q1 : ∀ (r : Rg wr), (Instr.loadAt 32 (.pointer (some ⟨w2.heap.size, 0, none⟩))).run Tryz.prog r.w' = .ok (quietV w1.heap.size) r.w' := fun r => (HL.out.later (hEr.out.trans r.h)).load
              have q2 : ∀ (r : Rg wr), r.w'.cell? ⟨g, k - 1, none⟩ = some (.int .i64 ((x : Int) + j - 1)) := fun r => r.h.cell' hcell
              have hj1 : (x : Int) + j - 1 + 1 = x + j := by omega
              refine wp_region_rg (by kernel_rfl) (by kernel_rfl) ?_
              refine quiet_load_val rfl 32 (.tmp 9) rfl _ rfl (quietV w1.heap.size) (by rintro _ ⟨r, rfl⟩; exact q1 r) ?_
              simp only [Act.put, List.setIfInBounds_toArray, List.set_cons_zero, List.set_cons_succ]
              repeat (go_big_quiet_step (exact c.out _))
              refine wpQuiet_nil ?_
              intro r
              go_wp2
              go_meet
              case rel => exact r.h
            · go_meet
              case rel => exact Ext.refl _
          case rest =>
            obtain ⟨d, hd⟩ : ∃ d : Nat → Int, DaysMem wr g k S d := ⟨_, days_mem hx (by omega) hk.out hown.out⟩
            have HD := hid hd
            have HEr := hid (hEr.out.trans hcut)
            have HEc := hid (HE4.out.trans (hEr.out.trans hcut))
            have HLc := hid (HL.out.later (hEr.out.trans hcut))
            have HDc := hid (fun i (hi : i < k) => hcut.cell' (hd.cell i hi))
            obtain ⟨kf, hkf⟩ : ∃ kf : Nat → Nat, ∀ v, kf v = (v + totN (zs.map (· % k)) zs.length) % k := ⟨_, fun _ => rfl⟩
            have hkflt := hid (fun (v : Nat) => show kf v < k by rw [hkf]; exact Nat.mod_lt _ (by omega))
            have hkfinj := hid (fun (u v : Nat) (hu : u < k) (hv : v < k) (he : kf u = kf v) => show u = v by rw [hkf, hkf] at he; exact draw_inj hu hv he)
            have hpub := hid (fun (v : Nat) (hv : v < k) (W : World) (hW : Ext w W) (gv cv : Nat) (hc : ∀ i, i < zs.length + 1 → W.cell? ⟨gv, i, none⟩ = some (.int .i64 ((v :: zs.map (· % k)).getD i 0 : Nat))) =>
              (show Calls Tryz.prog 8 #[.int .i64 k, .slice (some ⟨gv, 0, none⟩) (zs.length + 1) cv] W fun e w' => e = .returned (.int .i64 (kf v : Nat)) ∧ Ext W w' from by
                have h := publicly_any k (v :: zs.map (· % k)) gv cv W (by omega) (by simp; omega) (fun u hu => by
                  rcases List.mem_cons.1 hu with rfl | hu
                  · exact hv
                  · obtain ⟨z, _, rfl⟩ := List.mem_map.1 hu
                    exact Nat.mod_lt _ (by omega)) (by simpa using hc) (hW.cell' HT.out)
                rw [List.length_cons, List.length_map, sumN_cons, ← hkf] at h
                exact h))
            have hmm := @run_makeMap Tryz.prog
            clear hd hcut hkf hown hlast hnil hall hcell hk hj HN
            go_wp2
            go_loopw [22] (fun i wq => ∃ v : Nat, v ≤ k ∧ i = .int .i64 v ∧ Hid (DrawnAt wq wc.heap.size v k d kf) ∧ Hid (Keep (· = wc.heap.size) (wc.alloc (.map #[] 0)) wq)) (fun i _ => k - (intOf i).toNat)
            case atStart => exact ⟨0, Nat.zero_le _, rfl, DrawnAt.none, Keep.refl _ _⟩
            case round =>
              obtain ⟨v, hv, rfl, hdr, hKq⟩ := hrel
              obtain ⟨wq, rfl⟩ : ∃ wq, wq = wr := ⟨_, rfl⟩
              have hEcq := hid (hKq.out.ext_of ((Ext.refl wc).alloc _) (fun j hj hx => by omega))
              have hEq := hid (HEc.out.trans hEcq.out)
              by_cases hlt2 : v < k
              · go_wp2
                go_loopw [23, 24] (fun dv i wv => ∃ q gv cv : Nat, q ≤ zs.length ∧ dv = .slice (some ⟨gv, 0, none⟩) (q + 1) cv ∧ i = .int .i64 q ∧
                  Hid (wv.ownsRow wq.heap.size 3 1 (.slice (some ⟨gv, 0, none⟩) (q + 1) cv) (q + 1) (((v :: zs.map (· % k)).take (q + 1)).map (fun u : Nat => Value.int .i64 (u : Int)))) ∧ Hid (Ext wq wv)) (fun _ i _ => zs.length - (intOf i).toNat)
                case atStart => exact ⟨0, wq.heap.size, 1, by omega, rfl, rfl, hid ⟨rfl, .inr ⟨wq.heap.size, 1, #[.int .i64 v], rfl, Nat.le_refl _, heap_alloc_new wq _, by omega, by decide, rfl, rfl⟩⟩, hid ((Ext.refl wq).alloc _)⟩
                case round =>
                  obtain ⟨q, gv, cv, hq, rfl, rfl, hown, hEv⟩ := hrel
                  obtain ⟨wv, rfl⟩ : ∃ wv, wv = wr := ⟨_, rfl⟩
                  by_cases hlt3 : q < zs.length
                  · obtain ⟨hza, hzb⟩ := HC.out q hlt3
                    obtain ⟨z, hz⟩ : ∃ z, z = zs.getD q 0 := ⟨_, rfl⟩
                    rw [← hz] at hza hzb
                    have hzc := (hEq.out.trans hEv.out).cell' hza
                    obtain ⟨R, hR, hRk, hRz⟩ : ∃ R : Nat, ((z : Int)).tmod k = R ∧ R < k ∧ Hid (R = z % k) := ⟨z % k, tmod_nat z k, Nat.mod_lt _ (by omega), hid rfl⟩
                    have hnew := hid (show (v :: zs.map (· % k)).take (q + 1 + 1) = (v :: zs.map (· % k)).take (q + 1) ++ [R] by
                      rw [List.take_succ_cons, List.take_succ_cons, List.take_add_one, List.getElem?_map, hRz.out, hz, List.getD_eq_getElem?_getD, List.getElem?_eq_getElem hlt3]; rfl)
                    clear hz hza
                    go_wp2_with (first
                      | (refine wpList_append_lies _ rfl _ _ _ rfl wq.heap.size 3 i0 _ 1 8 Tryz.underlying47 hi hz0 hz1 hz2 rfl (by omega) (.slice (some ⟨gv, 0, none⟩) (q + 1) cv) (q + 1) _ rfl (owns_keep hown.out (Keep.of_ext (X := fun _ => False) ((Ext.refl wv).alloc _)) (fun _ _ h => h)) ⟨wv.heap.size, 0, none⟩ 1 1 [.int .i64 R] rfl rfl (World.news_of_block (heap_alloc_new wv _)) (by simp [Value.oneCell']) (by omega) (by simp [maxLen]; omega) (by omega) (by have := hEv.out.size; simp; omega) (wv.heap.size + 1) (by simp) ?_
                         intro gg cap2 w6 hown6 hgrow hat hlt6))
                    go_roundw
                    case rel =>
                      refine ⟨q + 1, gg, cap2, by omega, rfl, by go_num, hid ?_, hid ?_⟩
                      · rw [hnew.out, List.map_append]; exact hown6
                      · exact ((Keep.of_ext (X := fun j => wq.heap.size ≤ j) (hEv.out.alloc _)).trans ((grown_keep hgrow).mono fun j _ h => owns_ge hown.out h)).ext (fun j h1 h2 => by omega)
                    case measure => simp [intOf]; omega
                  · obtain rfl : q = zs.length := by omega
                    have hcv : ∀ i, i < zs.length + 1 → wv.cell? ⟨gv, i, none⟩ = some (.int .i64 ((v :: zs.map (· % k)).getD i 0 : Nat)) := fun i hi => by
                      refine owns_int hown.out ?_
                      have hl : (v :: zs.map (· % k)).length = zs.length + 1 := by simp
                      rw [List.take_of_length_le (by omega), List.getElem?_map, List.getD_eq_getElem?_getD, List.getElem?_eq_getElem (by omega)]
                      rfl
                    have cpub := hid (hpub.out v hlt2 wv (hEq.out.trans hEv.out) gv cv hcv)
                    have hno' : ∀ u, u < v → kf u ≠ kf v := fun u hu he => by
                      have := hkfinj.out u v (by omega) hlt2 he
                      omega
                    have hkvk := hkflt.out v
                    obtain ⟨kv, hkv⟩ : ∃ kv, kf v = kv := ⟨_, rfl⟩
                    rw [hkv] at cpub hno' hkvk
                    have hno := hid hno'
                    have HKV := hid hkv
                    obtain ⟨dg, d0, d1⟩ := HD.out.good kv hkvk
                    have hwf := hid (WalkArith.wf_i64 (n := d kv) (by omega))
                    have hDG := hid dg
                    clear hcv hno' hkv dg
                    have hkz : decide ((kv : Int) < 0) = false := by simp
                    have hkz2 : decide ((k : Int) ≤ (kv : Int)) = false := by simp; omega
                    go_wp2_with (go_at_call 8; refine cpub.out.mono ?_; rintro e w7 ⟨rfl, hE7⟩)
                    have hE7' := hid (hEv.out.trans hE7)
                    have hEc7 := hid (hEcq.out.trans hE7'.out)
                    clear hE7
                    have c := hid (fun (r : Rg w7) => Calls.rg (p := r) (v := .tuple #[.bool true, .int .i64 (decF quietA (lawRules S) (d kv)), .int .i64 0]) (f := 9) (args := #[quietV w1.heap.size, .slice (some ⟨w2.heap.size + 1 + 1, 0, none⟩) 2 2, .int .i64 (d kv)])
                      (allowed_law (HLc.out.later (hEc7.out.trans r.h)) (by omega) (d kv) (by omega) hDG.out))
                    have q1 : ∀ (r : Rg w7), (Instr.loadAt 32 (.pointer (some ⟨w2.heap.size, 0, none⟩))).run Tryz.prog r.w' = .ok (quietV w1.heap.size) r.w' := fun r => (HLc.out.later (hEc7.out.trans r.h)).load
                    have q2 : ∀ (r : Rg w7), r.w'.cell? ⟨g, kv, none⟩ = some (.int .i64 (d kv)) := fun r => (hEc7.out.trans r.h).cell' (HDc.out kv hkvk)
                    refine wp_region_rg (by kernel_rfl) (by kernel_rfl) ?_
                    refine quiet_load_val rfl 32 (.tmp 9) rfl _ rfl (quietV w1.heap.size) (by rintro _ ⟨r, rfl⟩; exact q1 r) ?_
                    simp only [Act.put, List.setIfInBounds_toArray, List.set_cons_zero, List.set_cons_succ]
                    repeat (go_big_quiet_step (exact c.out _))
                    refine wpQuiet_nil ?_
                    intro r
                    obtain ⟨w8, hw8⟩ : ∃ w8, w8 = r.w' := ⟨_, rfl⟩
                    have hE8 := hid (show Ext w7 w8 by rw [hw8]; exact r.h)
                    have hcell8 := q2 r
                    rw [← hw8] at hcell8
                    rw [← hw8]
                    clear hw8 q1 q2 c r
                    have hlook := (hdr.out.later (hE7'.out.trans hE8.out)).fresh hkvk hno.out hwf.out
                    obtain ⟨D, hm1, hm2, hm3⟩ := hdr.out.later (hE7'.out.trans hE8.out)
                    have HM1 := hid hm1
                    have HM2 := hid hm2
                    have HM3 := hid hm3
                    clear hm1 hm2 hm3
                    go_wp2_with (first
                      | (at_mapUpdate
                         refine wpList_mapUpdate_own _ rfl _ _ _ 48 rfl 3 4 keyInt Tryz.underlying48 (plainElem Tryz.prog 4) wc.heap.size v D rfl HM1.out (by unfold maxLen; omega) _ _ (.int .i64 (d kv)) rfl rfl (keyOf_int_mk Tryz.underlying3 hwf.out) (.lit (.bool true)) [] (plainElem_bool Tryz.underlying4 true) ?_
                         intro w9 hown9 hgrow9))
                    refine ⟨⟨v + 1, by omega, by go_num, hid (DrawnAt.add HD.out.inj HM1.out HM2.out HM3.out hkvk hno.out HKV.out hown9), hid ?_⟩, by simp [intOf]; omega⟩
                    exact (hKq.out.trans (Keep.of_ext (hE7'.out.trans hE8.out))).trans ((grown_keep hgrow9).mono (fun j _ h => (Option.some.inj h).symm))
              · obtain rfl : v = k := by omega
                obtain ⟨D, hm1, hm2, _⟩ := hdr.out
                have hlen := hm1.len Tryz.underlying48 3
                rw [hm2] at hlen
                clear hm1 hm2
                go_wp2_with (go_at_call 4; refine (hkd.out _ hEq.out).mono ?_; rintro e w9 ⟨rfl, hE9⟩)
                all_goals go_ret
                all_goals exact ⟨rfl, hEq.out.trans hE9⟩
  · rcases HO.out with ⟨rfl, rfl⟩ | ⟨a, cap, rfl, hcells⟩
    · go_enter Tryz.func3, Tryz.ntmps3
      go_wp2
      refine wp_region_rg (by kernel_rfl) (by kernel_rfl) ?_
      repeat (go_big_quiet_step (fail))
      refine wpQuiet_nil ?_
      intro p
      have hE1 : Ext w p.w' := ((Ext.refl w).alloc _).trans p.h
      go_wp2_with (go_at_call 4; refine (hkd.out _ hE1).mono ?_; rintro e w2 ⟨rfl, hE2⟩)
      all_goals go_ret
      all_goals exact ⟨rfl, hE1.trans hE2⟩
    · clear hcells
      go_enter Tryz.func3, Tryz.ntmps3
      go_wp2
      refine wp_region_rg (by kernel_rfl) (by kernel_rfl) ?_
      repeat (go_big_quiet_step (fail))
      refine wpQuiet_nil ?_
      intro p
      have hE1 : Ext w p.w' := ((Ext.refl w).alloc _).trans p.h
      go_wp2_with (go_at_call 4; refine (hkd.out _ hE1).mono ?_; rintro e w2 ⟨rfl, hE2⟩)
      all_goals go_ret
      all_goals exact ⟨rfl, hE1.trans hE2⟩
end Go.Proofs.YtgjahejhpkbecaaGreatDoor
