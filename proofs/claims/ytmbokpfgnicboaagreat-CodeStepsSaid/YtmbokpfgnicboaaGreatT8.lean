import Derived.Test.YtmbokpfgnicboaaGreatT7
set_option linter.unusedVariables false
set_option linter.unusedSimpArgs false
/- The walks of codes of steps: the reference's weights and names. -/
namespace Go.Proofs.YtmbokpfgnicboaaGreat
open Go.RowKit Go.Hd Go.Sort _root_.Hd
set_option exponentiation.threshold 2000

set_option maxRecDepth 100000 in
set_option maxHeartbeats 1000000 in
theorem rweightsof_any (U d : Nat) (K : Nat → Nat) (v u : Value) (y : Nat → Nat) (ys : Value) (w : World) (hK : Kb K) (hv : ∃ A n c, v = .slice A n c) (hu : ∃ A n c, u = .slice A n c) (hy : Rd w .u8 ys ((U - 1) * d) y) (hy6 : ∀ j, j < (U - 1) * d → y j < 256) (hU2 : 2 ≤ U) (hU : U ≤ 16) (hd1 : 1 ≤ d) (hd : d ≤ 64) :
    Calls Tryz.prog 73 #[stV (U : Int) (d : Int) K v u, ys] w fun e w' => ∃ b, e = .returned (.slice (some ⟨b, 0, none⟩) (U - 1) (U - 1)) ∧ w'.rowIs b 3 (U - 1) (fun i => .int .i64 (wts (arN K ((U - 1) * d)) y d ((U - 1) * d) i : Nat)) ∧ Below w.heap.size w w' := by
  have hNU : (U - 1) * d ≤ 15 * 64 := Nat.mul_le_mul (by omega) hd
  have hNp : 0 < (U - 1) * d := Nat.mul_pos (by omega) (by omega)
  have HS := Lib.hid (st_row w (U : Int) (d : Int) K v u 29)
  have HA := Lib.hid ((Below.refl _ w).alloc (Nat.le_refl _) (.cells #[.int .i64 (U : Int), .int .i64 (d : Int), .int .u8 (K 0), .int .u8 (K 1), .int .u8 (K 2), .int .u8 (K 3), .int .u8 (K 4), .int .u8 (K 5), .int .u8 (K 6), .int .u8 (K 7), .int .u8 (K 8), .int .u8 (K 9), .int .u8 (K 10), .int .u8 (K 11), .int .u8 (K 12), .int .u8 (K 13), .int .u8 (K 14), .int .u8 (K 15), v, u] 29))
  obtain ⟨A, n', c, rfl⟩ := hv
  obtain ⟨A2, m', c2, rfl⟩ := hu
  have HDv : Hid (∀ i, i < (U - 1) * d → i / d < U - 1) := fun i hi => (Nat.div_lt_iff_lt_mul (by omega)).2 hi
  generalize (U - 1) * d = N at *
  obtain ⟨Ay, cy, rfl, _, _, h3⟩ := hy
  obtain ⟨by', offy, rfl, hcy⟩ := h3 hNp
  have HY := Lib.hid hcy
  have HY6 := Lib.hid hy6
  have HAr := Lib.hid (fun W => rarranged_any K N W hK (by omega))
  clear h3 hcy hy6
  have hmk := run_make_row' (P := Tryz.prog) 38 3 (.int .i64 0) 8 Tryz.underlying38 infoInt3 rfl .i64 .i64 (U - 1) (by omega) (by omega)
  have hU1 : ((U - 1 : Nat) : Int) = (U : Int) - 1 := by omega
  rw [hU1] at hmk
  obtain ⟨M, hM⟩ : ∃ M, M = U - 1 := ⟨_, rfl⟩
  rw [← hM] at hmk HDv hU1 ⊢
  have HM := Lib.hid hM
  have hM16 : M ≤ 16 := by omega
  clear hM hU1
  go_enter Tryz.func73, Tryz.ntmps73
  go_wp2_with (refine wp_load_cells rfl 23 _ rfl w.heap.size 2 rfl 16 _ _ _ (st_key HS.out) rfl (key_cs K) Tryz.underlying23 rfl key_size ?_)
  refine (HAr.out _).mono ?_
  rintro e w1 ⟨ba, rfl, hra, hB1⟩
  have HRa := Lib.hid hra
  have HS1 := Lib.hid (HS.out.of_block (hB1.block _ HS.out.lt))
  have HB1 := Lib.hid (below_then HA.out hB1)
  have k0 : w1.cell? ⟨w.heap.size, 0, none⟩ = some (.int .i64 (U : Int)) := HS1.out.cell (i := 0) (by omega)
  have k1 : w1.cell? ⟨w.heap.size, 1, none⟩ = some (.int .i64 (d : Int)) := HS1.out.cell (i := 1) (by omega)
  clear hra hB1
  go_wp2_with fail
  go_loopw [7] (fun s7 wr => ∃ i : Nat, i ≤ N ∧ s7 = .int .i64 i ∧ wr.rowIs w1.heap.size 3 M (fun p => .int .i64 (wts (arN K N) y d i p : Nat)) ∧ Below w1.heap.size w1 wr) (fun s7 _ => N - (intOf s7).toNat)
  case atStart => exact ⟨0, Nat.zero_le _, rfl, World.rowIs_made w1 _ M _, (Below.refl _ _).alloc (Nat.le_refl _) _⟩
  case round =>
    obtain ⟨i, hi, rfl, hrow, hbel⟩ := hrel
    obtain ⟨W0, rfl⟩ : ∃ W0 : World, W0 = wr := ⟨_, rfl⟩
    have HRow := Lib.hid hrow
    have HB := Lib.hid hbel
    have p1 := cell_below hbel k1
    by_cases hlt : i < N
    · have hc := cell_below hbel (HRa.out.cell (i := i) hlt)
      have hat := arN_lt K hlt
      obtain ⟨q, hq⟩ : ∃ q, q = arN K N i := ⟨_, rfl⟩
      rw [← hq] at hc hat
      have hcy := cell_below (below_then HB1.out hbel) (HY.out q hat)
      have hy6 := HY6.out q hat
      obtain ⟨z, hz⟩ : ∃ z : Nat, z = i / d := ⟨_, rfl⟩
      have hzI : (i : Int) / (d : Int) = (z : Int) := by rw [hz, Int.natCast_ediv]
      have hzM : z < M := by rw [hz]; exact HDv.out i hlt
      have hc2 := hrow.cell (i := z) hzM
      have hz2 := hrow.frozen z
      have hwle : wts (arN K N) y d i z ≤ d := wts_d (by omega) i z
      have hdI : (1 : Int) ≤ (d : Int) := by omega
      have hd0 : ((d : Int) == 0) = false := beq_eq_false_iff_ne.2 (by omega)
      by_cases hy1 : y q = 1
      · have HW : Hid (wts (arN K N) y d (i + 1) = upd (wts (arN K N) y d i) z (wts (arN K N) y d i z + 1)) := by
          show _ = _
          rw [wts_yes (by rw [← hq]; exact hy1), ← hz]
        rw [hy1] at hcy
        clear hrow hbel hq hz hy1
        generalize wts (arN K N) y d i z = c at *
        go_wp2
        go_roundw
        case rel =>
          refine ⟨i + 1, by omega, by go_num, ?_, HB.out.setCell (p := ⟨w1.heap.size, z, none⟩) (Nat.le_refl _) _⟩
          rw [HW.out]
          exact rowIs_upd HRow.out z _ _ (by omega)
        case measure => simp [intOf]; omega
      · have HW : Hid (wts (arN K N) y d (i + 1) = wts (arN K N) y d i) := wts_no (by rw [← hq]; exact hy1)
        have hyI : ((y q : Nat) : Int) ≠ 1 := by omega
        have hyb : (((y q : Nat) : Int) == 1) = false := beq_eq_false_iff_ne.2 hyI
        clear hrow hbel hq hz hy1
        go_wp2
        go_roundw
        case rel => exact ⟨i + 1, by omega, by go_num, HRow.out.congr (fun p hp => by rw [HW.out]), HB.out⟩
        case measure => simp [intOf]; omega
    · obtain rfl : i = N := by omega
      clear hrow hbel
      go_wp2
      go_ret
      exact ⟨w1.heap.size, rfl, HRow.out, below_then HB1.out HB.out⟩

set_option maxRecDepth 100000 in
set_option maxHeartbeats 2000000 in
theorem rnamedof_any (U d m n : Nat) (K : Nat → Nat) (v u : Value) (W : Nat → Nat) (ws : Value) (w : World) (hw : RdV w ws (U - 1) (fun j => .int .i64 (W j : Nat))) (hWd : ∀ j, j < U - 1 → W j ≤ d) (hv : Nt w v m) (hu : Nt w u n) (hm : m < B ^ 4) (hn : n < B ^ 4) (hU2 : 2 ≤ U) (hU : U ≤ 16) (hd1 : 1 ≤ d) (hd : d ≤ 64) :
    Calls Tryz.prog 76 #[stV (U : Int) (d : Int) K v u, ws] w fun e w' => ∃ sl, e = .returned sl ∧ RdV w' sl (nmL U d m n W U).length (fun j => .int .i64 ((nmL U d m n W U).getD j 0 : Nat)) ∧ Below w.heap.size w w' := by
  have HS := Lib.hid (st_row w (U : Int) (d : Int) K v u 29)
  have HA := Lib.hid ((Below.refl _ w).alloc (Nat.le_refl _) (.cells #[.int .i64 (U : Int), .int .i64 (d : Int), .int .u8 (K 0), .int .u8 (K 1), .int .u8 (K 2), .int .u8 (K 3), .int .u8 (K 4), .int .u8 (K 5), .int .u8 (K 6), .int .u8 (K 7), .int .u8 (K 8), .int .u8 (K 9), .int .u8 (K 10), .int .u8 (K 11), .int .u8 (K 12), .int .u8 (K 13), .int .u8 (K 14), .int .u8 (K 15), v, u] 29))
  have HV := Lib.hid hv
  have HU := Lib.hid hu
  have HWd := Lib.hid hWd
  obtain ⟨A1, n1, c1, rfl⟩ := hv.shape
  obtain ⟨A2, n2, c2, rfl⟩ := hu.shape
  obtain ⟨Aw, cw, rfl, _, _, h3⟩ := hw
  obtain ⟨bw, offw, rfl, hcw⟩ := h3 (by omega)
  have HCw := Lib.hid hcw
  have HE : Hid ((w.alloc (.cells #[.int .i64 (U : Int), .int .i64 (d : Int), .int .u8 (K 0), .int .u8 (K 1), .int .u8 (K 2), .int .u8 (K 3), .int .u8 (K 4), .int .u8 (K 5), .int .u8 (K 6), .int .u8 (K 7), .int .u8 (K 8), .int .u8 (K 9), .int .u8 (K 10), .int .u8 (K 11), .int .u8 (K 12), .int .u8 (K 13), .int .u8 (K 14), .int .u8 (K 15), (.slice A1 n1 c1), (.slice A2 n2 c2)] 29)).ownsRow (w.heap.size + 1) 3 1 (.slice none 0 0) 0 []) := World.ownsRow_nil _ _ _ _
  clear hv hu h3 hcw hWd
  go_enter Tryz.func76, Tryz.ntmps76
  go_wp2_with fail
  generalize hW0 : w.alloc (.cells #[.int .i64 (U : Int), .int .i64 (d : Int), .int .u8 (K 0), .int .u8 (K 1), .int .u8 (K 2), .int .u8 (K 3), .int .u8 (K 4), .int .u8 (K 5), .int .u8 (K 6), .int .u8 (K 7), .int .u8 (K 8), .int .u8 (K 9), .int .u8 (K 10), .int .u8 (K 11), .int .u8 (K 12), .int .u8 (K 13), .int .u8 (K 14), .int .u8 (K 15), (.slice A1 n1 c1), (.slice A2 n2 c2)] 29) = w1 at *
  have hsz1 : w1.heap.size = w.heap.size + 1 := by rw [← hW0]; simp
  rw [← hsz1] at HE
  have hlw : w.heap.size < w1.heap.size := by omega
  clear hW0 hsz1
  go_loopw [5, 6] (fun s5 s6 wr => ∃ k : Nat, k ≤ U ∧ s6 = .int .i64 k ∧ Hid (wr.ownsRow w1.heap.size 3 1 s5 (nmL U d m n W k).length ((nmL U d m n W k).map fun x => .int .i64 (x : Nat))) ∧ Below w1.heap.size w1 wr) (fun _ s6 _ => U - (intOf s6).toNat)
  case atStart => exact ⟨0, Nat.zero_le _, rfl, HE.out, Below.refl _ _⟩
  case round =>
    obtain ⟨k, hk, rfl, hown, hbel⟩ := hrel
    obtain ⟨W0, rfl⟩ : ∃ W0 : World, W0 = wr := ⟨_, rfl⟩
    have HBel := Lib.hid hbel
    have hsz := hbel.size
    have HSr := Lib.hid (HS.out.of_block (hbel.block _ hlw))
    have p0 : W0.cell? ⟨w.heap.size, 0, none⟩ = some (.int .i64 (U : Int)) := HSr.out.cell (i := 0) (by omega)
    have p1 : W0.cell? ⟨w.heap.size, 1, none⟩ = some (.int .i64 (d : Int)) := HSr.out.cell (i := 1) (by omega)
    have HBw := Lib.hid (below_then HA.out hbel)
    obtain ⟨A6, c6, rfl⟩ := own_slice hown.out
    by_cases hlt : k < U
    · obtain ⟨b, hb⟩ : ∃ b, b = nmd U d m n W k := ⟨_, rfl⟩
      have HNb := Lib.hid hb
      have HWr : Hid (∀ j, j < U - 1 → W0.cell? ⟨bw, offw + j, none⟩ = some (.int .i64 (W j : Nat))) := fun j hj => cell_below HBw.out (HCw.out j hj)
      clear hbel hb
      go_upto_if 15 with fail
      go_cut [7] (fun s7 wx => s7 = .bool b ∧ Below W0.heap.size W0 wx)
      case first =>
        by_cases hk0 : k = 0
        · subst hk0
          have c0 := HWr.out 0 (by omega)
          rw [Nat.add_zero] at c0
          have hnb := HNb.out
          rw [nmd_first] at hnb
          by_cases h0 : 0 < W 0
          · have HT : Hid (b = true) := by show _ = _; rw [hnb]; exact decide_eq_true h0
            clear hnb
            go_wp2_with fail
            go_meet
            case rel => exact ⟨by rw [HT.out], Below.refl _ _⟩
          · have HT : Hid (b = false) := by show _ = _; rw [hnb]; exact decide_eq_false h0
            clear hnb
            go_wp2_with fail
            go_meet
            case rel => exact ⟨by rw [HT.out], Below.refl _ _⟩
        · have hk0b : ((k : Int) == 0) = false := beq_eq_false_iff_ne.2 (by omega)
          obtain ⟨q, hq⟩ : ∃ q, q = k - 1 := ⟨_, rfl⟩
          have hqI : (k : Int) - 1 = (q : Int) := by omega
          have cq := HWr.out q (by omega)
          have hqN : q < U - 1 := by omega
          have hwq : IntKind.i64.wrap ((k : Int) - 1) = (q : Int) := by rw [IntKind.wrap_i64]; omega
          have hwq2 : IntKind.i64.wrap (q : Int) = (q : Int) := by rw [IntKind.wrap_i64]; omega
          have hq0 : (0 : Int) ≤ (q : Int) := by omega
          have hwU : IntKind.i64.wrap ((U : Int) - 1) = (U : Int) - 1 := by rw [IntKind.wrap_i64]; omega
          have HQd := Lib.hid (HWd.out q (by omega))
          by_cases hkl : k = U - 1
          · have hklb : ((k : Int) == (U : Int) - 1) = true := by rw [beq_iff_eq]; omega
            have hnb := HNb.out
            rw [nmd_last hk0 hkl, ← hq] at hnb
            by_cases h0 : W q < d
            · have HT : Hid (b = true) := by show _ = _; rw [hnb]; exact decide_eq_true h0
              clear hnb hq hkl hk0
              generalize W q = x at *
              go_wp2_with fail
              go_quiet (fail)
              go_wp2_with fail
              go_meet
              case rel => exact ⟨by rw [HT.out], below_drewN (Below.refl _ _) _⟩
            · have HT : Hid (b = false) := by show _ = _; rw [hnb]; exact decide_eq_false h0
              clear hnb hq hkl hk0
              generalize W q = x at *
              go_wp2_with fail
              go_quiet (fail)
              go_wp2_with fail
              go_meet
              case rel => exact ⟨by rw [HT.out], below_drewN (Below.refl _ _) _⟩
          · have hklb : ((k : Int) == (U : Int) - 1) = false := beq_eq_false_iff_ne.2 (by omega)
            have hnb := HNb.out
            rw [nmd_mid hk0 hkl, ← hq] at hnb
            have ck := HWr.out k (by omega)
            have hkN : k < U - 1 := by omega
            have HKd := Lib.hid (HWd.out k (by omega))
            obtain ⟨t, ht⟩ : ∃ t, t = W q + W k := ⟨_, rfl⟩
            rw [← ht] at hnb
            have HQq : Hid (∀ dd os, Calls Tryz.prog 125 #[stV (U : Int) (d : Int) K (.slice A1 n1 c1) (.slice A2 n2 c2), .int .i64 t] (grow (redrawn W0 dd) os) fun e w'' => e = .returned (.int .i64 (thr d m n t)) ∧ ∃ p : Regrown, w'' = grow (redrawn W0 p.d) p.os) := fun dd os => Calls.regrown_of (rthresholdof_any (U : Int) d t m n K _ _ _ (HV.out.below (below_then HBw.out (below_regrown W0 dd os))) (HU.out.below (below_then HBw.out (below_regrown W0 dd os))) hd (by have := HQd.out; have := HKd.out; omega) hm hn)
            have kcq := cell_regrown cq
            have kck := cell_regrown ck
            have htw : IntKind.i64.wrap (((W q : Nat) : Int) + ((W k : Nat) : Int)) = (t : Int) := by have := HQd.out; have := HKd.out; rw [IntKind.wrap_i64]; omega
            have hk0I : (0 : Int) ≤ (k : Int) := by omega
            clear hq hkl hk0 ht
            generalize W q = x at *
            generalize W k = x2 at *
            generalize thr d m n t = th at *
            by_cases h0 : (x : Int) ≤ th
            · have HT : Hid (b = true) := by show _ = _; rw [hnb]; exact decide_eq_true h0
              clear hnb
              go_wp2_with fail
              refine wp_region_quiet_below (by kernel_rfl) (by kernel_rfl) ?_
              repeat (quiet_step (fail))
              refine quiet_load_cells rfl 29 _ rfl w.heap.size 0 rfl 20 _ _ _ (fun W hW j hj => by obtain ⟨p, rfl⟩ := hW; rw [Nat.zero_add]; exact cell_regrown (HSr.out.cell hj) _ _) rfl (st_cs _ _ _ _ _) Tryz.underlying29 rfl st_size ?_
              repeat (quiet_step (exact HQq.out _ _))
              refine wpQuiet_nil ?_
              intro w4 hw4
              have hb4 : Below W0.heap.size W0 w4 := by obtain ⟨p, rfl⟩ := hw4; exact below_regrown _ _ _
              have HB4 := Lib.hid hb4
              clear hb4 hw4
              go_wp2_with fail
              go_meet
              case rel => exact ⟨by rw [HT.out], HB4.out⟩
            · have HT : Hid (b = false) := by show _ = _; rw [hnb]; exact decide_eq_false h0
              clear hnb
              go_wp2_with fail
              refine wp_region_quiet_below (by kernel_rfl) (by kernel_rfl) ?_
              repeat (quiet_step (fail))
              refine quiet_load_cells rfl 29 _ rfl w.heap.size 0 rfl 20 _ _ _ (fun W hW j hj => by obtain ⟨p, rfl⟩ := hW; rw [Nat.zero_add]; exact cell_regrown (HSr.out.cell hj) _ _) rfl (st_cs _ _ _ _ _) Tryz.underlying29 rfl st_size ?_
              repeat (quiet_step (exact HQq.out _ _))
              refine wpQuiet_nil ?_
              intro w4 hw4
              have hb4 : Below W0.heap.size W0 w4 := by obtain ⟨p, rfl⟩ := hw4; exact below_regrown _ _ _
              have HB4 := Lib.hid hb4
              clear hb4 hw4
              go_wp2_with fail
              go_meet
              case rel => exact ⟨by rw [HT.out, decide_eq_false (by omega)], HB4.out⟩
      case rest =>
        obtain ⟨rfl, hbx⟩ := hcut
        have HBx := Lib.hid (below_then HBel.out hbx)
        have HOx := Lib.hid (own_below hown.out hbx)
        have hszx := hbx.size
        clear hbx hown p0 p1
        cases b with
        | true =>
          have HL := Lib.hid (nmL_yes HNb.out.symm)
          go_wp2_with (at_builtin; refine wp_app w1.heap.size rfl _ _ 38 3 (.int .i64 0) 8 rfl Tryz.underlying38 infoInt3 rfl (by decide) (.slice A6 _ c6) _ rfl _ 1 (fun _ => .int .i64 (k : Nat)) rfl (rdV_one _ _ _) (fun _ _ => rfl) (by rw [List.length_map]; exact own_below HOx.out ((Below.refl _ _).alloc (Nat.le_refl _) _)) (by simp; omega) (by simp; have := nmL_len U d m n k W; omega) ?_; intro v5 w5 hown5 hg5; have HO5 := Lib.hid hown5; have HG5 := Lib.hid hg5; clear hown5 hg5)
          go_roundw
          case rel =>
            refine ⟨k + 1, by omega, by go_num, ?_, ?_⟩
            · have h := HO5.out
              rw [List.length_map] at h
              rw [HL.out, List.map_append, List.length_append]
              exact h
            · exact below_own ((HBx.out.alloc (by omega) _)) (own_below HOx.out ((Below.refl _ _).alloc (Nat.le_refl _) _)) HG5.out (by simp; omega)
          case measure => simp [intOf]; omega
        | false =>
          have HL := Lib.hid (nmL_no HNb.out.symm)
          go_wp2_with fail
          go_roundw
          case rel => exact ⟨k + 1, by omega, by go_num, by rw [HL.out]; exact HOx.out, HBx.out⟩
          case measure => simp [intOf]; omega
    · obtain rfl : k = U := by omega
      clear hbel
      go_wp2
      go_ret
      exact ⟨_, rfl, rdV_of_own hown.out _ (fun j hj => by simp [List.getD_eq_getElem?_getD, hj]), below_then HA.out HBel.out⟩

set_option maxRecDepth 100000 in
theorem sameInts_any (n m : Nat) (F G : Nat → Int) (v u : Value) (w : World) (hv : RdV w v n (fun j => .int .i64 (F j))) (hu : RdV w u m (fun j => .int .i64 (G j))) :
    Calls Tryz.prog 25 #[v, u] w fun e w' => e = .returned (.bool (tt (n = m ∧ ∀ j, j < n → F j = G j))) ∧ Below w.heap.size w w' := by
  obtain ⟨T, hT⟩ : ∃ T : Bool, T = tt (n = m ∧ ∀ j, j < n → F j = G j) := ⟨_, rfl⟩
  rw [← hT]
  have HTT := Lib.hid hT
  clear hT
  obtain ⟨A, c, rfl, h1, h2, h3⟩ := hv
  obtain ⟨A2, c2, rfl, k1, k2, k3⟩ := hu
  have hn : n ≤ 9223372036854775807 := by unfold maxLen at h2; omega
  have hm : m ≤ 9223372036854775807 := by unfold maxLen at k2; omega
  have H3 := Lib.hid h3
  have K3 := Lib.hid k3
  clear h1 h2 h3 k1 k2 k3
  by_cases hnm : n = m
  · subst hnm
    go_enter Tryz.func25, Tryz.ntmps25
    go_wp2_with fail
    go_loopw [5] (fun s5 wr => ∃ i : Nat, i ≤ n ∧ s5 = .int .i64 i ∧ Hid (∀ j, j < i → F j = G j) ∧ Below w.heap.size w wr) (fun s5 _ => n - (intOf s5).toNat)
    case atStart => exact ⟨0, Nat.zero_le _, rfl, fun j hj => by omega, Below.refl _ _⟩
    case round =>
      obtain ⟨i, hi, rfl, hall, hbel⟩ := hrel
      obtain ⟨W0, rfl⟩ : ∃ W0 : World, W0 = wr := ⟨_, rfl⟩
      have HB := Lib.hid hbel
      clear hbel
      by_cases hlt : i < n
      · obtain ⟨b, off, rfl, hc⟩ := H3.out (by omega)
        obtain ⟨b2, off2, rfl, hc2⟩ := K3.out (by omega)
        have c1 := cell_below HB.out (hc i hlt)
        have c2' := cell_below HB.out (hc2 i hlt)
        have hi0 : (0 : Int) ≤ (i : Int) := by omega
        clear hc hc2
        by_cases he : F i = G i
        · have hne : (F i != G i) = false := by rw [bne_eq_false_iff_eq]; exact he
          have HE := Lib.hid he
          clear he
          go_wp2_with fail
          go_quiet (fail)
          go_wp2
          go_roundw
          case rel => exact ⟨i + 1, by omega, by go_num, fun j hj => by
            rcases Nat.lt_or_ge j i with h | h
            · exact hall.out j h
            · obtain rfl : j = i := by omega
              exact HE.out, below_drewN HB.out _⟩
          case measure => simp [intOf]; omega
        · have hne : (F i != G i) = true := by rw [bne_iff_ne]; exact he
          have HT : Hid (T = false) := HTT.out.trans (tt_neg (fun h => he (h.2 i hlt)))
          clear he
          go_wp2_with fail
          go_quiet (fail)
          go_wp2
          go_ret
          exact ⟨by rw [HT.out]; rfl, below_drewN HB.out _⟩
      · obtain rfl : i = n := by omega
        have HT : Hid (T = true) := HTT.out.trans (tt_pos (by refine ⟨?_, hall.out⟩; first | rfl | trivial))
        go_wp2
        go_ret
        exact ⟨by rw [HT.out]; rfl, HB.out⟩
  · have HT : Hid (T = false) := HTT.out.trans (tt_neg (fun h => hnm h.1))
    have hne : ((n : Int) != (m : Int)) = true := by rw [bne_iff_ne]; omega
    clear hnm
    go_enter Tryz.func25, Tryz.ntmps25
    go_wp2
    go_ret
    exact ⟨by rw [HT.out]; rfl, Below.refl _ _⟩
end Go.Proofs.YtmbokpfgnicboaaGreat
