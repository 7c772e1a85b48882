import Derived.Test.YtmbokpfgnicboaaGreatT4
import Derived.Test.YtmbokpfgnicboaaGreatPo
import Derived.Lib.QuietBelow
import Derived.Deep.DeepCutAuto
import Derived.Deep.CutBlock
set_option linter.unusedVariables false
set_option linter.unusedSimpArgs false
/- The walks of codes of steps: who is named. -/
namespace Go.Proofs.YtmbokpfgnicboaaGreat
open Go.RowKit Go.Hd Go.Sort _root_.Hd
set_option exponentiation.threshold 2000

theorem SsAt.st {w : World} {bs ba U d : Nat} {K : Nat → Nat} {v u : Value} (h : SsAt w bs ba U d K v u) : ∀ j, j < 20 → w.cell? ⟨bs, j, none⟩ = some (stF (U : Int) (d : Int) K v u j) := fun j hj => by
  rw [h.1.cell (i := j) (by omega)]
  unfold ssF
  rw [if_pos hj]

set_option maxRecDepth 100000 in
set_option maxHeartbeats 2000000 in
theorem names_any (bs ba U d m n : Nat) (K : Nat → Nat) (v u : Value) (y : Nat → Nat) (ys : Value) (w : World) (hS : SsAt w bs ba U d K v u) (hv : Nt w v m) (hu : Nt w u n) (hm : m < B ^ 4) (hn : n < B ^ 4) (hy : Rd w .u8 ys ((U - 1) * d) y) (hy6 : ∀ j, j < (U - 1) * d → y j < 256) (hU2 : 2 ≤ U) (hU : U ≤ 16) (hd1 : 1 ≤ d) (hd : d ≤ 64) :
    Calls Tryz.prog 75 #[.pointer (some ⟨bs, 0, none⟩), ys] w fun e w' => ∃ sl, e = .returned sl ∧ RdV w' sl (nmL U d m n (wts (arN K ((U - 1) * d)) y d ((U - 1) * d)) U).length (fun j => .int .i64 ((nmL U d m n (wts (arN K ((U - 1) * d)) y d ((U - 1) * d)) U).getD j 0 : Nat)) ∧ Below w.heap.size w w' := by
  have HWt := Lib.hid (weights_any bs ba U d K v u y ys w hS hy hy6 hU2 hU hd1 hd)
  have HWd := Lib.hid (fun b => wts_d (a := arN K ((U - 1) * d)) (y := y) hd1 ((U - 1) * d) b)
  obtain ⟨Ay, ny, cy, rfl⟩ : ∃ A n c, ys = .slice A n c := by obtain ⟨A, c, h, _⟩ := hy; exact ⟨_, _, _, h⟩
  generalize wts (arN K ((U - 1) * d)) y d ((U - 1) * d) = W at *
  have HS := Lib.hid hS
  have HV := Lib.hid hv
  have HU := Lib.hid hu
  obtain ⟨A1, n1, c1, rfl⟩ := hv.shape
  obtain ⟨A2, n2, c2, rfl⟩ := hu.shape
  clear hS hv hu hy hy6
  go_enter Tryz.func75, Tryz.ntmps75
  go_wp2_with fail
  refine HWt.out.mono ?_
  rintro e w1 ⟨bw, rfl, hrow, hbw, hB1⟩
  have HB1 := Lib.hid hB1
  have HS1 := Lib.hid (HS.out.below hB1)
  have HRow := Lib.hid hrow
  obtain ⟨k0, k1, _⟩ := HS1.out.cells
  have HE : Hid (w1.ownsRow w1.heap.size 3 1 (.slice none 0 0) 0 []) := World.ownsRow_nil _ _ _ _
  clear hrow hbw hB1
  go_wp2_with fail
  go_loopw [6, 17] (fun s6 s17 wr => ∃ k : Nat, k ≤ U ∧ s17 = .int .i64 k ∧ Hid (wr.ownsRow w1.heap.size 3 1 s6 (nmL U d m n W k).length ((nmL U d m n W k).map fun x => .int .i64 (x : Nat))) ∧ Below w1.heap.size w1 wr) (fun _ s17 _ => U - (intOf s17).toNat)
  case atStart => exact ⟨0, Nat.zero_le _, rfl, HE.out, Below.refl _ _⟩
  case round =>
    obtain ⟨k, hk, rfl, hown, hbel⟩ := hrel
    obtain ⟨W0, rfl⟩ : ∃ W0 : World, W0 = wr := ⟨_, rfl⟩
    have HBel := Lib.hid hbel
    have hsz := hbel.size
    obtain ⟨A6, c6, rfl⟩ := own_slice hown.out
    by_cases hlt : k < U
    · have HS0 := Lib.hid (HS1.out.below hbel)
      obtain ⟨b, hb⟩ : ∃ b, b = nmd U d m n W k := ⟨_, rfl⟩
      have HNb := Lib.hid hb
      have HWr : Hid (∀ j, j < U - 1 → W0.cell? ⟨bw, j, none⟩ = some (.int .i64 (W j : Nat))) := fun j hj => cell_below HBel.out (HRow.out.cell hj)
      have p0 := cell_below hbel k0
      have p1 := cell_below hbel k1
      clear hbel hb
      go_upto_block 2 with fail
      go_cut [8] (fun s8 wx => s8 = .bool b ∧ Below W0.heap.size W0 wx)
      case first =>
        by_cases hk0 : k = 0
        · subst hk0
          have c0 := HWr.out 0 (by omega)
          have hnb := HNb.out
          rw [nmd_first] at hnb
          by_cases h0 : 0 < W 0
          · have HT : Hid (b = true) := by show _ = _; rw [hnb]; exact decide_eq_true h0
            clear hnb
            go_wp2_with fail
            go_meet
            case rel => exact ⟨by rw [HT.out], Below.refl _ _⟩
          · have HT : Hid (b = false) := by show _ = _; rw [hnb]; exact decide_eq_false h0
            clear hnb
            go_wp2_with fail
            go_meet
            case rel => exact ⟨by rw [HT.out], Below.refl _ _⟩
        · have hk0b : ((k : Int) == 0) = false := beq_eq_false_iff_ne.2 (by omega)
          obtain ⟨q, hq⟩ : ∃ q, q = k - 1 := ⟨_, rfl⟩
          have hqI : (k : Int) - 1 = (q : Int) := by omega
          have cq := HWr.out q (by omega)
          have hqM : (q : Int) < ((U - 1 : Nat) : Int) := by omega
          have hUI : ((U - 1 : Nat) : Int) = (U : Int) - 1 := by omega
          have hqN : q < U - 1 := by omega
          have hwq : IntKind.i64.wrap ((k : Int) - 1) = (q : Int) := by rw [IntKind.wrap_i64]; omega
          have hq0 : (0 : Int) ≤ (q : Int) := by omega
          have hwq2 : IntKind.i64.wrap (q : Int) = (q : Int) := by rw [IntKind.wrap_i64]; omega
          have HQd := Lib.hid (HWd.out q)
          have HQ := Lib.hid hq
          by_cases hkl : k = U - 1
          · have hklb : ((k : Int) == (U : Int) - 1) = true := by rw [beq_iff_eq]; omega
            have hnb := HNb.out
            rw [nmd_last hk0 hkl, ← hq] at hnb
            have hwU : IntKind.i64.wrap ((U : Int) - 1) = (U : Int) - 1 := by rw [IntKind.wrap_i64]; omega
            by_cases h0 : W q < d
            · have HT : Hid (b = true) := by show _ = _; rw [hnb]; exact decide_eq_true h0
              clear hnb hq hkl hk0
              generalize W q = x at *
              go_wp2_with fail
              go_quiet (fail)
              go_wp2_with fail
              go_meet
              case rel => exact ⟨by rw [HT.out], below_drewN (Below.refl _ _) _⟩
            · have HT : Hid (b = false) := by show _ = _; rw [hnb]; exact decide_eq_false h0
              clear hnb hq hkl hk0
              generalize W q = x at *
              go_wp2_with fail
              go_quiet (fail)
              go_wp2_with fail
              go_meet
              case rel => exact ⟨by rw [HT.out], below_drewN (Below.refl _ _) _⟩
          · have hklb : ((k : Int) == (U : Int) - 1) = false := beq_eq_false_iff_ne.2 (by omega)
            have hnb := HNb.out
            rw [nmd_mid hk0 hkl, ← hq] at hnb
            have ck := HWr.out k (by omega)
            have hkM : (k : Int) < ((U - 1 : Nat) : Int) := by omega
            have hkN : k < U - 1 := by omega
            have hqU : (q : Int) < (U : Int) - 1 := by omega
            have hkU : (k : Int) < (U : Int) - 1 := by omega
            have HKd := Lib.hid (HWd.out k)
            have hwU : IntKind.i64.wrap ((U : Int) - 1) = (U : Int) - 1 := by rw [IntKind.wrap_i64]; omega
            obtain ⟨t, ht⟩ : ∃ t, t = W q + W k := ⟨_, rfl⟩
            rw [← ht] at hnb
            have HQq : Hid (∀ dd os, Calls Tryz.prog 106 #[stV (U : Int) (d : Int) K (.slice A1 n1 c1) (.slice A2 n2 c2), .int .i64 t] (grow (redrawn W0 dd) os) fun e w'' => e = .returned (.int .i64 (thr d m n t)) ∧ ∃ p : Regrown, w'' = grow (redrawn W0 p.d) p.os) := fun dd os => Calls.regrown_of (threshold_any (U : Int) d t m n K _ _ _ (HV.out.below (below_then HB1.out (below_then HBel.out (below_regrown W0 dd os)))) (HU.out.below (below_then HB1.out (below_then HBel.out (below_regrown W0 dd os)))) hd (by have := HQd.out; have := HKd.out; omega) hm hn)
            have kcq := cell_regrown cq
            have kck := cell_regrown ck
            have htw : IntKind.i64.wrap (((W q : Nat) : Int) + ((W k : Nat) : Int)) = (t : Int) := by have := HQd.out; have := HKd.out; rw [IntKind.wrap_i64]; omega
            have hk0I : (0 : Int) ≤ (k : Int) := by omega
            clear hq hkl hk0 ht
            generalize W q = x at *
            generalize W k = x2 at *
            generalize thr d m n t = th at *
            by_cases h0 : (x : Int) ≤ th
            · have HT : Hid (b = true) := by show _ = _; rw [hnb]; exact decide_eq_true h0
              clear hnb
              go_wp2_with fail
              refine wp_region_quiet_below (by kernel_rfl) (by kernel_rfl) ?_
              repeat (quiet_step (fail))
              refine quiet_load_cells rfl 29 _ rfl bs 0 rfl 20 _ _ _ (fun W hW j hj => by obtain ⟨p, rfl⟩ := hW; rw [Nat.zero_add]; exact cell_regrown (HS0.out.st j hj) _ _) rfl (st_cs _ _ _ _ _) Tryz.underlying29 rfl st_size ?_
              repeat (quiet_step (exact HQq.out _ _))
              refine wpQuiet_nil ?_
              intro w4 hw4
              have hb4 : Below W0.heap.size W0 w4 := by obtain ⟨p, rfl⟩ := hw4; exact below_regrown _ _ _
              have HB4 := Lib.hid hb4
              clear hb4 hw4
              go_wp2_with fail
              go_meet
              case rel => exact ⟨by rw [HT.out], HB4.out⟩
            · have HT : Hid (b = false) := by show _ = _; rw [hnb]; exact decide_eq_false h0
              clear hnb
              go_wp2_with fail
              refine wp_region_quiet_below (by kernel_rfl) (by kernel_rfl) ?_
              repeat (quiet_step (fail))
              refine quiet_load_cells rfl 29 _ rfl bs 0 rfl 20 _ _ _ (fun W hW j hj => by obtain ⟨p, rfl⟩ := hW; rw [Nat.zero_add]; exact cell_regrown (HS0.out.st j hj) _ _) rfl (st_cs _ _ _ _ _) Tryz.underlying29 rfl st_size ?_
              repeat (quiet_step (exact HQq.out _ _))
              refine wpQuiet_nil ?_
              intro w4 hw4
              have hb4 : Below W0.heap.size W0 w4 := by obtain ⟨p, rfl⟩ := hw4; exact below_regrown _ _ _
              have HB4 := Lib.hid hb4
              clear hb4 hw4
              go_wp2_with fail
              go_meet
              case rel => exact ⟨by rw [HT.out, decide_eq_false (by omega)], HB4.out⟩
      case rest =>
        obtain ⟨rfl, hbx⟩ := hcut
        have HBx := Lib.hid (below_then HBel.out hbx)
        have HOx := Lib.hid (own_below hown.out hbx)
        have hszx := hbx.size
        clear hbx hown
        cases b with
        | true =>
          have HL := Lib.hid (nmL_yes HNb.out.symm)
          go_wp2_with (at_builtin; refine wp_app w1.heap.size rfl _ _ 38 3 (.int .i64 0) 8 rfl Tryz.underlying38 infoInt3 rfl (by decide) (.slice A6 _ c6) _ rfl _ 1 (fun _ => .int .i64 (k : Nat)) rfl (rdV_one _ _ _) (fun _ _ => rfl) (by rw [List.length_map]; exact own_below HOx.out ((Below.refl _ _).alloc (Nat.le_refl _) _)) (by simp; omega) (by simp; have := nmL_len U d m n k W; omega) ?_; intro v5 w5 hown5 hg5; have HO5 := Lib.hid hown5; have HG5 := Lib.hid hg5; clear hown5 hg5)
          go_roundw
          case rel =>
            refine ⟨k + 1, by omega, by go_num, ?_, ?_⟩
            · have h := HO5.out
              rw [List.length_map] at h
              rw [HL.out, List.map_append, List.length_append]
              exact h
            · exact below_own ((HBx.out.alloc (by omega) _)) (own_below HOx.out ((Below.refl _ _).alloc (Nat.le_refl _) _)) HG5.out (by simp; omega)
          case measure => simp [intOf]; omega
        | false =>
          have HL := Lib.hid (nmL_no HNb.out.symm)
          go_wp2_with fail
          go_roundw
          case rel => exact ⟨k + 1, by omega, by go_num, by rw [HL.out]; exact HOx.out, HBx.out⟩
          case measure => simp [intOf]; omega
    · obtain rfl : k = U := by omega
      clear hbel
      go_wp2
      go_ret
      exact ⟨_, rfl, rdV_of_own hown.out _ (fun j hj => by simp [List.getD_eq_getElem?_getD, hj]), below_then HB1.out HBel.out⟩
end Go.Proofs.YtmbokpfgnicboaaGreat
