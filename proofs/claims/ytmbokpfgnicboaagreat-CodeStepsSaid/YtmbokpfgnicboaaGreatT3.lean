import Derived.Test.YtmbokpfgnicboaaGreatT2
import Derived.Test.YtmbokpfgnicboaaGreatMarks
set_option linter.unusedVariables false
set_option linter.unusedSimpArgs false
/- The walks of codes of steps: the reference's words. -/
namespace Go.Proofs.YtmbokpfgnicboaaGreat
open Go.RowKit Go.Hd Go.Sort _root_.Hd

set_option maxRecDepth 100000 in
set_option maxHeartbeats 1000000 in
theorem rstepsword_any (U d : Nat) (K : Nat → Nat) (v u : Value) (x : Nat) (w : World) (hK : Kb K) (hU2 : 2 ≤ U) (hU : U ≤ 16) (hd1 : 1 ≤ d) (hd : d ≤ 64) (hx : x < U) (hv : ∃ A n c, v = .slice A n c) (hu : ∃ A n c, u = .slice A n c) :
    Calls Tryz.prog 68 #[stV (U : Int) (d : Int) K v u, .int .i64 x] w fun e w' => ∃ b, e = .returned (.slice (some ⟨b, 0, none⟩) ((U - 1) * d) ((U - 1) * d)) ∧ w'.rowIs b 5 ((U - 1) * d) (fun i => .int .u8 (mrk (arN K ((U - 1) * d)) (x * d) ((U - 1) * d) i : Nat)) ∧ Below w.heap.size w w' := by
  have HS := Lib.hid (st_row w (U : Int) (d : Int) K v u 29)
  obtain ⟨A, n', c, rfl⟩ := hv
  obtain ⟨A2, m', c2, rfl⟩ := hu
  have hNU : (U - 1) * d ≤ 15 * 64 := Nat.mul_le_mul (by omega) hd
  have hNI : ((U : Int) - 1) * (d : Int) = (((U - 1) * d : Nat) : Int) := by rw [Int.natCast_mul, show ((U - 1 : Nat) : Int) = (U : Int) - 1 by omega]
  generalize (U - 1) * d = N at *
  have HAr := Lib.hid (fun W => rarranged_any K N W hK (by omega))
  have hmk := run_make_row' (P := Tryz.prog) 30 5 (.int .u8 0) 1 Tryz.underlying30 infoU8 rfl .i64 .i64 N (by omega) (by omega)
  have k0 : (w.alloc (.cells #[.int .i64 (U : Int), .int .i64 (d : Int), .int .u8 (K 0), .int .u8 (K 1), .int .u8 (K 2), .int .u8 (K 3), .int .u8 (K 4), .int .u8 (K 5), .int .u8 (K 6), .int .u8 (K 7), .int .u8 (K 8), .int .u8 (K 9), .int .u8 (K 10), .int .u8 (K 11), .int .u8 (K 12), .int .u8 (K 13), .int .u8 (K 14), .int .u8 (K 15), (.slice A n' c), (.slice A2 m' c2)] 29)).cell? ⟨w.heap.size, 0, none⟩ = some (.int .i64 U) := HS.out.cell (i := 0) (by omega)
  have k1 : (w.alloc (.cells #[.int .i64 (U : Int), .int .i64 (d : Int), .int .u8 (K 0), .int .u8 (K 1), .int .u8 (K 2), .int .u8 (K 3), .int .u8 (K 4), .int .u8 (K 5), .int .u8 (K 6), .int .u8 (K 7), .int .u8 (K 8), .int .u8 (K 9), .int .u8 (K 10), .int .u8 (K 11), .int .u8 (K 12), .int .u8 (K 13), .int .u8 (K 14), .int .u8 (K 15), (.slice A n' c), (.slice A2 m' c2)] 29)).cell? ⟨w.heap.size, 1, none⟩ = some (.int .i64 d) := HS.out.cell (i := 1) (by omega)
  have hw2 : IntKind.i64.wrap (((U : Int) - 1) * (d : Int)) = (N : Int) := by rw [hNI, IntKind.wrap_i64]; omega
  have hw3 : IntKind.i64.wrap (N : Int) = (N : Int) := by rw [IntKind.wrap_i64]; omega
  have HX : Hid (∀ i : Nat, ((x : Int) ≤ (i : Int) / (d : Int) ↔ x * d ≤ i)) := fun i => by
    rw [← Int.natCast_ediv, Int.ofNat_le, Nat.le_div_iff_mul_le (by omega)]
  go_enter Tryz.func68, Tryz.ntmps68
  go_wp2_with (refine wp_load_cells rfl 23 _ rfl w.heap.size 2 rfl 16 _ _ _ (st_key HS.out) rfl (key_cs K) Tryz.underlying23 rfl key_size ?_)
  refine (HAr.out _).mono ?_
  rintro e w1 ⟨ba, rfl, hrow, hB1⟩
  have HRa := Lib.hid hrow
  have HB1 := Lib.hid (below_then ((Below.refl _ w).alloc (Nat.le_refl _) (.cells #[.int .i64 (U : Int), .int .i64 (d : Int), .int .u8 (K 0), .int .u8 (K 1), .int .u8 (K 2), .int .u8 (K 3), .int .u8 (K 4), .int .u8 (K 5), .int .u8 (K 6), .int .u8 (K 7), .int .u8 (K 8), .int .u8 (K 9), .int .u8 (K 10), .int .u8 (K 11), .int .u8 (K 12), .int .u8 (K 13), .int .u8 (K 14), .int .u8 (K 15), (.slice A n' c), (.slice A2 m' c2)] 29)) hB1)
  have hba := hrow.lt
  have k1' := cell_below hB1 k1
  have HRa' := Lib.hid (hrow.alloc (.cells (madeCells #[.int .u8 0] N) 5))
  clear hrow hB1 k0 k1 HS
  go_wp2_with fail
  go_loopw [7] (fun s7 wr => ∃ i : Nat, i ≤ N ∧ s7 = .int .i64 i ∧ wr.rowIs w1.heap.size 5 N (fun p => .int .u8 (mrk (arN K N) (x * d) i p : Nat)) ∧ Below w1.heap.size w1 wr) (fun s7 _ => N - (intOf s7).toNat)
  case atStart => exact ⟨0, Nat.zero_le _, rfl, World.rowIs_made w1 _ N _, (Below.refl _ _).alloc (Nat.le_refl _) _⟩
  case round =>
    obtain ⟨i, hi, rfl, hrow, hbel⟩ := hrel
    obtain ⟨W0, rfl⟩ : ∃ W0 : World, W0 = wr := ⟨_, rfl⟩
    have HRow := Lib.hid hrow
    have HB := Lib.hid hbel
    have p1 := cell_below hbel k1'
    by_cases hlt : i < N
    · have hc := cell_below hbel (HRa.out.cell (i := i) hlt)
      have hat := arN_lt K hlt
      have hXi := HX.out i
      obtain ⟨q, hq⟩ : ∃ q, q = arN K N i := ⟨_, rfl⟩
      rw [← hq] at hc hat
      have hc2 := hrow.cell (i := q) hat
      have hz2 := hrow.frozen q
      have hdI : (1 : Int) ≤ (d : Int) := by omega
      have hd0 : ((d : Int) == 0) = false := beq_eq_false_iff_ne.2 (by omega)
      obtain ⟨y, hy⟩ : ∃ y : Nat, y = i / d := ⟨_, rfl⟩
      have hyI : (i : Int) / (d : Int) = (y : Int) := by rw [hy, Int.natCast_ediv]
      rw [hyI] at hXi
      have hyB : y ≤ 960 := by rw [hy]; exact Nat.le_trans (Nat.div_le_self _ _) (by omega)
      have HQ := Lib.hid hq
      have HXi := Lib.hid hXi
      clear hrow hbel hq hy hXi
      by_cases hm : (x : Int) ≤ (y : Int)
      · have HM := Lib.hid (HXi.out.1 hm)
        go_wp2
        go_roundw
        case rel =>
          refine ⟨i + 1, by omega, by go_num, ?_, HB.out.setCell (p := ⟨w1.heap.size, q, none⟩) (Nat.le_refl _) _⟩
          rw [mrk_yes _ HM.out, ← HQ.out]
          exact rowIs_upd HRow.out q 1 _ rfl
        case measure => simp [intOf]; omega
      · have HM : Hid (¬ x * d ≤ i) := fun h => hm (HXi.out.2 h)
        go_wp2
        go_roundw
        case rel => exact ⟨i + 1, by omega, by go_num, HRow.out.congr (fun p hp => by rw [mrk_no _ HM.out]), HB.out⟩
        case measure => simp [intOf]; omega
    · obtain rfl : i = N := by omega
      clear hrow hbel
      go_wp2
      go_ret
      exact ⟨w1.heap.size, rfl, HRow.out, below_then HB1.out HB.out⟩
end Go.Proofs.YtmbokpfgnicboaaGreat
