import Derived.Test.YtmbokpfgnicboaaGreatT2
import Derived.Test.YtmbokpfgnicboaaGreatMarks
set_option linter.unusedVariables false
set_option linter.unusedSimpArgs false
/- The walks of codes of steps: the program's words and weights. -/
namespace Go.Proofs.YtmbokpfgnicboaaGreat
open Go.RowKit Go.Hd Go.Sort _root_.Hd

/-- Where a code of steps with its arrangement lies. -/
def SsAt (w : World) (bs ba U d : Nat) (K : Nat → Nat) (v u : Value) : Prop := w.rowIs bs 164 21 (ssF (U : Int) (d : Int) K v u (.slice (some ⟨ba, 0, none⟩) ((U - 1) * d) ((U - 1) * d))) ∧ w.rowIs ba 3 ((U - 1) * d) (fun i => .int .i64 (arN K ((U - 1) * d) i : Nat))
theorem SsAt.below {w w' : World} {bs ba U d : Nat} {K : Nat → Nat} {v u : Value} (h : SsAt w bs ba U d K v u) (hb : Below w.heap.size w w') : SsAt w' bs ba U d K v u :=
  ⟨h.1.of_block (hb.block _ h.1.lt), h.2.of_block (hb.block _ h.2.lt)⟩
theorem SsAt.cells {w : World} {bs ba U d : Nat} {K : Nat → Nat} {v u : Value} (h : SsAt w bs ba U d K v u) : w.cell? ⟨bs, 0, none⟩ = some (.int .i64 U) ∧ w.cell? ⟨bs, 1, none⟩ = some (.int .i64 d) ∧ w.cell? ⟨bs, 20, none⟩ = some (.slice (some ⟨ba, 0, none⟩) ((U - 1) * d) ((U - 1) * d)) :=
  ⟨h.1.cell (i := 0) (by omega), h.1.cell (i := 1) (by omega), h.1.cell (i := 20) (by omega)⟩

set_option maxRecDepth 100000 in
set_option maxHeartbeats 1000000 in
theorem word_any (bs ba U d : Nat) (K : Nat → Nat) (v u : Value) (x : Nat) (w : World) (hS : SsAt w bs ba U d K v u) (hU2 : 2 ≤ U) (hU : U ≤ 16) (hd1 : 1 ≤ d) (hd : d ≤ 64) (hx : x < U) :
    Calls Tryz.prog 67 #[.pointer (some ⟨bs, 0, none⟩), .int .i64 x] w fun e w' => ∃ b, e = .returned (.slice (some ⟨b, 0, none⟩) ((U - 1) * d) ((U - 1) * d)) ∧ w'.rowIs b 5 ((U - 1) * d) (fun i => .int .u8 (mrk (arN K ((U - 1) * d)) (x * d) ((U - 1) * d) i : Nat)) ∧ Below w.heap.size w w' := by
  have hNU : (U - 1) * d ≤ 15 * 64 := Nat.mul_le_mul (by omega) hd
  have hxN : x * d ≤ (U - 1) * d := Nat.mul_le_mul_right _ (by omega)
  obtain ⟨k0, k1, k20⟩ := hS.cells
  have HRa := Lib.hid hS.2
  have hbs := hS.1.lt
  clear hS
  have hxI : (x : Int) * (d : Int) = ((x * d : Nat) : Int) := (Int.natCast_mul _ _).symm
  generalize (U - 1) * d = N at *
  have hmk := run_make_row' (P := Tryz.prog) 30 5 (.int .u8 0) 1 Tryz.underlying30 infoU8 rfl .i64 .i64 N (by omega) (by omega)
  generalize x * d = s at *
  have hw2 : IntKind.i64.wrap ((x : Int) * (d : Int)) = (s : Int) := by rw [hxI, IntKind.wrap_i64]; omega
  have hw3 : IntKind.i64.wrap (s : Int) = (s : Int) := by rw [IntKind.wrap_i64]; omega
  have hz := World.rowIs_made w (.int .u8 0) N 5
  have HZ := Lib.hid hz
  clear hz
  go_enter Tryz.func67, Tryz.ntmps67
  go_wp2_with fail
  go_loopw [6] (fun s6 wr => ∃ i : Nat, s ≤ i ∧ i ≤ N ∧ s6 = .int .i64 i ∧ wr.rowIs w.heap.size 5 N (fun p => .int .u8 (mrk (arN K N) s i p : Nat)) ∧ Below w.heap.size w wr) (fun s6 _ => N - (intOf s6).toNat)
  case atStart => exact ⟨s, Nat.le_refl _, hxN, rfl, HZ.out.congr (fun p hp => by rw [mrk_none _ _ _ (Nat.le_refl _)]; rfl), (Below.refl _ _).alloc (Nat.le_refl _) _⟩
  case round =>
    obtain ⟨i, his, hi, rfl, hrow, hbel⟩ := hrel
    obtain ⟨W0, rfl⟩ : ∃ W0 : World, W0 = wr := ⟨_, rfl⟩
    have HRow := Lib.hid hrow
    have HB := Lib.hid hbel
    have p1 := cell_below hbel k1
    have p20 := cell_below hbel k20
    by_cases hlt : i < N
    · have hc := cell_below hbel (HRa.out.cell (i := i) hlt)
      have hat := arN_lt K hlt
      obtain ⟨q, hq⟩ : ∃ q, q = arN K N i := ⟨_, rfl⟩
      rw [← hq] at hc hat
      have hc2 := hrow.cell (i := q) hat
      have hz2 := hrow.frozen q
      have HQ := Lib.hid hq
      clear hrow hbel hq
      go_wp2
      go_roundw
      case rel =>
        refine ⟨i + 1, by omega, by omega, by go_num, ?_, HB.out.setCell (p := ⟨w.heap.size, q, none⟩) (Nat.le_refl _) _⟩
        rw [mrk_yes _ his, ← HQ.out]
        exact rowIs_upd HRow.out q 1 _ rfl
      case measure => simp [intOf]; omega
    · obtain rfl : i = N := by omega
      clear hrow hbel
      go_wp2
      go_ret
      exact ⟨w.heap.size, rfl, HRow.out, HB.out⟩

set_option maxRecDepth 100000 in
set_option maxHeartbeats 1000000 in
theorem weights_any (bs ba U d : Nat) (K : Nat → Nat) (v u : Value) (y : Nat → Nat) (ys : Value) (w : World) (hS : SsAt w bs ba U d K v u) (hy : Rd w .u8 ys ((U - 1) * d) y) (hy6 : ∀ j, j < (U - 1) * d → y j < 256) (hU2 : 2 ≤ U) (hU : U ≤ 16) (hd1 : 1 ≤ d) (hd : d ≤ 64) :
    Calls Tryz.prog 72 #[.pointer (some ⟨bs, 0, none⟩), ys] w fun e w' => ∃ b, e = .returned (.slice (some ⟨b, 0, none⟩) (U - 1) (U - 1)) ∧ w'.rowIs b 3 (U - 1) (fun i => .int .i64 (wts (arN K ((U - 1) * d)) y d ((U - 1) * d) i : Nat)) ∧ w.heap.size ≤ b ∧ Below w.heap.size w w' := by
  have hNU : (U - 1) * d ≤ 15 * 64 := Nat.mul_le_mul (by omega) hd
  have hNp : 0 < (U - 1) * d := Nat.mul_pos (by omega) (by omega)
  obtain ⟨k0, k1, k20⟩ := hS.cells
  have HRa := Lib.hid hS.2
  have hbs := hS.1.lt
  clear hS
  have HDv : Hid (∀ i, i < (U - 1) * d → i / d < U - 1) := fun i hi => (Nat.div_lt_iff_lt_mul (by omega)).2 hi
  generalize (U - 1) * d = N at *
  obtain ⟨Ay, cy, rfl, _, _, h3⟩ := hy
  obtain ⟨by', offy, rfl, hcy⟩ := h3 hNp
  have HY := Lib.hid hcy
  have HY6 := Lib.hid hy6
  clear h3 hcy hy6
  have hmk := run_make_row' (P := Tryz.prog) 38 3 (.int .i64 0) 8 Tryz.underlying38 infoInt3 rfl .i64 .i64 (U - 1) (by omega) (by omega)
  have hU1 : ((U - 1 : Nat) : Int) = (U : Int) - 1 := by omega
  rw [hU1] at hmk
  obtain ⟨M, hM⟩ : ∃ M, M = U - 1 := ⟨_, rfl⟩
  rw [← hM] at hmk HDv hU1 ⊢
  have hz := World.rowIs_made w (.int .i64 0) M 3
  have HZ := Lib.hid hz
  have HM := Lib.hid hM
  have hM16 : M ≤ 16 := by omega
  clear hz hM hU1
  go_enter Tryz.func72, Tryz.ntmps72
  go_wp2_with fail
  go_loopw [20] (fun s20 wr => ∃ i : Nat, i ≤ N ∧ s20 = .int .i64 i ∧ wr.rowIs w.heap.size 3 M (fun p => .int .i64 (wts (arN K N) y d i p : Nat)) ∧ Below w.heap.size w wr) (fun s20 _ => N - (intOf s20).toNat)
  case atStart => exact ⟨0, Nat.zero_le _, rfl, HZ.out, (Below.refl _ _).alloc (Nat.le_refl _) _⟩
  case round =>
    obtain ⟨i, hi, rfl, hrow, hbel⟩ := hrel
    obtain ⟨W0, rfl⟩ : ∃ W0 : World, W0 = wr := ⟨_, rfl⟩
    have HRow := Lib.hid hrow
    have HB := Lib.hid hbel
    have p1 := cell_below hbel k1
    by_cases hlt : i < N
    · have hc := cell_below hbel (HRa.out.cell (i := i) hlt)
      have hat := arN_lt K hlt
      obtain ⟨q, hq⟩ : ∃ q, q = arN K N i := ⟨_, rfl⟩
      rw [← hq] at hc hat
      have hcy := cell_below hbel (HY.out q hat)
      have hy6 := HY6.out q hat
      have HQ := Lib.hid hq
      obtain ⟨z, hz⟩ : ∃ z : Nat, z = i / d := ⟨_, rfl⟩
      have hzI : (i : Int) / (d : Int) = (z : Int) := by rw [hz, Int.natCast_ediv]
      have hzM : z < M := by rw [hz]; exact HDv.out i hlt
      have hc2 := hrow.cell (i := z) hzM
      have hz2 := hrow.frozen z
      have hwle : wts (arN K N) y d i z ≤ d := wts_d (by omega) i z
      have HZz := Lib.hid hz
      have hdI : (1 : Int) ≤ (d : Int) := by omega
      have hd0 : ((d : Int) == 0) = false := beq_eq_false_iff_ne.2 (by omega)
      by_cases hy1 : y q = 1
      · have HW : Hid (wts (arN K N) y d (i + 1) = upd (wts (arN K N) y d i) z (wts (arN K N) y d i z + 1)) := by
          show _ = _
          rw [wts_yes (by rw [← hq]; exact hy1), ← hz]
        rw [hy1] at hcy
        clear hrow hbel hq hz hy1
        generalize wts (arN K N) y d i z = c at *
        go_wp2
        go_roundw
        case rel =>
          refine ⟨i + 1, by omega, by go_num, ?_, HB.out.setCell (p := ⟨w.heap.size, z, none⟩) (Nat.le_refl _) _⟩
          rw [HW.out]
          exact rowIs_upd HRow.out z _ _ (by omega)
        case measure => simp [intOf]; omega
      · have HW : Hid (wts (arN K N) y d (i + 1) = wts (arN K N) y d i) := wts_no (by rw [← hq]; exact hy1)
        have hyI : ((y q : Nat) : Int) ≠ 1 := by omega
        have hyb : (((y q : Nat) : Int) == 1) = false := beq_eq_false_iff_ne.2 hyI
        clear hrow hbel hq hz hy1
        go_wp2
        go_roundw
        case rel => exact ⟨i + 1, by omega, by go_num, HRow.out.congr (fun p hp => by rw [HW.out]), HB.out⟩
        case measure => simp [intOf]; omega
    · obtain rfl : i = N := by omega
      clear hrow hbel
      go_wp2
      go_ret
      exact ⟨w.heap.size, rfl, HRow.out, Nat.le_refl _, HB.out⟩
end Go.Proofs.YtmbokpfgnicboaaGreat
