import Derived.Test.YtmbokpfgnicboaaGreatPn
import Derived.Test.YtmbokpfgnicboaaGreatWhole
import Derived.Test.YtmbokpfgnicboaaGreatS2
set_option linter.unusedVariables false
set_option linter.unusedSimpArgs false
/- The walks of package code: valid codes of steps. -/
namespace Go.Proofs.YtmbokpfgnicboaaGreat
open Go.RowKit Go.Hd _root_.Hd

/-- A code of steps, as a value. -/
@[reducible] def stV (U Bk : Int) (K : Nat → Nat) (lv lu : Value) : Value := .agg #[.int .i64 U, .int .i64 Bk, .int .u8 (K 0), .int .u8 (K 1), .int .u8 (K 2), .int .u8 (K 3), .int .u8 (K 4), .int .u8 (K 5), .int .u8 (K 6), .int .u8 (K 7), .int .u8 (K 8), .int .u8 (K 9), .int .u8 (K 10), .int .u8 (K 11), .int .u8 (K 12), .int .u8 (K 13), .int .u8 (K 14), .int .u8 (K 15), lv, lu]
def stF (U Bk : Int) (K : Nat → Nat) (lv lu : Value) (i : Nat) : Value := if i = 0 then .int .i64 U else if i = 1 then .int .i64 Bk else if i < 18 then .int .u8 (K (i - 2)) else if i = 18 then lv else lu
theorem st_cs (U Bk : Int) (K : Nat → Nat) (lv lu : Value) : ∀ i, i < 20 → (#[.int .i64 U, .int .i64 Bk, .int .u8 (K 0), .int .u8 (K 1), .int .u8 (K 2), .int .u8 (K 3), .int .u8 (K 4), .int .u8 (K 5), .int .u8 (K 6), .int .u8 (K 7), .int .u8 (K 8), .int .u8 (K 9), .int .u8 (K 10), .int .u8 (K 11), .int .u8 (K 12), .int .u8 (K 13), .int .u8 (K 14), .int .u8 (K 15), lv, lu] : Array Value)[i]? = some (stF U Bk K lv lu i) := fun i hi => by
  match i, hi with
  | 0, _ => rfl
  | 1, _ => rfl
  | 2, _ => rfl
  | 3, _ => rfl
  | 4, _ => rfl
  | 5, _ => rfl
  | 6, _ => rfl
  | 7, _ => rfl
  | 8, _ => rfl
  | 9, _ => rfl
  | 10, _ => rfl
  | 11, _ => rfl
  | 12, _ => rfl
  | 13, _ => rfl
  | 14, _ => rfl
  | 15, _ => rfl
  | 16, _ => rfl
  | 17, _ => rfl
  | 18, _ => rfl
  | 19, _ => rfl
  | n + 20, h => exact absurd h (by omega)
theorem st_row (w : World) (U Bk : Int) (K : Nat → Nat) (lv lu : Value) (t : TypeId) : (w.alloc (.cells #[.int .i64 U, .int .i64 Bk, .int .u8 (K 0), .int .u8 (K 1), .int .u8 (K 2), .int .u8 (K 3), .int .u8 (K 4), .int .u8 (K 5), .int .u8 (K 6), .int .u8 (K 7), .int .u8 (K 8), .int .u8 (K 9), .int .u8 (K 10), .int .u8 (K 11), .int .u8 (K 12), .int .u8 (K 13), .int .u8 (K 14), .int .u8 (K 15), lv, lu] t)).rowIs w.heap.size t 20 (stF U Bk K lv lu) :=
  World.rowIs_alloc w _ _ _ (fun i hi => st_cs U Bk K lv lu i hi)
theorem st_size : (Tryz.prog.info? 29).map (·.size) = some 20 := by kernel_rfl
theorem fr_size : (Tryz.prog.info? 27).map (·.size) = some 2 := by kernel_rfl

/-- A valid code of steps. -/
def VSt (U Bk : Int) (n : Nat) (f : Nat → Nat) (m : Nat) (g : Nat → Nat) : Prop := 2 ≤ U ∧ U ≤ 16 ∧ 1 ≤ Bk ∧ Bk ≤ 64 ∧ VL n f m g
noncomputable def spE (U Bk : Int) (n : Nat) (f : Nat → Nat) (m : Nat) (g : Nat → Nat) : Int := if tt (VSt U Bk n f m g) then 0 else 70
theorem spE_yes {U Bk : Int} {n m : Nat} {f g : Nat → Nat} (h : VSt U Bk n f m g) : spE U Bk n f m g = 0 := by unfold spE; rw [tt_pos h]; rfl
theorem spE_no {U Bk : Int} {n m : Nat} {f g : Nat → Nat} (h : ¬ VSt U Bk n f m g) : spE U Bk n f m g = 70 := by unfold spE; rw [tt_neg h]; rfl

set_option maxRecDepth 100000 in
set_option maxHeartbeats 1000000 in
theorem checkSteps_any (U Bk : Int) (K : Nat → Nat) (n m : Nat) (f g : Nat → Nat) (v u : Value) (w : World) (hv : Rd w .u32 v n f) (hu : Rd w .u32 u m g) (hf : ∀ j, j < n → f j < B) (hg : ∀ j, j < m → g j < B) :
    Calls Tryz.prog 21 #[stV U Bk K v u] w fun e w' => e = .returned (.int .i64 (spE U Bk n f m g)) ∧ Below w.heap.size w w' := by
  have hal := (Below.refl _ w).alloc (Nat.le_refl _) (.cells #[.int .i64 U, .int .i64 Bk, .int .u8 (K 0), .int .u8 (K 1), .int .u8 (K 2), .int .u8 (K 3), .int .u8 (K 4), .int .u8 (K 5), .int .u8 (K 6), .int .u8 (K 7), .int .u8 (K 8), .int .u8 (K 9), .int .u8 (K 10), .int .u8 (K 11), .int .u8 (K 12), .int .u8 (K 13), .int .u8 (K 14), .int .u8 (K 15), v, u] 29)
  have HL := Lib.hid (isLimit_any n m f g v u _ (hv.below hal) (hu.below hal) hf hg)
  have HA := Lib.hid hal
  have rs := st_row w U Bk K v u 29
  obtain ⟨A, n', c, rfl⟩ : ∃ A n c, v = .slice A n c := by obtain ⟨A, c, h, _⟩ := hv; exact ⟨_, _, _, h⟩
  obtain ⟨A2, m', c2, rfl⟩ : ∃ A n c, u = .slice A n c := by obtain ⟨A, c, h, _⟩ := hu; exact ⟨_, _, _, h⟩
  have c0 := rs.cell (i := 0) (by omega)
  have c1 := rs.cell (i := 1) (by omega)
  have c18 := rs.cell (i := 18) (by omega)
  have c19 := rs.cell (i := 19) (by omega)
  simp only [stF, if_true, show ¬ (1 = 0) by omega, show ¬ (18 = 0) by omega, show ¬ (18 = 1) by omega, show ¬ (18 < 18) by omega, show ¬ (19 = 0) by omega, show ¬ (19 = 1) by omega, show ¬ (19 < 18) by omega, show ¬ (19 = 18) by omega, if_false] at c0 c1 c18 c19
  clear rs hv hu hf hg hal
  by_cases hb : 2 ≤ U ∧ U ≤ 16 ∧ 1 ≤ Bk ∧ Bk ≤ 64
  · obtain ⟨h1, h2, h3, h4⟩ := hb
    cases hc : tt (VL n f m g) with
    | true =>
      have ht : Hid (spE U Bk n f m g = 0) := spE_yes ⟨h1, h2, h3, h4, tt_iff.1 hc⟩
      rw [hc] at HL
      clear hc
      go_enter Tryz.func21, Tryz.ntmps21
      go_wp2_with fail
      refine HL.out.mono ?_
      rintro e w1 ⟨rfl, hB⟩
      have HB := Lib.hid (below_then HA.out hB)
      clear hB
      go_wp2
      go_ret
      exact ⟨by rw [ht.out]; rfl, HB.out⟩
    | false =>
      have ht : Hid (spE U Bk n f m g = 70) := spE_no (fun h => (tt_not.1 hc) h.2.2.2.2)
      rw [hc] at HL
      clear hc
      go_enter Tryz.func21, Tryz.ntmps21
      go_wp2_with fail
      refine HL.out.mono ?_
      rintro e w1 ⟨rfl, hB⟩
      have HB := Lib.hid (below_then HA.out hB)
      clear hB
      go_wp2
      go_ret
      exact ⟨by rw [ht.out]; rfl, HB.out⟩
  · have ht : Hid (spE U Bk n f m g = 70) := spE_no (fun h => hb ⟨h.1, h.2.1, h.2.2.1, h.2.2.2.1⟩)
    clear HL c18 c19
    by_cases h1 : U < 2
    · clear hb
      go_enter Tryz.func21, Tryz.ntmps21
      go_wp2
      go_ret
      exact ⟨by rw [ht.out]; rfl, HA.out⟩
    · by_cases h2 : 16 < U
      · clear hb
        go_enter Tryz.func21, Tryz.ntmps21
        go_wp2
        go_ret
        exact ⟨by rw [ht.out]; rfl, HA.out⟩
      · by_cases h3 : Bk < 1
        · clear hb
          go_enter Tryz.func21, Tryz.ntmps21
          go_wp2
          go_ret
          exact ⟨by rw [ht.out]; rfl, HA.out⟩
        · have h4 : 64 < Bk := by omega
          clear hb
          go_enter Tryz.func21, Tryz.ntmps21
          go_wp2
          go_ret
          exact ⟨by rw [ht.out]; rfl, HA.out⟩
end Go.Proofs.YtmbokpfgnicboaaGreat
