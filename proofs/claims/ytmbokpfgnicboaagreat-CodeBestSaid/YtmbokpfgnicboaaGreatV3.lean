import Derived.Test.YtmbokpfgnicboaaGreatVa
set_option linter.unusedVariables false
set_option linter.unusedSimpArgs false
/- The walks of the laws: what those of codes of scores share. -/
namespace Go.Proofs.YtmbokpfgnicboaaGreat
open Go.RowKit Go.Hd Go.Sort _root_.Hd
set_option exponentiation.threshold 2000

theorem sc_c1 {w : World} {b : Nat} {t : TypeId} {U Bs : Int} {v : Value} {K : Nat → Nat} (h : w.rowIs b t 19 (scF U Bs v K)) : w.cell? ⟨b, 1, none⟩ = some (.int .i64 Bs) := h.cell (i := 1) (by omega)
theorem sc_c0 {w : World} {b : Nat} {t : TypeId} {U Bs : Int} {v : Value} {K : Nat → Nat} (h : w.rowIs b t 19 (scF U Bs v K)) : w.cell? ⟨b, 0, none⟩ = some (.int .i64 U) := h.cell (i := 0) (by omega)
theorem sc_c2 {w : World} {b : Nat} {t : TypeId} {U Bs : Int} {v : Value} {K : Nat → Nat} (h : w.rowIs b t 19 (scF U Bs v K)) : w.cell? ⟨b, 2, none⟩ = some v := h.cell (i := 2) (by omega)

theorem least_ex (p : Int → Prop) (lo : Int) : ∀ k : Nat, ¬ p lo → p (lo + k) → ∃ z, p z ∧ ¬ p (z - 1) ∧ lo < z ∧ z ≤ lo + k
  | 0, h0, h1 => absurd (by simpa using h1) h0
  | k + 1, h0, h1 => by
    by_cases h : p (lo + k)
    · obtain ⟨z, a, b, c, d⟩ := least_ex p lo k h0 h
      exact ⟨z, a, b, c, by omega⟩
    · exact ⟨lo + (k + 1 : Nat), h1, by rw [show lo + ((k + 1 : Nat) : Int) - 1 = lo + k by omega]; exact h, by omega, by omega⟩
/-- A valid code, copy and limit have a bound. -/
theorem bnd_ex {U Bs : Int} {n : Nat} {a : Nat → Int} {N : Nat} {Y : Nat → Nat} (h : ScOk U Bs n a N Y) {m1 n1 : Nat} (hmn : m1 < n1) : ∃ z, Bnd (scC Bs n a Y) 2048 (scA Bs n) m1 n1 z ∧ -2048 < z ∧ z ≤ 2049 := by
  obtain ⟨z, h1, h2, h3, h4⟩ := least_ex (bdW (scC Bs n a Y) 2048 (scA Bs n) m1 n1) (-2048) 4097
    (bdW_low (fun s hs => by
      by_cases h0 : scC Bs n a Y s = 0
      · exact h0
      · have := scC_out h.1 Y s h0
        omega) (scC_sum h.1 Y) (scA_pos h.1) hmn)
    (bdW_high (fun s hs => by
      by_cases h0 : scC Bs n a Y s = 0
      · exact h0
      · have := scC_out h.1 Y s h0
        omega))
  exact ⟨z, ⟨h1, h2⟩, h3, by omega⟩
theorem ch_ok {U Bs : Int} {n : Nat} {a : Nat → Int} {N : Nat} {Y : Nat → Nat} {z : Int} (h : ScOk U Bs n a N Y) : chM U Bs n a N Y z = tl (scC Bs n a Y) 2048 z / Nat.gcd (tl (scC Bs n a Y) 2048 z) (scA Bs n) ∧ chD U Bs n a N Y z = scA Bs n / Nat.gcd (tl (scC Bs n a Y) 2048 z) (scA Bs n) := by
  unfold chM chD chG
  rw [tt_pos h, if_pos rfl, if_pos rfl]
  exact ⟨rfl, rfl⟩
theorem scA_lim {U Bs : Int} {n : Nat} {a : Nat → Int} (h : VS U Bs n a) : scA Bs n < Lim := lt_lim (scA_le h) (by omega)
theorem tl_leA {U Bs : Int} {n : Nat} {a : Nat → Int} (h : VS U Bs n a) (Y : Nat → Nat) (z : Int) : tl (scC Bs n a Y) 2048 z ≤ scA Bs n := tl_le (scC_sum h Y) z

/-- A chance compared with a limit. -/
theorem compareCh {U Bs : Int} {n : Nat} {a : Nat → Int} {N : Nat} {Y : Nat → Nat} (h : ScOk U Bs n a N Y) (z : Int) (n1 m1 : Nat) (f g : Nat → Nat) (v u lv lu : Value) (w : World) (hv : Nt w v (chM U Bs n a N Y z)) (hu : Nt w u (chD U Bs n a N Y z)) (hlv : Rd w .u32 lv n1 f) (hlu : Rd w .u32 lu m1 g) (hf : ∀ j, j < n1 → f j < B) (hg : ∀ j, j < m1 → g j < B) (hl : VL n1 f m1 g) :
    Calls Tryz.prog 37 #[.agg #[v, u], .agg #[lv, lu]] w fun e w' => e = .returned (.tuple #[.int .i64 (ord (tl (scC Bs n a Y) 2048 z * val g m1) (val f n1 * scA Bs n)), .int .i64 0]) ∧ Below w.heap.size w w' := by
  obtain ⟨e1, e2⟩ := ch_ok (z := z) h
  rw [e1] at hv
  rw [e2] at hu
  exact compareLim _ _ n1 m1 f g v u lv lu w hv hu (Nat.lt_of_le_of_lt (tl_leA h.1 Y z) (scA_lim h.1)) (scA_lim h.1) (scA_pos h.1) hlv hlu hf hg hl
theorem ord_two {S R A : Nat} (hA : 0 < A) : ord (S / Nat.gcd S A * (A / Nat.gcd R A)) (R / Nat.gcd R A * (A / Nat.gcd S A)) = ord S R := by
  have h1 : 0 < Nat.gcd S A := Nat.gcd_pos_of_pos_right _ hA
  have h2 : 0 < Nat.gcd R A := Nat.gcd_pos_of_pos_right _ hA
  have e1 := Nat.div_mul_cancel (Nat.gcd_dvd_left S A)
  have e2 := Nat.div_mul_cancel (Nat.gcd_dvd_right S A)
  have e3 := Nat.div_mul_cancel (Nat.gcd_dvd_left R A)
  have e4 := Nat.div_mul_cancel (Nat.gcd_dvd_right R A)
  rw [← ord_scale (g := Nat.gcd S A * Nat.gcd R A) (Nat.mul_pos h1 h2), ← ord_scale (g := A) (a := S) (b := R) hA]
  generalize S / Nat.gcd S A = p at *
  generalize A / Nat.gcd S A = q at *
  generalize R / Nat.gcd R A = r at *
  generalize A / Nat.gcd R A = t at *
  generalize Nat.gcd S A = x at *
  generalize Nat.gcd R A = y at *
  congr 1
  · calc x * y * (p * t) = (p * x) * (t * y) := by ac_rfl
      _ = A * S := by rw [e1, e4, Nat.mul_comm]
  · calc x * y * (r * q) = (r * y) * (q * x) := by ac_rfl
      _ = A * R := by rw [e3, e2, Nat.mul_comm]
/-- Two chances compared. -/
theorem compareChs {U Bs : Int} {n : Nat} {a : Nat → Int} {N : Nat} {Y : Nat → Nat} (h : ScOk U Bs n a N Y) (z z' : Int) (v u v' u' : Value) (w : World) (hv : Nt w v (chM U Bs n a N Y z)) (hu : Nt w u (chD U Bs n a N Y z)) (hv' : Nt w v' (chM U Bs n a N Y z')) (hu' : Nt w u' (chD U Bs n a N Y z')) :
    Calls Tryz.prog 37 #[.agg #[v, u], .agg #[v', u']] w fun e w' => e = .returned (.tuple #[.int .i64 (ord (tl (scC Bs n a Y) 2048 z) (tl (scC Bs n a Y) 2048 z')), .int .i64 0]) ∧ Below w.heap.size w w' := by
  obtain ⟨e1, e2⟩ := ch_ok (z := z) h
  obtain ⟨e3, e4⟩ := ch_ok (z := z') h
  rw [e1] at hv
  rw [e2] at hu
  rw [e3] at hv'
  rw [e4] at hu'
  have hA0 := scA_pos h.1
  have hA := scA_lim h.1
  have g1 : 0 < Nat.gcd (tl (scC Bs n a Y) 2048 z) (scA Bs n) := Nat.gcd_pos_of_pos_right _ hA0
  have g2 : 0 < Nat.gcd (tl (scC Bs n a Y) 2048 z') (scA Bs n) := Nat.gcd_pos_of_pos_right _ hA0
  have hc := compareFr_nt _ _ _ _ v u v' u' w hv hu hv' hu' (Nat.lt_of_le_of_lt (Nat.le_trans (Nat.div_le_self _ _) (tl_leA h.1 Y z)) hA) (Nat.lt_of_le_of_lt (Nat.div_le_self _ _) hA) (Nat.lt_of_le_of_lt (Nat.le_trans (Nat.div_le_self _ _) (tl_leA h.1 Y z')) hA) (Nat.lt_of_le_of_lt (Nat.div_le_self _ _) hA)
    (Nat.div_pos (Nat.le_of_dvd hA0 (Nat.gcd_dvd_right _ _)) g1) (Nat.div_pos (Nat.le_of_dvd hA0 (Nat.gcd_dvd_right _ _)) g2) (Nat.gcd_div_gcd_div_gcd_of_pos_right hA0) (Nat.gcd_div_gcd_div_gcd_of_pos_right hA0)
  rw [ord_two hA0] at hc
  exact hc
end Go.Proofs.YtmbokpfgnicboaaGreat
