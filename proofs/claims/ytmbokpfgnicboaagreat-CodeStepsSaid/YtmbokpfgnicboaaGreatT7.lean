import Derived.Test.YtmbokpfgnicboaaGreatT6
import Derived.Test.YtmbokpfgnicboaaGreatT3
import Derived.Test.YtmbokpfgnicboaaGreatRp
set_option linter.unusedVariables false
set_option linter.unusedSimpArgs false
/- The walks of codes of steps: StepWord of the program and of the reference. -/
namespace Go.Proofs.YtmbokpfgnicboaaGreat
open Go.RowKit Go.Hd Go.Sort _root_.Hd
set_option exponentiation.threshold 2000

/-- What StepWord answers. -/
noncomputable def soE (U Bk : Int) (n : Nat) (f : Nat → Nat) (m : Nat) (g : Nat → Nat) (x : Int) : Int := if tt (VSt U Bk n f m g) then (if x < 0 ∨ U ≤ x then 2 else 0) else 70
noncomputable def soL (U Bk : Int) (n : Nat) (f : Nat → Nat) (m : Nat) (g : Nat → Nat) (x : Int) : Nat := if tt (VSt U Bk n f m g) then (if x < 0 ∨ U ≤ x then 0 else (U.toNat - 1) * Bk.toNat) else 0
def soF (K : Nat → Nat) (U Bk : Int) (x : Int) : Nat → Nat := mrk (arN K ((U.toNat - 1) * Bk.toNat)) (x.toNat * Bk.toNat) ((U.toNat - 1) * Bk.toNat)

set_option maxRecDepth 100000 in
theorem rchecksteps_any (U Bk : Int) (K : Nat → Nat) (n m : Nat) (f g : Nat → Nat) (v u : Value) (w : World) (hv : Rd w .u32 v n f) (hu : Rd w .u32 u m g) (hf : ∀ j, j < n → f j < B) (hg : ∀ j, j < m → g j < B) :
    Calls Tryz.prog 22 #[stV U Bk K v u] w fun e w' => e = .returned (.int .i64 (spE U Bk n f m g)) ∧ Below w.heap.size w w' := by
  have hal := (Below.refl _ w).alloc (Nat.le_refl _) (.cells #[.int .i64 U, .int .i64 Bk, .int .u8 (K 0), .int .u8 (K 1), .int .u8 (K 2), .int .u8 (K 3), .int .u8 (K 4), .int .u8 (K 5), .int .u8 (K 6), .int .u8 (K 7), .int .u8 (K 8), .int .u8 (K 9), .int .u8 (K 10), .int .u8 (K 11), .int .u8 (K 12), .int .u8 (K 13), .int .u8 (K 14), .int .u8 (K 15), v, u] 29)
  have HV := Lib.hid (rvalidsteps_any U Bk K n m f g v u _ (hv.below hal) (hu.below hal) hf hg)
  have HA := Lib.hid hal
  have HS := Lib.hid (st_row w U Bk K v u 29)
  obtain ⟨A, n', c, rfl⟩ : ∃ A n c, v = .slice A n c := by obtain ⟨A, c, h, _⟩ := hv; exact ⟨_, _, _, h⟩
  obtain ⟨A2, m', c2, rfl⟩ : ∃ A n c, u = .slice A n c := by obtain ⟨A, c, h, _⟩ := hu; exact ⟨_, _, _, h⟩
  clear hv hu hf hg hal
  by_cases hs : VSt U Bk n f m g
  · have hE : Hid (spE U Bk n f m g = 0) := spE_yes hs
    rw [tt_pos hs] at HV
    clear hs
    go_enter Tryz.func22, Tryz.ntmps22
    go_wp2_with (refine wp_load_whole rfl 29 _ rfl w.heap.size rfl 29 20 _ _ _ HS.out rfl (st_cs _ _ _ _ _) Tryz.underlying29 rfl st_size ?_)
    refine HV.out.mono ?_
    rintro e w1 ⟨rfl, hB1⟩
    have HB1 := Lib.hid (below_then HA.out hB1)
    clear hB1
    go_wp2
    go_ret
    exact ⟨by rw [hE.out]; rfl, HB1.out⟩
  · have hE : Hid (spE U Bk n f m g = 70) := spE_no hs
    rw [tt_neg hs] at HV
    clear hs
    go_enter Tryz.func22, Tryz.ntmps22
    go_wp2_with (refine wp_load_whole rfl 29 _ rfl w.heap.size rfl 29 20 _ _ _ HS.out rfl (st_cs _ _ _ _ _) Tryz.underlying29 rfl st_size ?_)
    refine HV.out.mono ?_
    rintro e w1 ⟨rfl, hB1⟩
    have HB1 := Lib.hid (below_then HA.out hB1)
    clear hB1
    go_wp2
    go_ret
    exact ⟨by rw [hE.out]; rfl, HB1.out⟩

set_option maxRecDepth 100000 in
set_option maxHeartbeats 1000000 in
theorem stepWordE_any (U Bk : Int) (n m : Nat) (K : Nat → Nat) (f g : Nat → Nat) (v u : Value) (x : Int) (w : World) (hv : Rd w .u32 v n f) (hu : Rd w .u32 u m g) (hf : ∀ j, j < n → f j < B) (hg : ∀ j, j < m → g j < B) (hK : Kb K) :
    Calls Tryz.prog 19 #[stV U Bk K v u, .int .i64 x] w fun e w' => ∃ sl, e = .returned (.tuple #[sl, .int .i64 (soE U Bk n f m g x)]) ∧ Rd w' .u8 sl (soL U Bk n f m g x) (soF K U Bk x) ∧ Below w.heap.size w w' := by
  have hal := (Below.refl _ w).alloc (Nat.le_refl _) (.cells #[.int .i64 U, .int .i64 Bk, .int .u8 (K 0), .int .u8 (K 1), .int .u8 (K 2), .int .u8 (K 3), .int .u8 (K 4), .int .u8 (K 5), .int .u8 (K 6), .int .u8 (K 7), .int .u8 (K 8), .int .u8 (K 9), .int .u8 (K 10), .int .u8 (K 11), .int .u8 (K 12), .int .u8 (K 13), .int .u8 (K 14), .int .u8 (K 15), v, u] 29)
  have HA := Lib.hid hal
  have HS := Lib.hid (st_row w U Bk K v u 29)
  by_cases hs : VSt U Bk n f m g
  · have hd' := vst_facts hs hf hg
    obtain ⟨d, rfl, hd1, hd, _⟩ := hd'
    obtain ⟨U', rfl⟩ := Int.eq_ofNat_of_zero_le (show 0 ≤ U by have := hs.1; omega)
    have hU2 : 2 ≤ U' := by have := hs.1; omega
    have hU16 : U' ≤ 16 := by have := hs.2.1; omega
    have HG := Lib.hid (stepsOf_good U' d n m K f g v u _ (hv.below hal) (hu.below hal) hf hg hK hs)
    have HVs := Lib.hid hs
    obtain ⟨A, n', c, rfl⟩ : ∃ A n c, v = .slice A n c := by obtain ⟨A, c, h, _⟩ := hv; exact ⟨_, _, _, h⟩
    obtain ⟨A2, m', c2, rfl⟩ : ∃ A n c, u = .slice A n c := by obtain ⟨A, c, h, _⟩ := hu; exact ⟨_, _, _, h⟩
    clear hv hu hf hg hal hs
    go_enter Tryz.func19, Tryz.ntmps19
    go_wp2_with (refine wp_load_whole rfl 29 _ rfl w.heap.size rfl 29 20 _ _ _ HS.out rfl (st_cs _ _ _ _ _) Tryz.underlying29 rfl st_size ?_)
    refine HG.out.mono ?_
    rintro e w1 ⟨bs, ba, rfl, hrs, hra, _, _, hB1⟩
    have HSs : Hid (SsAt w1 bs ba U' d K (.slice A n' c) (.slice A2 m' c2)) := ⟨hrs, hra⟩
    clear hrs hra
    have HS1 := Lib.hid (HS.out.of_block (hB1.block _ HS.out.lt))
    have HB1 := Lib.hid (below_then HA.out hB1)
    have k0 : w1.cell? ⟨w.heap.size, 0, none⟩ = some (.int .i64 (U' : Int)) := HS1.out.cell (i := 0) (by omega)
    clear hB1
    by_cases hx : x < 0 ∨ (U' : Int) ≤ x
    · have hE : Hid (soE (U' : Int) (d : Int) n f m g x = 2) := by show _ = _; unfold soE; rw [tt_pos HVs.out, if_pos rfl, if_pos hx]
      have hL : Hid (soL (U' : Int) (d : Int) n f m g x = 0) := by show _ = _; unfold soL; rw [tt_pos HVs.out, if_pos rfl, if_pos hx]
      by_cases hx0 : x < 0
      · clear hx
        go_wp2
        go_ret2
        exact ⟨_, by rw [hE.out]; rfl, by rw [hL.out]; exact Rd.nil _ _ _, HB1.out⟩
      · have hx1 : (U' : Int) ≤ x := by omega
        clear hx
        go_wp2
        go_ret2
        exact ⟨_, by rw [hE.out]; rfl, by rw [hL.out]; exact Rd.nil _ _ _, HB1.out⟩
    · have hE : Hid (soE (U' : Int) (d : Int) n f m g x = 0) := by show _ = _; unfold soE; rw [tt_pos HVs.out, if_pos rfl, if_neg hx]
      have hL : Hid (soL (U' : Int) (d : Int) n f m g x = (U' - 1) * d) := by show _ = _; unfold soL; rw [tt_pos HVs.out, if_pos rfl, if_neg hx, Int.toNat_natCast, Int.toNat_natCast]
      obtain ⟨y, rfl⟩ := Int.eq_ofNat_of_zero_le (show 0 ≤ x by omega)
      have hyU : y < U' := by omega
      have hF : Hid (soF K (U' : Int) (d : Int) (y : Int) = mrk (arN K ((U' - 1) * d)) (y * d) ((U' - 1) * d)) := by show _ = _; unfold soF; rw [Int.toNat_natCast, Int.toNat_natCast, Int.toNat_natCast]
      have hNU : (U' - 1) * d ≤ 15 * 64 := Nat.mul_le_mul (by omega) hd
      have HM := Lib.hid (word_any bs ba U' d K (.slice A n' c) (.slice A2 m' c2) y w1 HSs.out hU2 hU16 hd1 hd hyU)
      clear hx
      go_wp2_with fail
      refine HM.out.mono ?_
      rintro e w3 ⟨b3, rfl, hr, hB3⟩
      have HR := Lib.hid (rd_of_row hr (by omega))
      have HB3 := Lib.hid (below_then HB1.out hB3)
      clear hr hB3 hNU
      generalize (U' - 1) * d = N at *
      go_wp2
      go_ret2
      exact ⟨_, by rw [hE.out]; rfl, by rw [hL.out, hF.out]; exact HR.out, HB3.out⟩
  · have HG := Lib.hid (stepsOf_bad U Bk n m K f g v u _ (hv.below hal) (hu.below hal) hf hg hs)
    have hE : Hid (soE U Bk n f m g x = 70) := by show _ = _; unfold soE; rw [tt_neg hs]; rfl
    have hL : Hid (soL U Bk n f m g x = 0) := by show _ = _; unfold soL; rw [tt_neg hs]; rfl
    obtain ⟨A, n', c, rfl⟩ : ∃ A n c, v = .slice A n c := by obtain ⟨A, c, h, _⟩ := hv; exact ⟨_, _, _, h⟩
    obtain ⟨A2, m', c2, rfl⟩ : ∃ A n c, u = .slice A n c := by obtain ⟨A, c, h, _⟩ := hu; exact ⟨_, _, _, h⟩
    clear hv hu hf hg hal hs
    go_enter Tryz.func19, Tryz.ntmps19
    go_wp2_with (refine wp_load_whole rfl 29 _ rfl w.heap.size rfl 29 20 _ _ _ HS.out rfl (st_cs _ _ _ _ _) Tryz.underlying29 rfl st_size ?_)
    refine HG.out.mono ?_
    rintro e w1 ⟨rfl, hB1⟩
    have HB1 := Lib.hid (below_then HA.out hB1)
    clear hB1
    go_wp2
    go_ret2
    exact ⟨_, by rw [hE.out]; rfl, by rw [hL.out]; exact Rd.nil _ _ _, HB1.out⟩

set_option maxRecDepth 100000 in
set_option maxHeartbeats 1000000 in
theorem rstepWord_any (U Bk : Int) (n m : Nat) (K : Nat → Nat) (f g : Nat → Nat) (v u : Value) (x : Int) (w : World) (hv : Rd w .u32 v n f) (hu : Rd w .u32 u m g) (hf : ∀ j, j < n → f j < B) (hg : ∀ j, j < m → g j < B) (hK : Kb K) :
    Calls Tryz.prog 20 #[stV U Bk K v u, .int .i64 x] w fun e w' => ∃ sl, e = .returned (.tuple #[sl, .int .i64 (soE U Bk n f m g x)]) ∧ Rd w' .u8 sl (soL U Bk n f m g x) (soF K U Bk x) ∧ Below w.heap.size w w' := by
  have hal := (Below.refl _ w).alloc (Nat.le_refl _) (.cells #[.int .i64 U, .int .i64 Bk, .int .u8 (K 0), .int .u8 (K 1), .int .u8 (K 2), .int .u8 (K 3), .int .u8 (K 4), .int .u8 (K 5), .int .u8 (K 6), .int .u8 (K 7), .int .u8 (K 8), .int .u8 (K 9), .int .u8 (K 10), .int .u8 (K 11), .int .u8 (K 12), .int .u8 (K 13), .int .u8 (K 14), .int .u8 (K 15), v, u] 29)
  have HA := Lib.hid hal
  have HS := Lib.hid (st_row w U Bk K v u 29)
  by_cases hs : VSt U Bk n f m g
  · have hd' := vst_facts hs hf hg
    obtain ⟨d, rfl, hd1, hd, _⟩ := hd'
    obtain ⟨U', rfl⟩ := Int.eq_ofNat_of_zero_le (show 0 ≤ U by have := hs.1; omega)
    have hU2 : 2 ≤ U' := by have := hs.1; omega
    have hU16 : U' ≤ 16 := by have := hs.2.1; omega
    have HG := Lib.hid (rvalidsteps_any (U' : Int) (d : Int) K n m f g v u _ (hv.below hal) (hu.below hal) hf hg)
    rw [tt_pos hs] at HG
    have HVs := Lib.hid hs
    obtain ⟨A, n', c, rfl⟩ : ∃ A n c, v = .slice A n c := by obtain ⟨A, c, h, _⟩ := hv; exact ⟨_, _, _, h⟩
    obtain ⟨A2, m', c2, rfl⟩ : ∃ A n c, u = .slice A n c := by obtain ⟨A, c, h, _⟩ := hu; exact ⟨_, _, _, h⟩
    clear hv hu hf hg hal hs
    go_enter Tryz.func20, Tryz.ntmps20
    go_wp2_with (refine wp_load_whole rfl 29 _ rfl w.heap.size rfl 29 20 _ _ _ HS.out rfl (st_cs _ _ _ _ _) Tryz.underlying29 rfl st_size ?_)
    refine HG.out.mono ?_
    rintro e w1 ⟨rfl, hB1⟩
    have HS1 := Lib.hid (HS.out.of_block (hB1.block _ HS.out.lt))
    have HB1 := Lib.hid (below_then HA.out hB1)
    have k0 : w1.cell? ⟨w.heap.size, 0, none⟩ = some (.int .i64 (U' : Int)) := HS1.out.cell (i := 0) (by omega)
    clear hB1
    by_cases hx : x < 0 ∨ (U' : Int) ≤ x
    · have hE : Hid (soE (U' : Int) (d : Int) n f m g x = 2) := by show _ = _; unfold soE; rw [tt_pos HVs.out, if_pos rfl, if_pos hx]
      have hL : Hid (soL (U' : Int) (d : Int) n f m g x = 0) := by show _ = _; unfold soL; rw [tt_pos HVs.out, if_pos rfl, if_pos hx]
      by_cases hx0 : x < 0
      · clear hx
        go_wp2
        go_ret2
        exact ⟨_, by rw [hE.out]; rfl, by rw [hL.out]; exact Rd.nil _ _ _, HB1.out⟩
      · have hx1 : (U' : Int) ≤ x := by omega
        clear hx
        go_wp2
        go_ret2
        exact ⟨_, by rw [hE.out]; rfl, by rw [hL.out]; exact Rd.nil _ _ _, HB1.out⟩
    · have hE : Hid (soE (U' : Int) (d : Int) n f m g x = 0) := by show _ = _; unfold soE; rw [tt_pos HVs.out, if_pos rfl, if_neg hx]
      have hL : Hid (soL (U' : Int) (d : Int) n f m g x = (U' - 1) * d) := by show _ = _; unfold soL; rw [tt_pos HVs.out, if_pos rfl, if_neg hx, Int.toNat_natCast, Int.toNat_natCast]
      obtain ⟨y, rfl⟩ := Int.eq_ofNat_of_zero_le (show 0 ≤ x by omega)
      have hyU : y < U' := by omega
      have hF : Hid (soF K (U' : Int) (d : Int) (y : Int) = mrk (arN K ((U' - 1) * d)) (y * d) ((U' - 1) * d)) := by show _ = _; unfold soF; rw [Int.toNat_natCast, Int.toNat_natCast, Int.toNat_natCast]
      have hNU : (U' - 1) * d ≤ 15 * 64 := Nat.mul_le_mul (by omega) hd
      have HM := Lib.hid (rstepsword_any U' d K (.slice A n' c) (.slice A2 m' c2) y w1 hK hU2 hU16 hd1 hd hyU ⟨_, _, _, rfl⟩ ⟨_, _, _, rfl⟩)
      clear hx
      go_wp2_with (refine wp_load_whole rfl 29 _ rfl w.heap.size rfl 29 20 _ _ _ HS1.out rfl (st_cs _ _ _ _ _) Tryz.underlying29 rfl st_size ?_)
      refine HM.out.mono ?_
      rintro e w3 ⟨b3, rfl, hr, hB3⟩
      have HR := Lib.hid (rd_of_row hr (by omega))
      have HB3 := Lib.hid (below_then HB1.out hB3)
      clear hr hB3 hNU
      generalize (U' - 1) * d = N at *
      go_wp2
      go_ret2
      exact ⟨_, by rw [hE.out]; rfl, by rw [hL.out, hF.out]; exact HR.out, HB3.out⟩
  · have HG := Lib.hid (rvalidsteps_any U Bk K n m f g v u _ (hv.below hal) (hu.below hal) hf hg)
    rw [tt_neg hs] at HG
    have hE : Hid (soE U Bk n f m g x = 70) := by show _ = _; unfold soE; rw [tt_neg hs]; rfl
    have hL : Hid (soL U Bk n f m g x = 0) := by show _ = _; unfold soL; rw [tt_neg hs]; rfl
    obtain ⟨A, n', c, rfl⟩ : ∃ A n c, v = .slice A n c := by obtain ⟨A, c, h, _⟩ := hv; exact ⟨_, _, _, h⟩
    obtain ⟨A2, m', c2, rfl⟩ : ∃ A n c, u = .slice A n c := by obtain ⟨A, c, h, _⟩ := hu; exact ⟨_, _, _, h⟩
    clear hv hu hf hg hal hs
    go_enter Tryz.func20, Tryz.ntmps20
    go_wp2_with (refine wp_load_whole rfl 29 _ rfl w.heap.size rfl 29 20 _ _ _ HS.out rfl (st_cs _ _ _ _ _) Tryz.underlying29 rfl st_size ?_)
    refine HG.out.mono ?_
    rintro e w1 ⟨rfl, hB1⟩
    have HB1 := Lib.hid (below_then HA.out hB1)
    clear hB1
    go_wp2
    go_ret2
    exact ⟨_, by rw [hE.out]; rfl, by rw [hL.out]; exact Rd.nil _ _ _, HB1.out⟩
end Go.Proofs.YtmbokpfgnicboaaGreat
