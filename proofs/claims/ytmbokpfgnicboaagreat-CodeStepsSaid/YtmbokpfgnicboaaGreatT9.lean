import Derived.Test.YtmbokpfgnicboaaGreatT8
set_option linter.unusedVariables false
set_option linter.unusedSimpArgs false
/- The walks of codes of steps: the reference's Weights and TraceSteps. -/
namespace Go.Proofs.YtmbokpfgnicboaaGreat
open Go.RowKit Go.Hd Go.Sort _root_.Hd
set_option exponentiation.threshold 2000

set_option maxRecDepth 100000 in
set_option maxHeartbeats 1000000 in
theorem rweightsE_any (U Bk : Int) (n m : Nat) (K : Nat → Nat) (f g : Nat → Nat) (N : Nat) (Y : Nat → Nat) (v u ys : Value) (w : World) (hv : Rd w .u32 v n f) (hu : Rd w .u32 u m g) (hf : ∀ j, j < n → f j < B) (hg : ∀ j, j < m → g j < B) (hK : Kb K) (hy : Rd w .u8 ys N Y) (hy6 : ∀ j, j < N → Y j < 256) :
    Calls Tryz.prog 24 #[stV U Bk K v u, ys] w fun e w' => ∃ sl, e = .returned (.tuple #[sl, .int .i64 (skE U Bk n f m g N Y)]) ∧ RdV w' sl (wgL U Bk n f m g N Y) (fun j => .int .i64 (wgF K U Bk Y j : Nat)) ∧ Below w.heap.size w w' := by
  have hal := (Below.refl _ w).alloc (Nat.le_refl _) (.cells #[.int .i64 U, .int .i64 Bk, .int .u8 (K 0), .int .u8 (K 1), .int .u8 (K 2), .int .u8 (K 3), .int .u8 (K 4), .int .u8 (K 5), .int .u8 (K 6), .int .u8 (K 7), .int .u8 (K 8), .int .u8 (K 9), .int .u8 (K 10), .int .u8 (K 11), .int .u8 (K 12), .int .u8 (K 13), .int .u8 (K 14), .int .u8 (K 15), v, u] 29)
  have HA := Lib.hid hal
  have HS := Lib.hid (st_row w U Bk K v u 29)
  have HVl := Lib.hid (rvalidsteps_any U Bk K n m f g v u _ (hv.below hal) (hu.below hal) hf hg)
  have HY := Lib.hid hy
  have HY6 := Lib.hid hy6
  obtain ⟨Ay, Ny, cy, rfl⟩ : ∃ A n c, ys = .slice A n c := by obtain ⟨A, c, h, _⟩ := hy; exact ⟨_, _, _, h⟩
  by_cases hs : VSt U Bk n f m g
  · obtain ⟨d, rfl, hd1, hd, _⟩ := vst_facts hs hf hg
    obtain ⟨U', rfl⟩ := Int.eq_ofNat_of_zero_le (show 0 ≤ U by have := hs.1; omega)
    have hU2 : 2 ≤ U' := by have := hs.1; omega
    have hU16 : U' ≤ 16 := by have := hs.2.1; omega
    rw [tt_pos hs] at HVl
    have HVs := Lib.hid hs
    have hNU : (U' - 1) * d ≤ 15 * 64 := Nat.mul_le_mul (by omega) hd
    have hNI : ((U' : Int) - 1) * (d : Int) = (((U' - 1) * d : Nat) : Int) := by rw [Int.natCast_mul, show ((U' - 1 : Nat) : Int) = (U' : Int) - 1 by omega]
    have hw2 : IntKind.i64.wrap (((U' : Int) - 1) * (d : Int)) = (((U' - 1) * d : Nat) : Int) := by rw [hNI, IntKind.wrap_i64]; omega
    have hw3 : IntKind.i64.wrap (((U' - 1) * d : Nat) : Int) = (((U' - 1) * d : Nat) : Int) := by rw [IntKind.wrap_i64]; omega
    have HRc := Lib.hid (fun W (h : Below w.heap.size w W) => refIsCopy_any N Y (.slice Ay Ny cy) ((U' - 1) * d) W (HY.out.below h))
    obtain ⟨A, n', c, rfl⟩ : ∃ A n c, v = .slice A n c := by obtain ⟨A, c, h, _⟩ := hv; exact ⟨_, _, _, h⟩
    obtain ⟨A2, m', c2, rfl⟩ : ∃ A n c, u = .slice A n c := by obtain ⟨A, c, h, _⟩ := hu; exact ⟨_, _, _, h⟩
    clear hv hu hf hg hal hs hy hy6
    by_cases hc : IsC N Y ((U' - 1) * d)
    · rw [tt_pos hc] at HRc
      have HOk : Hid (SkOk (U' : Int) (d : Int) n f m g N Y) := ⟨HVs.out, by rw [Int.toNat_natCast, Int.toNat_natCast]; exact hc⟩
      have HWg : Hid (wgL (U' : Int) (d : Int) n f m g N Y = U' - 1) := wgL_ok HOk.out
      have HWf : Hid (wgF K (U' : Int) (d : Int) Y = wts (arN K ((U' - 1) * d)) Y d ((U' - 1) * d)) := by show _ = _; unfold wgF; rw [Int.toNat_natCast, Int.toNat_natCast]
      have hNN : N = (U' - 1) * d := hc.1
      have HM := Lib.hid (fun W (h : Below w.heap.size w W) => rweightsof_any U' d K (.slice A n' c) (.slice A2 m' c2) Y (.slice Ay Ny cy) W hK ⟨_, _, _, rfl⟩ ⟨_, _, _, rfl⟩ (by have := HY.out.below h; rw [hNN] at this; exact this) (by have := HY6.out; rw [hNN] at this; exact this) hU2 hU16 hd1 hd)
      clear hc hNN
      generalize (U' - 1) * d = M at *
      go_enter Tryz.func24, Tryz.ntmps24
      go_wp2_with (refine wp_load_whole rfl 29 _ rfl w.heap.size rfl 29 20 _ _ _ HS.out rfl (st_cs _ _ _ _ _) Tryz.underlying29 rfl st_size ?_)
      refine HVl.out.mono ?_
      rintro e w1 ⟨rfl, hB1⟩
      have HS1 := Lib.hid (HS.out.of_block (hB1.block _ HS.out.lt))
      have HB1 := Lib.hid (below_then HA.out hB1)
      have k0 : w1.cell? ⟨w.heap.size, 0, none⟩ = some (.int .i64 (U' : Int)) := HS1.out.cell (i := 0) (by omega)
      have k1 : w1.cell? ⟨w.heap.size, 1, none⟩ = some (.int .i64 (d : Int)) := HS1.out.cell (i := 1) (by omega)
      clear hB1
      go_wp2_with fail
      refine (HRc.out _ HB1.out).mono ?_
      rintro e w2 ⟨rfl, rfl⟩
      go_wp2_with (refine wp_load_whole rfl 29 _ rfl w.heap.size rfl 29 20 _ _ _ HS1.out rfl (st_cs _ _ _ _ _) Tryz.underlying29 rfl st_size ?_)
      refine (HM.out _ HB1.out).mono ?_
      rintro e w3 ⟨b3, rfl, hr, hB3⟩
      have HR := Lib.hid hr
      have HB3 := Lib.hid (below_then HB1.out hB3)
      clear hr hB3
      go_wp2
      go_ret2
      exact ⟨_, by rw [skE_ok HOk.out]; rfl, by rw [HWg.out, HWf.out]; exact rdV_of_row HR.out (by omega), HB3.out⟩
    · rw [tt_neg hc] at HRc
      have HE : Hid (skE (U' : Int) (d : Int) n f m g N Y = 71) := skE_copy HVs.out (by rw [Int.toNat_natCast, Int.toNat_natCast]; exact hc)
      have HNo : Hid (wgL (U' : Int) (d : Int) n f m g N Y = 0) := wgL_no (fun h => hc (by have := h.2; rw [Int.toNat_natCast, Int.toNat_natCast] at this; exact this))
      clear hc
      generalize (U' - 1) * d = M at *
      go_enter Tryz.func24, Tryz.ntmps24
      go_wp2_with (refine wp_load_whole rfl 29 _ rfl w.heap.size rfl 29 20 _ _ _ HS.out rfl (st_cs _ _ _ _ _) Tryz.underlying29 rfl st_size ?_)
      refine HVl.out.mono ?_
      rintro e w1 ⟨rfl, hB1⟩
      have HS1 := Lib.hid (HS.out.of_block (hB1.block _ HS.out.lt))
      have HB1 := Lib.hid (below_then HA.out hB1)
      have k0 : w1.cell? ⟨w.heap.size, 0, none⟩ = some (.int .i64 (U' : Int)) := HS1.out.cell (i := 0) (by omega)
      have k1 : w1.cell? ⟨w.heap.size, 1, none⟩ = some (.int .i64 (d : Int)) := HS1.out.cell (i := 1) (by omega)
      clear hB1
      go_wp2_with fail
      refine (HRc.out _ HB1.out).mono ?_
      rintro e w2 ⟨rfl, rfl⟩
      go_wp2
      go_ret2
      exact ⟨_, by rw [HE.out]; rfl, by rw [HNo.out]; exact RdV.nil _ _, HB1.out⟩
  · have HE : Hid (skE U Bk n f m g N Y = 70) := skE_bad hs
    have HNo : Hid (wgL U Bk n f m g N Y = 0) := wgL_no (fun h => hs h.1)
    rw [tt_neg hs] at HVl
    obtain ⟨A, n', c, rfl⟩ : ∃ A n c, v = .slice A n c := by obtain ⟨A, c, h, _⟩ := hv; exact ⟨_, _, _, h⟩
    obtain ⟨A2, m', c2, rfl⟩ : ∃ A n c, u = .slice A n c := by obtain ⟨A, c, h, _⟩ := hu; exact ⟨_, _, _, h⟩
    clear hv hu hf hg hal hs hy hy6
    go_enter Tryz.func24, Tryz.ntmps24
    go_wp2_with (refine wp_load_whole rfl 29 _ rfl w.heap.size rfl 29 20 _ _ _ HS.out rfl (st_cs _ _ _ _ _) Tryz.underlying29 rfl st_size ?_)
    refine HVl.out.mono ?_
    rintro e w1 ⟨rfl, hB1⟩
    have HB1 := Lib.hid (below_then HA.out hB1)
    clear hB1
    go_wp2
    go_ret2
    exact ⟨_, by rw [HE.out]; rfl, by rw [HNo.out]; exact RdV.nil _ _, HB1.out⟩

set_option maxRecDepth 100000 in
set_option maxHeartbeats 1000000 in
theorem rtraceE_any (U Bk : Int) (n m : Nat) (K : Nat → Nat) (f g : Nat → Nat) (N : Nat) (Y : Nat → Nat) (v u ys : Value) (w : World) (hv : Rd w .u32 v n f) (hu : Rd w .u32 u m g) (hf : ∀ j, j < n → f j < B) (hg : ∀ j, j < m → g j < B) (hK : Kb K) (hy : Rd w .u8 ys N Y) (hy6 : ∀ j, j < N → Y j < 256) :
    Calls Tryz.prog 27 #[stV U Bk K v u, ys] w fun e w' => ∃ sl, e = .returned (.tuple #[sl, .int .i64 (skE U Bk n f m g N Y)]) ∧ RdV w' sl (nmO K U Bk n f m g N Y).length (fun j => .int .i64 ((nmO K U Bk n f m g N Y).getD j 0 : Nat)) ∧ Below w.heap.size w w' := by
  have hal := (Below.refl _ w).alloc (Nat.le_refl _) (.cells #[.int .i64 U, .int .i64 Bk, .int .u8 (K 0), .int .u8 (K 1), .int .u8 (K 2), .int .u8 (K 3), .int .u8 (K 4), .int .u8 (K 5), .int .u8 (K 6), .int .u8 (K 7), .int .u8 (K 8), .int .u8 (K 9), .int .u8 (K 10), .int .u8 (K 11), .int .u8 (K 12), .int .u8 (K 13), .int .u8 (K 14), .int .u8 (K 15), v, u] 29)
  have HA := Lib.hid hal
  have HS := Lib.hid (st_row w U Bk K v u 29)
  have HWt := Lib.hid (rweightsE_any U Bk n m K f g N Y v u ys _ (hv.below hal) (hu.below hal) hf hg hK (hy.below hal) hy6)
  obtain ⟨Ay, Ny, cy, rfl⟩ : ∃ A n c, ys = .slice A n c := by obtain ⟨A, c, h, _⟩ := hy; exact ⟨_, _, _, h⟩
  have HV := Lib.hid hv
  have HU := Lib.hid hu
  by_cases hs : SkOk U Bk n f m g N Y
  · obtain ⟨d, rfl, hd1, hd, cf, cg, lf, lg, hlt⟩ := vst_facts hs.1 hf hg
    obtain ⟨U', rfl⟩ := Int.eq_ofNat_of_zero_le (show 0 ≤ U by have := hs.1.1; omega)
    have hU2 : 2 ≤ U' := by have := hs.1.1; omega
    have hU16 : U' ≤ 16 := by have := hs.1.2.1; omega
    have HE : Hid (skE (U' : Int) (d : Int) n f m g N Y = 0) := skE_ok hs
    have HL : Hid (wgL (U' : Int) (d : Int) n f m g N Y = U' - 1) := wgL_ok hs
    have HO : Hid (nmO K (U' : Int) (d : Int) n f m g N Y = nmL U' d (val f n) (val g m) (wgF K (U' : Int) (d : Int) Y) U') := by show _ = _; rw [nmO_ok hs, Int.toNat_natCast, Int.toNat_natCast]
    have HD : Hid (∀ j, wgF K (U' : Int) (d : Int) Y j ≤ d) := fun j => by unfold wgF; rw [Int.toNat_natCast, Int.toNat_natCast]; exact wts_d hd1 _ _
    have HNv := Lib.hid (show Nt w v (val f n) from ⟨n, f, hv, cf, rfl⟩)
    have HNu := Lib.hid (show Nt w u (val g m) from ⟨m, g, hu, cg, rfl⟩)
    have HLf := Lib.hid lf
    have HLg := Lib.hid lg
    rw [HE.out, HL.out] at HWt
    generalize wgF K (U' : Int) (d : Int) Y = W at *
    obtain ⟨A, n', c, rfl⟩ : ∃ A n c, v = .slice A n c := by obtain ⟨A, c, h, _⟩ := hv; exact ⟨_, _, _, h⟩
    obtain ⟨A2, m', c2, rfl⟩ : ∃ A n c, u = .slice A n c := by obtain ⟨A, c, h, _⟩ := hu; exact ⟨_, _, _, h⟩
    clear hv hu hf hg hal hs hy hy6 cf cg lf lg hlt
    go_enter Tryz.func27, Tryz.ntmps27
    go_wp2_with (refine wp_load_whole rfl 29 _ rfl w.heap.size rfl 29 20 _ _ _ HS.out rfl (st_cs _ _ _ _ _) Tryz.underlying29 rfl st_size ?_)
    refine HWt.out.mono ?_
    rintro e w1 ⟨sl, rfl, hr, hB1⟩
    have HS1 := Lib.hid (HS.out.of_block (hB1.block _ HS.out.lt))
    have HB1 := Lib.hid (below_then HA.out hB1)
    have HM := Lib.hid (rnamedof_any U' d (val f n) (val g m) K (.slice A n' c) (.slice A2 m' c2) W sl w1 hr (fun j _ => HD.out j) (HNv.out.below HB1.out) (HNu.out.below HB1.out) HLf.out HLg.out hU2 hU16 hd1 hd)
    obtain ⟨As, ns, cs, rfl⟩ : ∃ A n c, sl = .slice A n c := by obtain ⟨A, c, h, _⟩ := hr; exact ⟨_, _, _, h⟩
    clear hr hB1
    go_wp2_with (refine wp_load_whole rfl 29 _ rfl w.heap.size rfl 29 20 _ _ _ HS1.out rfl (st_cs _ _ _ _ _) Tryz.underlying29 rfl st_size ?_)
    refine HM.out.mono ?_
    rintro e w2 ⟨sl2, rfl, hr, hB2⟩
    have HR := Lib.hid hr
    have HB2 := Lib.hid (below_then HB1.out hB2)
    obtain ⟨As2, ns2, cs2, rfl⟩ : ∃ A n c, sl2 = .slice A n c := by obtain ⟨A, c, h, _⟩ := hr; exact ⟨_, _, _, h⟩
    clear hr hB2
    go_wp2
    go_ret2
    exact ⟨_, by rw [HE.out]; rfl, by rw [HO.out]; exact HR.out, HB2.out⟩
  · have HO : Hid (nmO K U Bk n f m g N Y = []) := nmO_no hs
    obtain ⟨E, hE⟩ : ∃ E, E = skE U Bk n f m g N Y := ⟨_, rfl⟩
    have hE0 : E ≠ 0 := by
      rw [hE]
      unfold skE
      by_cases h1 : VSt U Bk n f m g
      · rw [tt_pos h1, if_pos rfl, tt_neg (fun h2 => hs ⟨h1, h2⟩)]; decide
      · rw [tt_neg h1, if_neg (by simp)]; decide
    have hEb : (E != 0) = true := by rw [bne_iff_ne]; exact hE0
    rw [← hE] at HWt ⊢
    obtain ⟨A, n', c, rfl⟩ : ∃ A n c, v = .slice A n c := by obtain ⟨A, c, h, _⟩ := hv; exact ⟨_, _, _, h⟩
    obtain ⟨A2, m', c2, rfl⟩ : ∃ A n c, u = .slice A n c := by obtain ⟨A, c, h, _⟩ := hu; exact ⟨_, _, _, h⟩
    clear hv hu hf hg hal hs hy hy6 hE hE0
    go_enter Tryz.func27, Tryz.ntmps27
    go_wp2_with (refine wp_load_whole rfl 29 _ rfl w.heap.size rfl 29 20 _ _ _ HS.out rfl (st_cs _ _ _ _ _) Tryz.underlying29 rfl st_size ?_)
    refine HWt.out.mono ?_
    rintro e w1 ⟨sl, rfl, hr, hB1⟩
    have HB1 := Lib.hid (below_then HA.out hB1)
    obtain ⟨As, ns, cs, rfl⟩ : ∃ A n c, sl = .slice A n c := by obtain ⟨A, c, h, _⟩ := hr; exact ⟨_, _, _, h⟩
    clear hr hB1
    go_wp2
    go_ret2
    exact ⟨_, rfl, by rw [HO.out]; exact RdV.nil _ _, HB1.out⟩
end Go.Proofs.YtmbokpfgnicboaaGreat
