import Derived.Test.YtmbokpfgnicboaaGreatT9
set_option linter.unusedVariables false
set_option linter.unusedSimpArgs false
/- The walk of the law CodeSteps. -/
namespace Go.Proofs.YtmbokpfgnicboaaGreat
open Go.RowKit Go.Hd Go.Sort _root_.Hd
set_option exponentiation.threshold 2000

set_option maxRecDepth 100000 in
set_option maxHeartbeats 2000000 in
theorem law4 (U Bk : Int) (n m : Nat) (K : Nat → Nat) (f g : Nat → Nat) (N : Nat) (Y : Nat → Nat) (v u ys : Value) (x : Int) (w : World) (hv : Rd w .u32 v n f) (hu : Rd w .u32 u m g) (hf : ∀ j, j < n → f j < B) (hg : ∀ j, j < m → g j < B) (hK : Kb K) (hy : Rd w .u8 ys N Y) (hy6 : ∀ j, j < N → Y j < 256) (hN : N ≤ 140737488351232) :
    Calls Tryz.prog 3 #[stV U Bk K v u, .int .i64 x, ys] w fun e w' => e = .returned (.bool true) ∧ Below w.heap.size w w' := by
  have H1 := Lib.hid (fun W (hb : Below w.heap.size w W) => stepWordE_any U Bk n m K f g v u x W (hv.below hb) (hu.below hb) hf hg hK)
  have H2 := Lib.hid (fun W (hb : Below w.heap.size w W) => rstepWord_any U Bk n m K f g v u x W (hv.below hb) (hu.below hb) hf hg hK)
  have H3 := Lib.hid (fun W (hb : Below w.heap.size w W) => checkSteps_any U Bk K n m f g v u W (hv.below hb) (hu.below hb) hf hg)
  have H4 := Lib.hid (fun W (hb : Below w.heap.size w W) => rchecksteps_any U Bk K n m f g v u W (hv.below hb) (hu.below hb) hf hg)
  have H5 := Lib.hid (fun W o (hb : Below w.heap.size w W) (ho : Rd W .u8 o N Y) => weightsE_any U Bk n m K f g N Y v u o W (hv.below hb) (hu.below hb) hf hg hK ho hy6)
  have H6 := Lib.hid (fun W (hb : Below w.heap.size w W) => rweightsE_any U Bk n m K f g N Y v u ys W (hv.below hb) (hu.below hb) hf hg hK (hy.below hb) hy6)
  have H7 := Lib.hid (fun W o (hb : Below w.heap.size w W) (ho : Rd W .u8 o N Y) => traceE_any U Bk n m K f g N Y v u o W (hv.below hb) (hu.below hb) hf hg hK ho hy6)
  have H8 := Lib.hid (fun W (hb : Below w.heap.size w W) => rtraceE_any U Bk n m K f g N Y v u ys W (hv.below hb) (hu.below hb) hf hg hK (hy.below hb) hy6)
  have HY := Lib.hid hy
  have hal := (Below.refl _ w).alloc (Nat.le_refl _) (.cells #[.int .i64 U, .int .i64 Bk, .int .u8 (K 0), .int .u8 (K 1), .int .u8 (K 2), .int .u8 (K 3), .int .u8 (K 4), .int .u8 (K 5), .int .u8 (K 6), .int .u8 (K 7), .int .u8 (K 8), .int .u8 (K 9), .int .u8 (K 10), .int .u8 (K 11), .int .u8 (K 12), .int .u8 (K 13), .int .u8 (K 14), .int .u8 (K 15), v, u] 29)
  have HA := Lib.hid hal
  have HS := Lib.hid (st_row w U Bk K v u 29)
  obtain ⟨Ay, Ny, cy, rfl⟩ : ∃ A n c, ys = .slice A n c := by obtain ⟨A, c, h, _⟩ := hy; exact ⟨_, _, _, h⟩
  obtain ⟨A, n', c, rfl⟩ : ∃ A n c, v = .slice A n c := by obtain ⟨A, c, h, _⟩ := hv; exact ⟨_, _, _, h⟩
  obtain ⟨A2, m', c2, rfl⟩ : ∃ A n c, u = .slice A n c := by obtain ⟨A, c, h, _⟩ := hu; exact ⟨_, _, _, h⟩
  clear hv hu hf hg hy hy6 hal hK
  generalize soE U Bk n f m g x = E1 at *
  generalize soL U Bk n f m g x = L1 at *
  generalize soF K U Bk x = F1 at *
  generalize skE U Bk n f m g N Y = E2 at *
  generalize wgL U Bk n f m g N Y = L2 at *
  generalize wgF K U Bk Y = F2 at *
  generalize nmO K U Bk n f m g N Y = L3 at *
  generalize spE U Bk n f m g = E3 at *
  have HE : Hid (((w.alloc (.cells #[.int .i64 U, .int .i64 Bk, .int .u8 (K 0), .int .u8 (K 1), .int .u8 (K 2), .int .u8 (K 3), .int .u8 (K 4), .int .u8 (K 5), .int .u8 (K 6), .int .u8 (K 7), .int .u8 (K 8), .int .u8 (K 9), .int .u8 (K 10), .int .u8 (K 11), .int .u8 (K 12), .int .u8 (K 13), .int .u8 (K 14), .int .u8 (K 15), (.slice A n' c), (.slice A2 m' c2)] 29)).alloc (.cells #[] 5)).ownsRow (w.heap.size + 1) 5 1 (.slice (some ⟨w.heap.size + 1, 0, none⟩) 0 0) 0 []) := by
    have h := World.ownsRow_lit (base := w.heap.size + 1) (e := 5) (size := 1) (w.alloc (.cells #[.int .i64 U, .int .i64 Bk, .int .u8 (K 0), .int .u8 (K 1), .int .u8 (K 2), .int .u8 (K 3), .int .u8 (K 4), .int .u8 (K 5), .int .u8 (K 6), .int .u8 (K 7), .int .u8 (K 8), .int .u8 (K 9), .int .u8 (K 10), .int .u8 (K 11), .int .u8 (K 12), .int .u8 (K 13), .int .u8 (K 14), .int .u8 (K 15), (.slice A n' c), (.slice A2 m' c2)] 29)) #[] 0 (by simp) (by unfold maxLen; omega) rfl
    rw [World.size_alloc] at h
    exact h
  go_enter Tryz.func3, Tryz.ntmps3
  go_wp2_with (first | (at_builtin; refine wp_app (w.heap.size + 1) rfl _ _ 30 5 (.int .u8 0) 1 rfl Tryz.underlying30 infoU8 rfl (by decide) _ [] rfl _ N _ rfl ((HY.out.below (HA.out.alloc HA.out.size (.cells #[] 5))).toV) (fun _ _ => rfl) HE.out (by simp) (by simp; omega) ?_; intro v1 w1 hown1 hg1; obtain ⟨A1, c1, rfl⟩ := own_slice hown1; simp only [List.length_nil, Nat.zero_add, List.nil_append] at hown1; have hb1 := below_own ((Below.refl (w.heap.size + 1) (w.alloc (.cells #[.int .i64 U, .int .i64 Bk, .int .u8 (K 0), .int .u8 (K 1), .int .u8 (K 2), .int .u8 (K 3), .int .u8 (K 4), .int .u8 (K 5), .int .u8 (K 6), .int .u8 (K 7), .int .u8 (K 8), .int .u8 (K 9), .int .u8 (K 10), .int .u8 (K 11), .int .u8 (K 12), .int .u8 (K 13), .int .u8 (K 14), .int .u8 (K 15), (.slice A n' c), (.slice A2 m' c2)] 29))).alloc (by simp) _) HE.out hg1 (by simp); have HB1 := Lib.hid (HA.out.trans (hb1.mono (by omega))); have HS1 := Lib.hid (HS.out.of_block (hb1.block w.heap.size (by omega))); have HO1 := Lib.hid (rd_of_own hown1); clear hown1 hg1 hb1) | (refine wp_load_whole rfl 29 _ rfl w.heap.size rfl 29 20 _ _ _ HS1.out rfl (st_cs _ _ _ _ _) Tryz.underlying29 rfl st_size ?_))
  refine (H1.out _ HB1.out).mono ?_
  rintro e w2 ⟨sl1, rfl, hr1, hb2⟩
  have HS2 := Lib.hid (HS1.out.of_block (hb2.block _ HS1.out.lt))
  have HB2 := Lib.hid (below_then HB1.out hb2)
  have HO2 := Lib.hid (HO1.out.below hb2)
  have HR1 := Lib.hid hr1
  clear hr1 hb2
  go_wp2_with (refine wp_load_whole rfl 29 _ rfl w.heap.size rfl 29 20 _ _ _ HS2.out rfl (st_cs _ _ _ _ _) Tryz.underlying29 rfl st_size ?_)
  refine (H2.out _ HB2.out).mono ?_
  rintro e w3 ⟨sl2, rfl, hr2, hb3⟩
  have HS3 := Lib.hid (HS2.out.of_block (hb3.block _ HS2.out.lt))
  have HB3 := Lib.hid (below_then HB2.out hb3)
  have HO3 := Lib.hid (HO2.out.below hb3)
  have HR13 := Lib.hid (HR1.out.below hb3)
  have HR2 := Lib.hid hr2
  clear hr2 hb3
  have q1 : ∀ d os, _ := fun d os => run_conv_str (P := Tryz.prog) (HR13.out.below (below_regrown w3 d os)) 30 5 9 Tryz.underlying30 Tryz.underlying5 Tryz.underlying9
  have q2 : ∀ d os, _ := fun d os => run_conv_str (P := Tryz.prog) (HR2.out.below (below_regrown w3 d os)) 30 5 9 Tryz.underlying30 Tryz.underlying5 Tryz.underlying9
  have HQ3 : Hid (∀ d os, Calls Tryz.prog 21 #[stV U Bk K (.slice A n' c) (.slice A2 m' c2)] (grow (redrawn w3 d) os) fun e w'' => e = .returned (.int .i64 E3) ∧ ∃ p : Regrown, w'' = grow (redrawn w3 p.d) p.os) := fun d os => Calls.regrown_of (H3.out _ (below_then HB3.out (below_regrown w3 d os)))
  have HQ4 : Hid (∀ d os, Calls Tryz.prog 22 #[stV U Bk K (.slice A n' c) (.slice A2 m' c2)] (grow (redrawn w3 d) os) fun e w'' => e = .returned (.int .i64 E3) ∧ ∃ p : Regrown, w'' = grow (redrawn w3 p.d) p.os) := fun d os => Calls.regrown_of (H4.out _ (below_then HB3.out (below_regrown w3 d os)))
  generalize strF F1 L1 = S at *
  go_wp2
  refine wp_region_quiet_below (by kernel_rfl) (by kernel_rfl) ?_
  repeat (quiet_step (fail))
  refine quiet_load_cells rfl 29 _ rfl w.heap.size 0 rfl 20 _ _ _ (fun W hW j hj => by obtain ⟨p, rfl⟩ := hW; rw [Nat.zero_add]; exact cell_regrown (HS3.out.cell hj) _ _) rfl (st_cs _ _ _ _ _) Tryz.underlying29 rfl st_size ?_
  quiet_step (exact HQ3.out _ _)
  refine quiet_load_cells rfl 29 _ rfl w.heap.size 0 rfl 20 _ _ _ (fun W hW j hj => by obtain ⟨p, rfl⟩ := hW; rw [Nat.zero_add]; exact cell_regrown (HS3.out.cell hj) _ _) rfl (st_cs _ _ _ _ _) Tryz.underlying29 rfl st_size ?_
  quiet_step (exact HQ4.out _ _)
  repeat (quiet_step (fail))
  refine wpQuiet_nil ?_
  intro w4 hw4
  have hb4 : Below w3.heap.size w3 w4 := by obtain ⟨p, rfl⟩ := hw4; exact below_regrown _ _ _
  have HS4 := Lib.hid (HS3.out.of_block (hb4.block _ HS3.out.lt))
  have HB4 := Lib.hid (below_then HB3.out hb4)
  have HO4 := Lib.hid (HO3.out.below hb4)
  clear hb4 hw4 q1 q2 HQ3 HQ4
  go_wp2_with (refine wp_load_whole rfl 29 _ rfl w.heap.size rfl 29 20 _ _ _ HS4.out rfl (st_cs _ _ _ _ _) Tryz.underlying29 rfl st_size ?_)
  refine (H5.out _ _ HB4.out HO4.out).mono ?_
  rintro e w5 ⟨sl3, rfl, hr3, hb5⟩
  have HS5 := Lib.hid (HS4.out.of_block (hb5.block _ HS4.out.lt))
  have HB5 := Lib.hid (below_then HB4.out hb5)
  have HO5 := Lib.hid (HO4.out.below hb5)
  have HR3 := Lib.hid hr3
  clear hr3 hb5
  go_wp2_with (refine wp_load_whole rfl 29 _ rfl w.heap.size rfl 29 20 _ _ _ HS5.out rfl (st_cs _ _ _ _ _) Tryz.underlying29 rfl st_size ?_)
  refine (H6.out _ HB5.out).mono ?_
  rintro e w6 ⟨sl4, rfl, hr4, hb6⟩
  have HS6 := Lib.hid (HS5.out.of_block (hb6.block _ HS5.out.lt))
  have HB6 := Lib.hid (below_then HB5.out hb6)
  have HO6 := Lib.hid (HO5.out.below hb6)
  have hsm := sameInts_any L2 L2 (fun j => (F2 j : Nat)) (fun j => (F2 j : Nat)) sl3 sl4 w6 (HR3.out.below hb6) hr4
  rw [tt_pos ⟨rfl, fun _ _ => rfl⟩] at hsm
  have HSm := Lib.hid hsm
  clear hr4 hb6 hsm
  go_wp2_with fail
  refine HSm.out.mono ?_
  rintro e w7 ⟨rfl, hb7⟩
  have HS7 := Lib.hid (HS6.out.of_block (hb7.block _ HS6.out.lt))
  have HB7 := Lib.hid (below_then HB6.out hb7)
  have HO7 := Lib.hid (HO6.out.below hb7)
  clear hb7
  go_wp2_with (refine wp_load_whole rfl 29 _ rfl w.heap.size rfl 29 20 _ _ _ HS7.out rfl (st_cs _ _ _ _ _) Tryz.underlying29 rfl st_size ?_)
  refine (H7.out _ _ HB7.out HO7.out).mono ?_
  rintro e w8 ⟨sl5, rfl, hr5, hb8⟩
  have HS8 := Lib.hid (HS7.out.of_block (hb8.block _ HS7.out.lt))
  have HB8 := Lib.hid (below_then HB7.out hb8)
  have HO8 := Lib.hid (HO7.out.below hb8)
  have HR5 := Lib.hid hr5
  clear hr5 hb8
  go_wp2_with (refine wp_load_whole rfl 29 _ rfl w.heap.size rfl 29 20 _ _ _ HS8.out rfl (st_cs _ _ _ _ _) Tryz.underlying29 rfl st_size ?_)
  refine (H8.out _ HB8.out).mono ?_
  rintro e w9 ⟨sl6, rfl, hr6, hb9⟩
  have HB9 := Lib.hid (below_then HB8.out hb9)
  have HO9 := Lib.hid (HO8.out.below hb9)
  have hsm2 := sameInts_any L3.length L3.length (fun j => (L3.getD j 0 : Nat)) (fun j => (L3.getD j 0 : Nat)) sl5 sl6 w9 (HR5.out.below hb9) hr6
  rw [tt_pos ⟨rfl, fun _ _ => rfl⟩] at hsm2
  have HSm2 := Lib.hid hsm2
  clear hr6 hb9 hsm2
  go_wp2_with fail
  refine HSm2.out.mono ?_
  rintro e w10 ⟨rfl, hb10⟩
  have HB10 := Lib.hid (below_then HB9.out hb10)
  have HO10 := Lib.hid (HO9.out.below hb10)
  have q1 := run_conv_str (P := Tryz.prog) HO10.out 30 5 9 Tryz.underlying30 Tryz.underlying5 Tryz.underlying9
  have q2 := run_conv_str (P := Tryz.prog) (HY.out.below HB10.out) 30 5 9 Tryz.underlying30 Tryz.underlying5 Tryz.underlying9
  generalize strF Y N = S2 at *
  clear hb10
  go_wp2
  go_ret
  exact ⟨by simp, HB10.out⟩
end Go.Proofs.YtmbokpfgnicboaaGreat
