import Derived.Test.YtmbokpfgnicboaaGreatT5
set_option linter.unusedVariables false
set_option linter.unusedSimpArgs false
/- The walks of codes of steps: StepWord, Weights, TraceSteps. -/
namespace Go.Proofs.YtmbokpfgnicboaaGreat
open Go.RowKit Go.Hd Go.Sort _root_.Hd
set_option exponentiation.threshold 2000

/-- What Weights and TraceSteps answer: the error, the weights, the users named. -/
noncomputable def skE (U Bk : Int) (n : Nat) (f : Nat → Nat) (m : Nat) (g : Nat → Nat) (N : Nat) (Y : Nat → Nat) : Int := if tt (VSt U Bk n f m g) then (if tt (IsC N Y ((U.toNat - 1) * Bk.toNat)) then 0 else 71) else 70
/-- All is well. -/
def SkOk (U Bk : Int) (n : Nat) (f : Nat → Nat) (m : Nat) (g : Nat → Nat) (N : Nat) (Y : Nat → Nat) : Prop := VSt U Bk n f m g ∧ IsC N Y ((U.toNat - 1) * Bk.toNat)
noncomputable def wgL (U Bk : Int) (n : Nat) (f : Nat → Nat) (m : Nat) (g : Nat → Nat) (N : Nat) (Y : Nat → Nat) : Nat := if tt (SkOk U Bk n f m g N Y) then U.toNat - 1 else 0
def wgF (K : Nat → Nat) (U Bk : Int) (Y : Nat → Nat) : Nat → Nat := wts (arN K ((U.toNat - 1) * Bk.toNat)) Y Bk.toNat ((U.toNat - 1) * Bk.toNat)
noncomputable def nmO (K : Nat → Nat) (U Bk : Int) (n : Nat) (f : Nat → Nat) (m : Nat) (g : Nat → Nat) (N : Nat) (Y : Nat → Nat) : List Nat := if tt (SkOk U Bk n f m g N Y) then nmL U.toNat Bk.toNat (val f n) (val g m) (wgF K U Bk Y) U.toNat else []
theorem skE_ok {U Bk : Int} {n m N : Nat} {f g Y : Nat → Nat} (h : SkOk U Bk n f m g N Y) : skE U Bk n f m g N Y = 0 := by unfold skE; rw [tt_pos h.1, if_pos rfl, tt_pos h.2, if_pos rfl]
theorem skE_copy {U Bk : Int} {n m N : Nat} {f g Y : Nat → Nat} (h : VSt U Bk n f m g) (hc : ¬ IsC N Y ((U.toNat - 1) * Bk.toNat)) : skE U Bk n f m g N Y = 71 := by unfold skE; rw [tt_pos h, if_pos rfl, tt_neg hc]; rfl
theorem skE_bad {U Bk : Int} {n m N : Nat} {f g Y : Nat → Nat} (h : ¬ VSt U Bk n f m g) : skE U Bk n f m g N Y = 70 := by unfold skE; rw [tt_neg h]; rfl
theorem wgL_ok {U Bk : Int} {n m N : Nat} {f g Y : Nat → Nat} (h : SkOk U Bk n f m g N Y) : wgL U Bk n f m g N Y = U.toNat - 1 := by unfold wgL; rw [tt_pos h]; rfl
theorem wgL_no {U Bk : Int} {n m N : Nat} {f g Y : Nat → Nat} (h : ¬ SkOk U Bk n f m g N Y) : wgL U Bk n f m g N Y = 0 := by unfold wgL; rw [tt_neg h]; rfl
theorem nmO_ok {K : Nat → Nat} {U Bk : Int} {n m N : Nat} {f g Y : Nat → Nat} (h : SkOk U Bk n f m g N Y) : nmO K U Bk n f m g N Y = nmL U.toNat Bk.toNat (val f n) (val g m) (wgF K U Bk Y) U.toNat := by unfold nmO; rw [tt_pos h]; rfl
theorem nmO_no {K : Nat → Nat} {U Bk : Int} {n m N : Nat} {f g Y : Nat → Nat} (h : ¬ SkOk U Bk n f m g N Y) : nmO K U Bk n f m g N Y = [] := by unfold nmO; rw [tt_neg h]; rfl
theorem RdV.nil (w : World) (F : Nat → Value) : RdV w (.slice none 0 0) 0 F := ⟨none, 0, rfl, Nat.le_refl _, by unfold maxLen; omega, fun h => absurd h (by omega)⟩

set_option maxRecDepth 100000 in
set_option maxHeartbeats 1000000 in
theorem stepsOf_bad (U Bk : Int) (n m : Nat) (K : Nat → Nat) (f g : Nat → Nat) (v u : Value) (w : World) (hv : Rd w .u32 v n f) (hu : Rd w .u32 u m g) (hf : ∀ j, j < n → f j < B) (hg : ∀ j, j < m → g j < B) (hs : ¬ VSt U Bk n f m g) :
    Calls Tryz.prog 66 #[stV U Bk K v u] w fun e w' => e = .returned (.tuple #[.pointer none, .int .i64 70]) ∧ Below w.heap.size w w' := by
  have hal := (Below.refl _ w).alloc (Nat.le_refl _) (.cells #[.int .i64 U, .int .i64 Bk, .int .u8 (K 0), .int .u8 (K 1), .int .u8 (K 2), .int .u8 (K 3), .int .u8 (K 4), .int .u8 (K 5), .int .u8 (K 6), .int .u8 (K 7), .int .u8 (K 8), .int .u8 (K 9), .int .u8 (K 10), .int .u8 (K 11), .int .u8 (K 12), .int .u8 (K 13), .int .u8 (K 14), .int .u8 (K 15), v, u] 29)
  have HCk := Lib.hid (checkSteps_any U Bk K n m f g v u _ (hv.below hal) (hu.below hal) hf hg)
  rw [spE_no hs] at HCk
  have HA := Lib.hid hal
  have HS := Lib.hid (st_row w U Bk K v u 29)
  obtain ⟨A, n', c, rfl⟩ : ∃ A n c, v = .slice A n c := by obtain ⟨A, c, h, _⟩ := hv; exact ⟨_, _, _, h⟩
  obtain ⟨A2, m', c2, rfl⟩ : ∃ A n c, u = .slice A n c := by obtain ⟨A, c, h, _⟩ := hu; exact ⟨_, _, _, h⟩
  clear hv hu hf hg hal hs
  go_enter Tryz.func66, Tryz.ntmps66
  go_wp2_with (refine wp_load_whole rfl 29 _ rfl w.heap.size rfl 29 20 _ _ _ HS.out rfl (st_cs _ _ _ _ _) Tryz.underlying29 rfl st_size ?_)
  refine HCk.out.mono ?_
  rintro e w1 ⟨rfl, hB1⟩
  have HB1 := Lib.hid (below_then HA.out hB1)
  clear hB1
  go_wp2
  go_ret2
  exact ⟨rfl, HB1.out⟩

theorem method_weights (p : Value) (w : World) : Calls Tryz.prog 71 #[p] w fun e w' => e = .returned (.func (.func 72) #[p] #[]) ∧ w = w' := by
  go_enter Tryz.func71, Tryz.ntmps71
  go_wp2
  go_ret
  exact ⟨rfl, rfl⟩
set_option maxRecDepth 100000 in
set_option maxHeartbeats 1000000 in
theorem asked_weights (U Bk : Int) (n m : Nat) (K : Nat → Nat) (f g : Nat → Nat) (N : Nat) (Y : Nat → Nat) (v u ys : Value) (w : World) (hv : Rd w .u32 v n f) (hu : Rd w .u32 u m g) (hf : ∀ j, j < n → f j < B) (hg : ∀ j, j < m → g j < B) (hK : Kb K) (hy : Rd w .u8 ys N Y) (hy6 : ∀ j, j < N → Y j < 256) :
    Calls Tryz.prog 70 #[stV U Bk K v u, ys, .func (.func 71) #[] #[]] w fun e w' => ∃ sl, e = .returned (.tuple #[sl, .int .i64 (skE U Bk n f m g N Y)]) ∧ RdV w' sl (wgL U Bk n f m g N Y) (fun j => .int .i64 (wgF K U Bk Y j : Nat)) ∧ Below w.heap.size w w' := by
  have hal := (Below.refl _ w).alloc (Nat.le_refl _) (.cells #[.int .i64 U, .int .i64 Bk, .int .u8 (K 0), .int .u8 (K 1), .int .u8 (K 2), .int .u8 (K 3), .int .u8 (K 4), .int .u8 (K 5), .int .u8 (K 6), .int .u8 (K 7), .int .u8 (K 8), .int .u8 (K 9), .int .u8 (K 10), .int .u8 (K 11), .int .u8 (K 12), .int .u8 (K 13), .int .u8 (K 14), .int .u8 (K 15), v, u] 29)
  have HA := Lib.hid hal
  have HS := Lib.hid (st_row w U Bk K v u 29)
  have HY := Lib.hid hy
  have HY6 := Lib.hid hy6
  obtain ⟨Ay, Ny, cy, rfl⟩ : ∃ A n c, ys = .slice A n c := by obtain ⟨A, c, h, _⟩ := hy; exact ⟨_, _, _, h⟩
  by_cases hs : VSt U Bk n f m g
  · obtain ⟨d, rfl, hd1, hd, cf, cg, lf, lg, hlt⟩ := vst_facts hs hf hg
    obtain ⟨U', rfl⟩ := Int.eq_ofNat_of_zero_le (show 0 ≤ U by have := hs.1; omega)
    have hU2 : 2 ≤ U' := by have := hs.1; omega
    have hU16 : U' ≤ 16 := by have := hs.2.1; omega
    have HG := Lib.hid (stepsOf_good U' d n m K f g v u _ (hv.below hal) (hu.below hal) hf hg hK hs)
    have HNv := Lib.hid (show Nt w v (val f n) from ⟨n, f, hv, cf, rfl⟩)
    have HNu := Lib.hid (show Nt w u (val g m) from ⟨m, g, hu, cg, rfl⟩)
    have HLf := Lib.hid lf
    have HLg := Lib.hid lg
    have HVs := Lib.hid hs
    obtain ⟨A, n', c, rfl⟩ : ∃ A n c, v = .slice A n c := by obtain ⟨A, c, h, _⟩ := hv; exact ⟨_, _, _, h⟩
    obtain ⟨A2, m', c2, rfl⟩ : ∃ A n c, u = .slice A n c := by obtain ⟨A, c, h, _⟩ := hu; exact ⟨_, _, _, h⟩
    clear hv hu hf hg hal hs cf cg lf lg hlt hy hy6
    go_enter Tryz.func70, Tryz.ntmps70
    go_wp2_with (refine wp_load_whole rfl 29 _ rfl w.heap.size rfl 29 20 _ _ _ HS.out rfl (st_cs _ _ _ _ _) Tryz.underlying29 rfl st_size ?_)
    refine HG.out.mono ?_
    rintro e w1 ⟨bs, ba, rfl, hrs, hra, hbs, hba, hB1⟩
    have HSs : Hid (SsAt w1 bs ba U' d K (.slice A n' c) (.slice A2 m' c2)) := ⟨hrs, hra⟩
    have HB1 := Lib.hid (below_then HA.out hB1)
    obtain ⟨_, _, p20⟩ := HSs.out.cells
    have HIs := Lib.hid (isCopy_any N Y (.slice Ay Ny cy) ((U' - 1) * d) w1 (HY.out.below HB1.out) HY6.out)
    clear hrs hra hbs hba hB1
    by_cases hc : IsC N Y ((U' - 1) * d)
    · rw [tt_pos hc] at HIs
      have HOk : Hid (SkOk (U' : Int) (d : Int) n f m g N Y) := ⟨HVs.out, by rw [Int.toNat_natCast, Int.toNat_natCast]; exact hc⟩
      have HNN : Hid (N = (U' - 1) * d) := hc.1
      have HC := Lib.hid hc
      clear hc
      go_wp2_with fail
      refine HIs.out.mono ?_
      rintro e w2 ⟨rfl, hB2⟩
      have HB2 := Lib.hid (below_then HB1.out hB2)
      have HS2 := Lib.hid (HSs.out.below hB2)
      have hY2 : Rd w2 .u8 (.slice Ay Ny cy) ((U' - 1) * d) Y := by have := HY.out.below HB2.out; rw [HNN.out] at this; exact this
      have hY26 : ∀ j, j < (U' - 1) * d → Y j < 256 := by have := HY6.out; rw [HNN.out] at this; exact this
      have HM := Lib.hid (weights_any bs ba U' d K (.slice A n' c) (.slice A2 m' c2) Y (.slice Ay Ny cy) w2 HS2.out hY2 hY26 hU2 hU16 hd1 hd)
      clear hB2 hY2 hY26 p20
      go_wp2_with fail
      refine (method_weights _ _).mono ?_
      rintro e w2 ⟨rfl, rfl⟩
      go_wp2_with fail
      refine HM.out.mono ?_
      rintro e w3 ⟨b3, rfl, hr, _, hB3⟩
      have HR := Lib.hid hr
      have HB3 := Lib.hid (below_then HB2.out hB3)
      clear hr hB3
      go_wp2
      go_ret2
      refine ⟨_, by rw [skE_ok HOk.out]; rfl, ?_, HB3.out⟩
      rw [wgL_ok HOk.out]
      unfold wgF
      rw [Int.toNat_natCast, Int.toNat_natCast]
      exact rdV_of_row HR.out (by omega)
    · rw [tt_neg hc] at HIs
      have HE : Hid (skE (U' : Int) (d : Int) n f m g N Y = 71) := skE_copy HVs.out (by rw [Int.toNat_natCast, Int.toNat_natCast]; exact hc)
      have HNo : Hid (¬ SkOk (U' : Int) (d : Int) n f m g N Y) := fun h => hc (by have := h.2; rw [Int.toNat_natCast, Int.toNat_natCast] at this; exact this)
      clear hc
      go_wp2_with fail
      refine HIs.out.mono ?_
      rintro e w2 ⟨rfl, hB2⟩
      have HB2 := Lib.hid (below_then HB1.out hB2)
      clear hB2
      go_wp2
      go_ret2
      exact ⟨_, by rw [HE.out]; rfl, by rw [wgL_no HNo.out]; exact RdV.nil _ _, HB2.out⟩
  · have HG := Lib.hid (stepsOf_bad U Bk n m K f g v u _ (hv.below hal) (hu.below hal) hf hg hs)
    have HE : Hid (skE U Bk n f m g N Y = 70) := skE_bad hs
    have HNo : Hid (¬ SkOk U Bk n f m g N Y) := fun h => hs h.1
    obtain ⟨A, n', c, rfl⟩ : ∃ A n c, v = .slice A n c := by obtain ⟨A, c, h, _⟩ := hv; exact ⟨_, _, _, h⟩
    obtain ⟨A2, m', c2, rfl⟩ : ∃ A n c, u = .slice A n c := by obtain ⟨A, c, h, _⟩ := hu; exact ⟨_, _, _, h⟩
    clear hv hu hf hg hal hs hy hy6
    go_enter Tryz.func70, Tryz.ntmps70
    go_wp2_with (refine wp_load_whole rfl 29 _ rfl w.heap.size rfl 29 20 _ _ _ HS.out rfl (st_cs _ _ _ _ _) Tryz.underlying29 rfl st_size ?_)
    refine HG.out.mono ?_
    rintro e w1 ⟨rfl, hB1⟩
    have HB1 := Lib.hid (below_then HA.out hB1)
    clear hB1
    go_wp2
    go_ret2
    exact ⟨_, by rw [HE.out]; rfl, by rw [wgL_no HNo.out]; exact RdV.nil _ _, HB1.out⟩

set_option maxRecDepth 100000 in
set_option maxHeartbeats 1000000 in
theorem weightsE_any (U Bk : Int) (n m : Nat) (K : Nat → Nat) (f g : Nat → Nat) (N : Nat) (Y : Nat → Nat) (v u ys : Value) (w : World) (hv : Rd w .u32 v n f) (hu : Rd w .u32 u m g) (hf : ∀ j, j < n → f j < B) (hg : ∀ j, j < m → g j < B) (hK : Kb K) (hy : Rd w .u8 ys N Y) (hy6 : ∀ j, j < N → Y j < 256) :
    Calls Tryz.prog 23 #[stV U Bk K v u, ys] w fun e w' => ∃ sl, e = .returned (.tuple #[sl, .int .i64 (skE U Bk n f m g N Y)]) ∧ RdV w' sl (wgL U Bk n f m g N Y) (fun j => .int .i64 (wgF K U Bk Y j : Nat)) ∧ Below w.heap.size w w' := by
  have hal := (Below.refl _ w).alloc (Nat.le_refl _) (.cells #[.int .i64 U, .int .i64 Bk, .int .u8 (K 0), .int .u8 (K 1), .int .u8 (K 2), .int .u8 (K 3), .int .u8 (K 4), .int .u8 (K 5), .int .u8 (K 6), .int .u8 (K 7), .int .u8 (K 8), .int .u8 (K 9), .int .u8 (K 10), .int .u8 (K 11), .int .u8 (K 12), .int .u8 (K 13), .int .u8 (K 14), .int .u8 (K 15), v, u] 29)
  have HA := Lib.hid hal
  have HS := Lib.hid (st_row w U Bk K v u 29)
  have HG := Lib.hid (asked_weights U Bk n m K f g N Y v u ys _ (hv.below hal) (hu.below hal) hf hg hK (hy.below hal) hy6)
  obtain ⟨Ay, Ny, cy, rfl⟩ : ∃ A n c, ys = .slice A n c := by obtain ⟨A, c, h, _⟩ := hy; exact ⟨_, _, _, h⟩
  obtain ⟨A, n', c, rfl⟩ : ∃ A n c, v = .slice A n c := by obtain ⟨A, c, h, _⟩ := hv; exact ⟨_, _, _, h⟩
  obtain ⟨A2, m', c2, rfl⟩ : ∃ A n c, u = .slice A n c := by obtain ⟨A, c, h, _⟩ := hu; exact ⟨_, _, _, h⟩
  clear hv hu hf hg hal hy hy6
  go_enter Tryz.func23, Tryz.ntmps23
  go_wp2_with (refine wp_load_whole rfl 29 _ rfl w.heap.size rfl 29 20 _ _ _ HS.out rfl (st_cs _ _ _ _ _) Tryz.underlying29 rfl st_size ?_)
  refine HG.out.mono ?_
  rintro e w1 ⟨sl, rfl, hr, hB1⟩
  have HR := Lib.hid hr
  have HB1 := Lib.hid (below_then HA.out hB1)
  obtain ⟨As, ns, cs, rfl⟩ : ∃ A n c, sl = .slice A n c := by obtain ⟨A, c, h, _⟩ := hr; exact ⟨_, _, _, h⟩
  clear hr hB1
  go_wp2
  go_ret2
  exact ⟨_, rfl, HR.out, HB1.out⟩

theorem method_trace (p : Value) (w : World) : Calls Tryz.prog 74 #[p] w fun e w' => e = .returned (.func (.func 75) #[p] #[]) ∧ w = w' := by
  go_enter Tryz.func74, Tryz.ntmps74
  go_wp2
  go_ret
  exact ⟨rfl, rfl⟩
set_option maxRecDepth 100000 in
set_option maxHeartbeats 1000000 in
theorem asked_trace (U Bk : Int) (n m : Nat) (K : Nat → Nat) (f g : Nat → Nat) (N : Nat) (Y : Nat → Nat) (v u ys : Value) (w : World) (hv : Rd w .u32 v n f) (hu : Rd w .u32 u m g) (hf : ∀ j, j < n → f j < B) (hg : ∀ j, j < m → g j < B) (hK : Kb K) (hy : Rd w .u8 ys N Y) (hy6 : ∀ j, j < N → Y j < 256) :
    Calls Tryz.prog 70 #[stV U Bk K v u, ys, .func (.func 74) #[] #[]] w fun e w' => ∃ sl, e = .returned (.tuple #[sl, .int .i64 (skE U Bk n f m g N Y)]) ∧ RdV w' sl (nmO K U Bk n f m g N Y).length (fun j => .int .i64 ((nmO K U Bk n f m g N Y).getD j 0 : Nat)) ∧ Below w.heap.size w w' := by
  have hal := (Below.refl _ w).alloc (Nat.le_refl _) (.cells #[.int .i64 U, .int .i64 Bk, .int .u8 (K 0), .int .u8 (K 1), .int .u8 (K 2), .int .u8 (K 3), .int .u8 (K 4), .int .u8 (K 5), .int .u8 (K 6), .int .u8 (K 7), .int .u8 (K 8), .int .u8 (K 9), .int .u8 (K 10), .int .u8 (K 11), .int .u8 (K 12), .int .u8 (K 13), .int .u8 (K 14), .int .u8 (K 15), v, u] 29)
  have HA := Lib.hid hal
  have HS := Lib.hid (st_row w U Bk K v u 29)
  have HY := Lib.hid hy
  have HY6 := Lib.hid hy6
  obtain ⟨Ay, Ny, cy, rfl⟩ : ∃ A n c, ys = .slice A n c := by obtain ⟨A, c, h, _⟩ := hy; exact ⟨_, _, _, h⟩
  by_cases hs : VSt U Bk n f m g
  · obtain ⟨d, rfl, hd1, hd, cf, cg, lf, lg, hlt⟩ := vst_facts hs hf hg
    obtain ⟨U', rfl⟩ := Int.eq_ofNat_of_zero_le (show 0 ≤ U by have := hs.1; omega)
    have hU2 : 2 ≤ U' := by have := hs.1; omega
    have hU16 : U' ≤ 16 := by have := hs.2.1; omega
    have HG := Lib.hid (stepsOf_good U' d n m K f g v u _ (hv.below hal) (hu.below hal) hf hg hK hs)
    have HNv := Lib.hid (show Nt w v (val f n) from ⟨n, f, hv, cf, rfl⟩)
    have HNu := Lib.hid (show Nt w u (val g m) from ⟨m, g, hu, cg, rfl⟩)
    have HLf := Lib.hid lf
    have HLg := Lib.hid lg
    have HVs := Lib.hid hs
    obtain ⟨A, n', c, rfl⟩ : ∃ A n c, v = .slice A n c := by obtain ⟨A, c, h, _⟩ := hv; exact ⟨_, _, _, h⟩
    obtain ⟨A2, m', c2, rfl⟩ : ∃ A n c, u = .slice A n c := by obtain ⟨A, c, h, _⟩ := hu; exact ⟨_, _, _, h⟩
    clear hv hu hf hg hal hs cf cg lf lg hlt hy hy6
    go_enter Tryz.func70, Tryz.ntmps70
    go_wp2_with (refine wp_load_whole rfl 29 _ rfl w.heap.size rfl 29 20 _ _ _ HS.out rfl (st_cs _ _ _ _ _) Tryz.underlying29 rfl st_size ?_)
    refine HG.out.mono ?_
    rintro e w1 ⟨bs, ba, rfl, hrs, hra, hbs, hba, hB1⟩
    have HSs : Hid (SsAt w1 bs ba U' d K (.slice A n' c) (.slice A2 m' c2)) := ⟨hrs, hra⟩
    have HB1 := Lib.hid (below_then HA.out hB1)
    obtain ⟨_, _, p20⟩ := HSs.out.cells
    have HIs := Lib.hid (isCopy_any N Y (.slice Ay Ny cy) ((U' - 1) * d) w1 (HY.out.below HB1.out) HY6.out)
    clear hrs hra hbs hba hB1
    by_cases hc : IsC N Y ((U' - 1) * d)
    · rw [tt_pos hc] at HIs
      have HOk : Hid (SkOk (U' : Int) (d : Int) n f m g N Y) := ⟨HVs.out, by rw [Int.toNat_natCast, Int.toNat_natCast]; exact hc⟩
      have HNN : Hid (N = (U' - 1) * d) := hc.1
      have HC := Lib.hid hc
      clear hc
      go_wp2_with fail
      refine HIs.out.mono ?_
      rintro e w2 ⟨rfl, hB2⟩
      have HB2 := Lib.hid (below_then HB1.out hB2)
      have HS2 := Lib.hid (HSs.out.below hB2)
      have hY2 : Rd w2 .u8 (.slice Ay Ny cy) ((U' - 1) * d) Y := by have := HY.out.below HB2.out; rw [HNN.out] at this; exact this
      have hY26 : ∀ j, j < (U' - 1) * d → Y j < 256 := by have := HY6.out; rw [HNN.out] at this; exact this
      have HM := Lib.hid (names_any bs ba U' d (val f n) (val g m) K (.slice A n' c) (.slice A2 m' c2) Y (.slice Ay Ny cy) w2 HS2.out (HNv.out.below HB2.out) (HNu.out.below HB2.out) HLf.out HLg.out hY2 hY26 hU2 hU16 hd1 hd)
      clear hB2 hY2 hY26 p20
      go_wp2_with fail
      refine (method_trace _ _).mono ?_
      rintro e w2 ⟨rfl, rfl⟩
      go_wp2_with fail
      refine HM.out.mono ?_
      rintro e w3 ⟨sl, rfl, hr, hB3⟩
      obtain ⟨As, ns, cs, rfl⟩ : ∃ A n c, sl = .slice A n c := by obtain ⟨A, c, h, _⟩ := hr; exact ⟨_, _, _, h⟩
      have HR := Lib.hid hr
      have HB3 := Lib.hid (below_then HB2.out hB3)
      clear hr hB3
      go_wp2
      go_ret2
      refine ⟨_, by rw [skE_ok HOk.out]; rfl, ?_, HB3.out⟩
      rw [nmO_ok HOk.out]
      unfold wgF
      rw [Int.toNat_natCast, Int.toNat_natCast]
      exact HR.out
    · rw [tt_neg hc] at HIs
      have HE : Hid (skE (U' : Int) (d : Int) n f m g N Y = 71) := skE_copy HVs.out (by rw [Int.toNat_natCast, Int.toNat_natCast]; exact hc)
      have HNo : Hid (¬ SkOk (U' : Int) (d : Int) n f m g N Y) := fun h => hc (by have := h.2; rw [Int.toNat_natCast, Int.toNat_natCast] at this; exact this)
      clear hc
      go_wp2_with fail
      refine HIs.out.mono ?_
      rintro e w2 ⟨rfl, hB2⟩
      have HB2 := Lib.hid (below_then HB1.out hB2)
      clear hB2
      go_wp2
      go_ret2
      exact ⟨_, by rw [HE.out]; rfl, by rw [nmO_no HNo.out]; exact RdV.nil _ _, HB2.out⟩
  · have HG := Lib.hid (stepsOf_bad U Bk n m K f g v u _ (hv.below hal) (hu.below hal) hf hg hs)
    have HE : Hid (skE U Bk n f m g N Y = 70) := skE_bad hs
    have HNo : Hid (¬ SkOk U Bk n f m g N Y) := fun h => hs h.1
    obtain ⟨A, n', c, rfl⟩ : ∃ A n c, v = .slice A n c := by obtain ⟨A, c, h, _⟩ := hv; exact ⟨_, _, _, h⟩
    obtain ⟨A2, m', c2, rfl⟩ : ∃ A n c, u = .slice A n c := by obtain ⟨A, c, h, _⟩ := hu; exact ⟨_, _, _, h⟩
    clear hv hu hf hg hal hs hy hy6
    go_enter Tryz.func70, Tryz.ntmps70
    go_wp2_with (refine wp_load_whole rfl 29 _ rfl w.heap.size rfl 29 20 _ _ _ HS.out rfl (st_cs _ _ _ _ _) Tryz.underlying29 rfl st_size ?_)
    refine HG.out.mono ?_
    rintro e w1 ⟨rfl, hB1⟩
    have HB1 := Lib.hid (below_then HA.out hB1)
    clear hB1
    go_wp2
    go_ret2
    exact ⟨_, by rw [HE.out]; rfl, by rw [nmO_no HNo.out]; exact RdV.nil _ _, HB1.out⟩

set_option maxRecDepth 100000 in
set_option maxHeartbeats 1000000 in
theorem traceE_any (U Bk : Int) (n m : Nat) (K : Nat → Nat) (f g : Nat → Nat) (N : Nat) (Y : Nat → Nat) (v u ys : Value) (w : World) (hv : Rd w .u32 v n f) (hu : Rd w .u32 u m g) (hf : ∀ j, j < n → f j < B) (hg : ∀ j, j < m → g j < B) (hK : Kb K) (hy : Rd w .u8 ys N Y) (hy6 : ∀ j, j < N → Y j < 256) :
    Calls Tryz.prog 26 #[stV U Bk K v u, ys] w fun e w' => ∃ sl, e = .returned (.tuple #[sl, .int .i64 (skE U Bk n f m g N Y)]) ∧ RdV w' sl (nmO K U Bk n f m g N Y).length (fun j => .int .i64 ((nmO K U Bk n f m g N Y).getD j 0 : Nat)) ∧ Below w.heap.size w w' := by
  have hal := (Below.refl _ w).alloc (Nat.le_refl _) (.cells #[.int .i64 U, .int .i64 Bk, .int .u8 (K 0), .int .u8 (K 1), .int .u8 (K 2), .int .u8 (K 3), .int .u8 (K 4), .int .u8 (K 5), .int .u8 (K 6), .int .u8 (K 7), .int .u8 (K 8), .int .u8 (K 9), .int .u8 (K 10), .int .u8 (K 11), .int .u8 (K 12), .int .u8 (K 13), .int .u8 (K 14), .int .u8 (K 15), v, u] 29)
  have HA := Lib.hid hal
  have HS := Lib.hid (st_row w U Bk K v u 29)
  have HG := Lib.hid (asked_trace U Bk n m K f g N Y v u ys _ (hv.below hal) (hu.below hal) hf hg hK (hy.below hal) hy6)
  obtain ⟨Ay, Ny, cy, rfl⟩ : ∃ A n c, ys = .slice A n c := by obtain ⟨A, c, h, _⟩ := hy; exact ⟨_, _, _, h⟩
  obtain ⟨A, n', c, rfl⟩ : ∃ A n c, v = .slice A n c := by obtain ⟨A, c, h, _⟩ := hv; exact ⟨_, _, _, h⟩
  obtain ⟨A2, m', c2, rfl⟩ : ∃ A n c, u = .slice A n c := by obtain ⟨A, c, h, _⟩ := hu; exact ⟨_, _, _, h⟩
  clear hv hu hf hg hal hy hy6
  go_enter Tryz.func26, Tryz.ntmps26
  go_wp2_with (refine wp_load_whole rfl 29 _ rfl w.heap.size rfl 29 20 _ _ _ HS.out rfl (st_cs _ _ _ _ _) Tryz.underlying29 rfl st_size ?_)
  refine HG.out.mono ?_
  rintro e w1 ⟨sl, rfl, hr, hB1⟩
  have HR := Lib.hid hr
  have HB1 := Lib.hid (below_then HA.out hB1)
  obtain ⟨As, ns, cs, rfl⟩ : ∃ A n c, sl = .slice A n c := by obtain ⟨A, c, h, _⟩ := hr; exact ⟨_, _, _, h⟩
  clear hr hB1
  go_wp2
  go_ret2
  exact ⟨_, rfl, HR.out, HB1.out⟩
end Go.Proofs.YtmbokpfgnicboaaGreat
