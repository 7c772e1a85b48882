import Derived.Test.YtmbokpfgnicboaaGreatTa
import Derived.Test.YtmbokpfgnicboaaGreatRp
set_option linter.unusedVariables false
set_option linter.unusedSimpArgs false
/- The walks of codes of steps: StepWord, Weights, TraceSteps. -/
namespace Go.Proofs.YtmbokpfgnicboaaGreat
open Go.RowKit Go.Hd Go.Sort _root_.Hd
set_option exponentiation.threshold 2000

/-- What Weights and TraceSteps answer: the error, the weights, the users named. -/
noncomputable def skE (U Bk : Int) (n : Nat) (f : Nat → Nat) (m : Nat) (g : Nat → Nat) (N : Nat) (Y : Nat → Nat) : Int := if tt (VSt U Bk n f m g) then (if tt (IsC N Y ((U.toNat - 1) * Bk.toNat)) then 0 else 71) else 70
/-- All is well. -/
def SkOk (U Bk : Int) (n : Nat) (f : Nat → Nat) (m : Nat) (g : Nat → Nat) (N : Nat) (Y : Nat → Nat) : Prop := VSt U Bk n f m g ∧ IsC N Y ((U.toNat - 1) * Bk.toNat)
noncomputable def wgL (U Bk : Int) (n : Nat) (f : Nat → Nat) (m : Nat) (g : Nat → Nat) (N : Nat) (Y : Nat → Nat) : Nat := if tt (SkOk U Bk n f m g N Y) then U.toNat - 1 else 0
def wgF (K : Nat → Nat) (U Bk : Int) (Y : Nat → Nat) : Nat → Nat := wts (arN K ((U.toNat - 1) * Bk.toNat)) Y Bk.toNat ((U.toNat - 1) * Bk.toNat)
noncomputable def nmO (K : Nat → Nat) (U Bk : Int) (n : Nat) (f : Nat → Nat) (m : Nat) (g : Nat → Nat) (N : Nat) (Y : Nat → Nat) : List Nat := if tt (SkOk U Bk n f m g N Y) then nmL U.toNat Bk.toNat (val f n) (val g m) (wgF K U Bk Y) U.toNat else []
theorem skE_ok {U Bk : Int} {n m N : Nat} {f g Y : Nat → Nat} (h : SkOk U Bk n f m g N Y) : skE U Bk n f m g N Y = 0 := by unfold skE; rw [tt_pos h.1, if_pos rfl, tt_pos h.2, if_pos rfl]
theorem skE_copy {U Bk : Int} {n m N : Nat} {f g Y : Nat → Nat} (h : VSt U Bk n f m g) (hc : ¬ IsC N Y ((U.toNat - 1) * Bk.toNat)) : skE U Bk n f m g N Y = 71 := by unfold skE; rw [tt_pos h, if_pos rfl, tt_neg hc]; rfl
theorem skE_bad {U Bk : Int} {n m N : Nat} {f g Y : Nat → Nat} (h : ¬ VSt U Bk n f m g) : skE U Bk n f m g N Y = 70 := by unfold skE; rw [tt_neg h]; rfl
theorem wgL_ok {U Bk : Int} {n m N : Nat} {f g Y : Nat → Nat} (h : SkOk U Bk n f m g N Y) : wgL U Bk n f m g N Y = U.toNat - 1 := by unfold wgL; rw [tt_pos h]; rfl
theorem wgL_no {U Bk : Int} {n m N : Nat} {f g Y : Nat → Nat} (h : ¬ SkOk U Bk n f m g N Y) : wgL U Bk n f m g N Y = 0 := by unfold wgL; rw [tt_neg h]; rfl
theorem nmO_ok {K : Nat → Nat} {U Bk : Int} {n m N : Nat} {f g Y : Nat → Nat} (h : SkOk U Bk n f m g N Y) : nmO K U Bk n f m g N Y = nmL U.toNat Bk.toNat (val f n) (val g m) (wgF K U Bk Y) U.toNat := by unfold nmO; rw [tt_pos h]; rfl
theorem nmO_no {K : Nat → Nat} {U Bk : Int} {n m N : Nat} {f g Y : Nat → Nat} (h : ¬ SkOk U Bk n f m g N Y) : nmO K U Bk n f m g N Y = [] := by unfold nmO; rw [tt_neg h]; rfl
theorem RdV.nil (w : World) (F : Nat → Value) : RdV w (.slice none 0 0) 0 F := ⟨none, 0, rfl, Nat.le_refl _, by unfold maxLen; omega, fun h => absurd h (by omega)⟩

set_option maxRecDepth 100000 in
set_option maxHeartbeats 1000000 in
theorem stepsOf_bad (U Bk : Int) (n m : Nat) (K : Nat → Nat) (f g : Nat → Nat) (v u : Value) (w : World) (hv : Rd w .u32 v n f) (hu : Rd w .u32 u m g) (hf : ∀ j, j < n → f j < B) (hg : ∀ j, j < m → g j < B) (hs : ¬ VSt U Bk n f m g) :
    Calls Tryz.prog 66 #[stV U Bk K v u] w fun e w' => e = .returned (.tuple #[.pointer none, .int .i64 70]) ∧ Below w.heap.size w w' := by
  have hal := (Below.refl _ w).alloc (Nat.le_refl _) (.cells #[.int .i64 U, .int .i64 Bk, .int .u8 (K 0), .int .u8 (K 1), .int .u8 (K 2), .int .u8 (K 3), .int .u8 (K 4), .int .u8 (K 5), .int .u8 (K 6), .int .u8 (K 7), .int .u8 (K 8), .int .u8 (K 9), .int .u8 (K 10), .int .u8 (K 11), .int .u8 (K 12), .int .u8 (K 13), .int .u8 (K 14), .int .u8 (K 15), v, u] 29)
  have HCk := Lib.hid (checkSteps_any U Bk K n m f g v u _ (hv.below hal) (hu.below hal) hf hg)
  rw [spE_no hs] at HCk
  have HA := Lib.hid hal
  have HS := Lib.hid (st_row w U Bk K v u 29)
  obtain ⟨A, n', c, rfl⟩ : ∃ A n c, v = .slice A n c := by obtain ⟨A, c, h, _⟩ := hv; exact ⟨_, _, _, h⟩
  obtain ⟨A2, m', c2, rfl⟩ : ∃ A n c, u = .slice A n c := by obtain ⟨A, c, h, _⟩ := hu; exact ⟨_, _, _, h⟩
  clear hv hu hf hg hal hs
  go_enter Tryz.func66, Tryz.ntmps66
  go_wp2_with (refine wp_load_whole rfl 29 _ rfl w.heap.size rfl 29 20 _ _ _ HS.out rfl (st_cs _ _ _ _ _) Tryz.underlying29 rfl st_size ?_)
  refine HCk.out.mono ?_
  rintro e w1 ⟨rfl, hB1⟩
  have HB1 := Lib.hid (below_then HA.out hB1)
  clear hB1
  go_wp2
  go_ret2
  exact ⟨rfl, HB1.out⟩

theorem method_weights (p : Value) (w : World) : Calls Tryz.prog 71 #[p] w fun e w' => e = .returned (.func (.func 72) #[p] #[]) ∧ w = w' := by
  go_enter Tryz.func71, Tryz.ntmps71
  go_wp2
  go_ret
  exact ⟨rfl, rfl⟩
set_option maxRecDepth 100000 in
set_option maxHeartbeats 1000000 in
theorem asked_weights (U Bk : Int) (n m : Nat) (K : Nat → Nat) (f g : Nat → Nat) (N : Nat) (Y : Nat → Nat) (v u ys : Value) (w : World) (hv : Rd w .u32 v n f) (hu : Rd w .u32 u m g) (hf : ∀ j, j < n → f j < B) (hg : ∀ j, j < m → g j < B) (hK : Kb K) (hy : Rd w .u8 ys N Y) (hy6 : ∀ j, j < N → Y j < 256) :
    Calls Tryz.prog 70 #[stV U Bk K v u, ys, .func (.func 71) #[] #[]] w fun e w' => ∃ sl, e = .returned (.tuple #[sl, .int .i64 (skE U Bk n f m g N Y)]) ∧ RdV w' sl (wgL U Bk n f m g N Y) (fun j => .int .i64 (wgF K U Bk Y j : Nat)) ∧ Below w.heap.size w w' := by
  have hal := (Below.refl _ w).alloc (Nat.le_refl _) (.cells #[.int .i64 U, .int .i64 Bk, .int .u8 (K 0), .int .u8 (K 1), .int .u8 (K 2), .int .u8 (K 3), .int .u8 (K 4), .int .u8 (K 5), .int .u8 (K 6), .int .u8 (K 7), .int .u8 (K 8), .int .u8 (K 9), .int .u8 (K 10), .int .u8 (K 11), .int .u8 (K 12), .int .u8 (K 13), .int .u8 (K 14), .int .u8 (K 15), v, u] 29)
  have HA := Lib.hid hal
  have HS := Lib.hid (st_row w U Bk K v u 29)
  have HY := Lib.hid hy
  have HY6 := Lib.hid hy6
  obtain ⟨Ay, Ny, cy, rfl⟩ : ∃ A n c, ys = .slice A n c := by obtain ⟨A, c, h, _⟩ := hy; exact ⟨_, _, _, h⟩
  by_cases hs : VSt U Bk n f m g
  · obtain ⟨d, rfl, hd1, hd, cf, cg, lf, lg, hlt⟩ := vst_facts hs hf hg
    obtain ⟨U', rfl⟩ := Int.eq_ofNat_of_zero_le (show 0 ≤ U by have := hs.1; omega)
    have hU2 : 2 ≤ U' := by have := hs.1; omega
    have hU16 : U' ≤ 16 := by have := hs.2.1; omega
    have HG := Lib.hid (stepsOf_good U' d n m K f g v u _ (hv.below hal) (hu.below hal) hf hg hK hs)
    have HNv := Lib.hid (show Nt w v (val f n) from ⟨n, f, hv, cf, rfl⟩)
    have HNu := Lib.hid (show Nt w u (val g m) from ⟨m, g, hu, cg, rfl⟩)
    have HLf := Lib.hid lf
    have HLg := Lib.hid lg
    have HVs := Lib.hid hs
    obtain ⟨A, n', c, rfl⟩ : ∃ A n c, v = .slice A n c := by obtain ⟨A, c, h, _⟩ := hv; exact ⟨_, _, _, h⟩
    obtain ⟨A2, m', c2, rfl⟩ : ∃ A n c, u = .slice A n c := by obtain ⟨A, c, h, _⟩ := hu; exact ⟨_, _, _, h⟩
    clear hv hu hf hg hal hs cf cg lf lg hlt hy hy6
    go_enter Tryz.func70, Tryz.ntmps70
    go_wp2_with (refine wp_load_whole rfl 29 _ rfl w.heap.size rfl 29 20 _ _ _ HS.out rfl (st_cs _ _ _ _ _) Tryz.underlying29 rfl st_size ?_)
    refine HG.out.mono ?_
    rintro e w1 ⟨bs, ba, rfl, hrs, hra, hbs, hba, hB1⟩
    have HSs : Hid (SsAt w1 bs ba U' d K (.slice A n' c) (.slice A2 m' c2)) := ⟨hrs, hra⟩
    have HB1 := Lib.hid (below_then HA.out hB1)
    obtain ⟨_, _, p20⟩ := HSs.out.cells
    have HIs := Lib.hid (isCopy_any N Y (.slice Ay Ny cy) ((U' - 1) * d) w1 (HY.out.below HB1.out) HY6.out)
    clear hrs hra hbs hba hB1
    by_cases hc : IsC N Y ((U' - 1) * d)
    · rw [tt_pos hc] at HIs
      have HOk : Hid (SkOk (U' : Int) (d : Int) n f m g N Y) := ⟨HVs.out, by rw [Int.toNat_natCast, Int.toNat_natCast]; exact hc⟩
      have HNN : Hid (N = (U' - 1) * d) := hc.1
      have HC := Lib.hid hc
      clear hc
      go_wp2_with fail
      refine HIs.out.mono ?_
      rintro e w2 ⟨rfl, hB2⟩
      have HB2 := Lib.hid (below_then HB1.out hB2)
      have HS2 := Lib.hid (HSs.out.below hB2)
      have hY2 : Rd w2 .u8 (.slice Ay Ny cy) ((U' - 1) * d) Y := by have := HY.out.below HB2.out; rw [HNN.out] at this; exact this
      have hY26 : ∀ j, j < (U' - 1) * d → Y j < 256 := by have := HY6.out; rw [HNN.out] at this; exact this
      have HM := Lib.hid (weights_any bs ba U' d K (.slice A n' c) (.slice A2 m' c2) Y (.slice Ay Ny cy) w2 HS2.out hY2 hY26 hU2 hU16 hd1 hd)
      clear hB2 hY2 hY26 p20
      go_wp2_with fail
      refine (method_weights _ _).mono ?_
      rintro e w2 ⟨rfl, rfl⟩
      go_wp2_with fail
      refine HM.out.mono ?_
      rintro e w3 ⟨b3, rfl, hr, _, hB3⟩
      have HR := Lib.hid hr
      have HB3 := Lib.hid (below_then HB2.out hB3)
      clear hr hB3
      go_wp2
      go_ret2
      refine ⟨_, by rw [skE_ok HOk.out]; rfl, ?_, HB3.out⟩
      rw [wgL_ok HOk.out]
      unfold wgF
      rw [Int.toNat_natCast, Int.toNat_natCast]
      exact rdV_of_row HR.out (by omega)
    · rw [tt_neg hc] at HIs
      have HE : Hid (skE (U' : Int) (d : Int) n f m g N Y = 71) := skE_copy HVs.out (by rw [Int.toNat_natCast, Int.toNat_natCast]; exact hc)
      have HNo : Hid (¬ SkOk (U' : Int) (d : Int) n f m g N Y) := fun h => hc (by have := h.2; rw [Int.toNat_natCast, Int.toNat_natCast] at this; exact this)
      clear hc
      go_wp2_with fail
      refine HIs.out.mono ?_
      rintro e w2 ⟨rfl, hB2⟩
      have HB2 := Lib.hid (below_then HB1.out hB2)
      clear hB2
      go_wp2
      go_ret2
      exact ⟨_, by rw [HE.out]; rfl, by rw [wgL_no HNo.out]; exact RdV.nil _ _, HB2.out⟩
  · have HG := Lib.hid (stepsOf_bad U Bk n m K f g v u _ (hv.below hal) (hu.below hal) hf hg hs)
    have HE : Hid (skE U Bk n f m g N Y = 70) := skE_bad hs
    have HNo : Hid (¬ SkOk U Bk n f m g N Y) := fun h => hs h.1
    obtain ⟨A, n', c, rfl⟩ : ∃ A n c, v = .slice A n c := by obtain ⟨A, c, h, _⟩ := hv; exact ⟨_, _, _, h⟩
    obtain ⟨A2, m', c2, rfl⟩ : ∃ A n c, u = .slice A n c := by obtain ⟨A, c, h, _⟩ := hu; exact ⟨_, _, _, h⟩
    clear hv hu hf hg hal hs hy hy6
    go_enter Tryz.func70, Tryz.ntmps70
    go_wp2_with (refine wp_load_whole rfl 29 _ rfl w.heap.size rfl 29 20 _ _ _ HS.out rfl (st_cs _ _ _ _ _) Tryz.underlying29 rfl st_size ?_)
    refine HG.out.mono ?_
    rintro e w1 ⟨rfl, hB1⟩
    have HB1 := Lib.hid (below_then HA.out hB1)
    clear hB1
    go_wp2
    go_ret2
    exact ⟨_, by rw [HE.out]; rfl, by rw [wgL_no HNo.out]; exact RdV.nil _ _, HB1.out⟩

set_option maxRecDepth 100000 in
set_option maxHeartbeats 1000000 in
theorem weightsE_any (U Bk : Int) (n m : Nat) (K : Nat → Nat) (f g : Nat → Nat) (N : Nat) (Y : Nat → Nat) (v u ys : Value) (w : World) (hv : Rd w .u32 v n f) (hu : Rd w .u32 u m g) (hf : ∀ j, j < n → f j < B) (hg : ∀ j, j < m → g j < B) (hK : Kb K) (hy : Rd w .u8 ys N Y) (hy6 : ∀ j, j < N → Y j < 256) :
    Calls Tryz.prog 23 #[stV U Bk K v u, ys] w fun e w' => ∃ sl, e = .returned (.tuple #[sl, .int .i64 (skE U Bk n f m g N Y)]) ∧ RdV w' sl (wgL U Bk n f m g N Y) (fun j => .int .i64 (wgF K U Bk Y j : Nat)) ∧ Below w.heap.size w w' := by
  have hal := (Below.refl _ w).alloc (Nat.le_refl _) (.cells #[.int .i64 U, .int .i64 Bk, .int .u8 (K 0), .int .u8 (K 1), .int .u8 (K 2), .int .u8 (K 3), .int .u8 (K 4), .int .u8 (K 5), .int .u8 (K 6), .int .u8 (K 7), .int .u8 (K 8), .int .u8 (K 9), .int .u8 (K 10), .int .u8 (K 11), .int .u8 (K 12), .int .u8 (K 13), .int .u8 (K 14), .int .u8 (K 15), v, u] 29)
  have HA := Lib.hid hal
  have HS := Lib.hid (st_row w U Bk K v u 29)
  have HG := Lib.hid (asked_weights U Bk n m K f g N Y v u ys _ (hv.below hal) (hu.below hal) hf hg hK (hy.below hal) hy6)
  obtain ⟨Ay, Ny, cy, rfl⟩ : ∃ A n c, ys = .slice A n c := by obtain ⟨A, c, h, _⟩ := hy; exact ⟨_, _, _, h⟩
  obtain ⟨A, n', c, rfl⟩ : ∃ A n c, v = .slice A n c := by obtain ⟨A, c, h, _⟩ := hv; exact ⟨_, _, _, h⟩
  obtain ⟨A2, m', c2, rfl⟩ : ∃ A n c, u = .slice A n c := by obtain ⟨A, c, h, _⟩ := hu; exact ⟨_, _, _, h⟩
  clear hv hu hf hg hal hy hy6
  go_enter Tryz.func23, Tryz.ntmps23
  go_wp2_with (refine wp_load_whole rfl 29 _ rfl w.heap.size rfl 29 20 _ _ _ HS.out rfl (st_cs _ _ _ _ _) Tryz.underlying29 rfl st_size ?_)
  refine HG.out.mono ?_
  rintro e w1 ⟨sl, rfl, hr, hB1⟩
  have HR := Lib.hid hr
  have HB1 := Lib.hid (below_then HA.out hB1)
  obtain ⟨As, ns, cs, rfl⟩ : ∃ A n c, sl = .slice A n c := by obtain ⟨A, c, h, _⟩ := hr; exact ⟨_, _, _, h⟩
  clear hr hB1
  go_wp2
  go_ret2
  exact ⟨_, rfl, HR.out, HB1.out⟩

theorem method_trace (p : Value) (w : World) : Calls Tryz.prog 74 #[p] w fun e w' => e = .returned (.func (.func 75) #[p] #[]) ∧ w = w' := by
  go_enter Tryz.func74, Tryz.ntmps74
  go_wp2
  go_ret
  exact ⟨rfl, rfl⟩
set_option maxRecDepth 100000 in
set_option maxHeartbeats 1000000 in
theorem asked_trace (U Bk : Int) (n m : Nat) (K : Nat → Nat) (f g : Nat → Nat) (N : Nat) (Y : Nat → Nat) (v u ys : Value) (w : World) (hv : Rd w .u32 v n f) (hu : Rd w .u32 u m g) (hf : ∀ j, j < n → f j < B) (hg : ∀ j, j < m → g j < B) (hK : Kb K) (hy : Rd w .u8 ys N Y) (hy6 : ∀ j, j < N → Y j < 256) :
    Calls Tryz.prog 70 #[stV U Bk K v u, ys, .func (.func 74) #[] #[]] w fun e w' => ∃ sl, e = .returned (.tuple #[sl, .int .i64 (skE U Bk n f m g N Y)]) ∧ RdV w' sl (nmO K U Bk n f m g N Y).length (fun j => .int .i64 ((nmO K U Bk n f m g N Y).getD j 0 : Nat)) ∧ Below w.heap.size w w' := by
  have hal := (Below.refl _ w).alloc (Nat.le_refl _) (.cells #[.int .i64 U, .int .i64 Bk, .int .u8 (K 0), .int .u8 (K 1), .int .u8 (K 2), .int .u8 (K 3), .int .u8 (K 4), .int .u8 (K 5), .int .u8 (K 6), .int .u8 (K 7), .int .u8 (K 8), .int .u8 (K 9), .int .u8 (K 10), .int .u8 (K 11), .int .u8 (K 12), .int .u8 (K 13), .int .u8 (K 14), .int .u8 (K 15), v, u] 29)
  have HA := Lib.hid hal
  have HS := Lib.hid (st_row w U Bk K v u 29)
  have HY := Lib.hid hy
  have HY6 := Lib.hid hy6
  obtain ⟨Ay, Ny, cy, rfl⟩ : ∃ A n c, ys = .slice A n c := by obtain ⟨A, c, h, _⟩ := hy; exact ⟨_, _, _, h⟩
  by_cases hs : VSt U Bk n f m g
  · obtain ⟨d, rfl, hd1, hd, cf, cg, lf, lg, hlt⟩ := vst_facts hs hf hg
    obtain ⟨U', rfl⟩ := Int.eq_ofNat_of_zero_le (show 0 ≤ U by have := hs.1; omega)
    have hU2 : 2 ≤ U' := by have := hs.1; omega
    have hU16 : U' ≤ 16 := by have := hs.2.1; omega
    have HG := Lib.hid (stepsOf_good U' d n m K f g v u _ (hv.below hal) (hu.below hal) hf hg hK hs)
    have HNv := Lib.hid (show Nt w v (val f n) from ⟨n, f, hv, cf, rfl⟩)
    have HNu := Lib.hid (show Nt w u (val g m) from ⟨m, g, hu, cg, rfl⟩)
    have HLf := Lib.hid lf
    have HLg := Lib.hid lg
    have HVs := Lib.hid hs
    obtain ⟨A, n', c, rfl⟩ : ∃ A n c, v = .slice A n c := by obtain ⟨A, c, h, _⟩ := hv; exact ⟨_, _, _, h⟩
    obtain ⟨A2, m', c2, rfl⟩ : ∃ A n c, u = .slice A n c := by obtain ⟨A, c, h, _⟩ := hu; exact ⟨_, _, _, h⟩
    clear hv hu hf hg hal hs cf cg lf lg hlt hy hy6
    go_enter Tryz.func70, Tryz.ntmps70
    go_wp2_with (refine wp_load_whole rfl 29 _ rfl w.heap.size rfl 29 20 _ _ _ HS.out rfl (st_cs _ _ _ _ _) Tryz.underlying29 rfl st_size ?_)
    refine HG.out.mono ?_
    rintro e w1 ⟨bs, ba, rfl, hrs, hra, hbs, hba, hB1⟩
    have HSs : Hid (SsAt w1 bs ba U' d K (.slice A n' c) (.slice A2 m' c2)) := ⟨hrs, hra⟩
    have HB1 := Lib.hid (below_then HA.out hB1)
    obtain ⟨_, _, p20⟩ := HSs.out.cells
    have HIs := Lib.hid (isCopy_any N Y (.slice Ay Ny cy) ((U' - 1) * d) w1 (HY.out.below HB1.out) HY6.out)
    clear hrs hra hbs hba hB1
    by_cases hc : IsC N Y ((U' - 1) * d)
    · rw [tt_pos hc] at HIs
      have HOk : Hid (SkOk (U' : Int) (d : Int) n f m g N Y) := ⟨HVs.out, by rw [Int.toNat_natCast, Int.toNat_natCast]; exact hc⟩
      have HNN : Hid (N = (U' - 1) * d) := hc.1
      have HC := Lib.hid hc
      clear hc
      go_wp2_with fail
      refine HIs.out.mono ?_
      rintro e w2 ⟨rfl, hB2⟩
      have HB2 := Lib.hid (below_then HB1.out hB2)
      have HS2 := Lib.hid (HSs.out.below hB2)
      have hY2 : Rd w2 .u8 (.slice Ay Ny cy) ((U' - 1) * d) Y := by have := HY.out.below HB2.out; rw [HNN.out] at this; exact this
      have hY26 : ∀ j, j < (U' - 1) * d → Y j < 256 := by have := HY6.out; rw [HNN.out] at this; exact this
      have HM := Lib.hid (names_any bs ba U' d (val f n) (val g m) K (.slice A n' c) (.slice A2 m' c2) Y (.slice Ay Ny cy) w2 HS2.out (HNv.out.below HB2.out) (HNu.out.below HB2.out) HLf.out HLg.out hY2 hY26 hU2 hU16 hd1 hd)
      clear hB2 hY2 hY26 p20
      go_wp2_with fail
      refine (method_trace _ _).mono ?_
      rintro e w2 ⟨rfl, rfl⟩
      go_wp2_with fail
      refine HM.out.mono ?_
      rintro e w3 ⟨sl, rfl, hr, hB3⟩
      obtain ⟨As, ns, cs, rfl⟩ : ∃ A n c, sl = .slice A n c := by obtain ⟨A, c, h, _⟩ := hr; exact ⟨_, _, _, h⟩
      have HR := Lib.hid hr
      have HB3 := Lib.hid (below_then HB2.out hB3)
      clear hr hB3
      go_wp2
      go_ret2
      refine ⟨_, by rw [skE_ok HOk.out]; rfl, ?_, HB3.out⟩
      rw [nmO_ok HOk.out]
      unfold wgF
      rw [Int.toNat_natCast, Int.toNat_natCast]
      exact HR.out
    · rw [tt_neg hc] at HIs
      have HE : Hid (skE (U' : Int) (d : Int) n f m g N Y = 71) := skE_copy HVs.out (by rw [Int.toNat_natCast, Int.toNat_natCast]; exact hc)
      have HNo : Hid (¬ SkOk (U' : Int) (d : Int) n f m g N Y) := fun h => hc (by have := h.2; rw [Int.toNat_natCast, Int.toNat_natCast] at this; exact this)
      clear hc
      go_wp2_with fail
      refine HIs.out.mono ?_
      rintro e w2 ⟨rfl, hB2⟩
      have HB2 := Lib.hid (below_then HB1.out hB2)
      clear hB2
      go_wp2
      go_ret2
      exact ⟨_, by rw [HE.out]; rfl, by rw [nmO_no HNo.out]; exact RdV.nil _ _, HB2.out⟩
  · have HG := Lib.hid (stepsOf_bad U Bk n m K f g v u _ (hv.below hal) (hu.below hal) hf hg hs)
    have HE : Hid (skE U Bk n f m g N Y = 70) := skE_bad hs
    have HNo : Hid (¬ SkOk U Bk n f m g N Y) := fun h => hs h.1
    obtain ⟨A, n', c, rfl⟩ : ∃ A n c, v = .slice A n c := by obtain ⟨A, c, h, _⟩ := hv; exact ⟨_, _, _, h⟩
    obtain ⟨A2, m', c2, rfl⟩ : ∃ A n c, u = .slice A n c := by obtain ⟨A, c, h, _⟩ := hu; exact ⟨_, _, _, h⟩
    clear hv hu hf hg hal hs hy hy6
    go_enter Tryz.func70, Tryz.ntmps70
    go_wp2_with (refine wp_load_whole rfl 29 _ rfl w.heap.size rfl 29 20 _ _ _ HS.out rfl (st_cs _ _ _ _ _) Tryz.underlying29 rfl st_size ?_)
    refine HG.out.mono ?_
    rintro e w1 ⟨rfl, hB1⟩
    have HB1 := Lib.hid (below_then HA.out hB1)
    clear hB1
    go_wp2
    go_ret2
    exact ⟨_, by rw [HE.out]; rfl, by rw [nmO_no HNo.out]; exact RdV.nil _ _, HB1.out⟩

set_option maxRecDepth 100000 in
set_option maxHeartbeats 1000000 in
theorem traceE_any (U Bk : Int) (n m : Nat) (K : Nat → Nat) (f g : Nat → Nat) (N : Nat) (Y : Nat → Nat) (v u ys : Value) (w : World) (hv : Rd w .u32 v n f) (hu : Rd w .u32 u m g) (hf : ∀ j, j < n → f j < B) (hg : ∀ j, j < m → g j < B) (hK : Kb K) (hy : Rd w .u8 ys N Y) (hy6 : ∀ j, j < N → Y j < 256) :
    Calls Tryz.prog 26 #[stV U Bk K v u, ys] w fun e w' => ∃ sl, e = .returned (.tuple #[sl, .int .i64 (skE U Bk n f m g N Y)]) ∧ RdV w' sl (nmO K U Bk n f m g N Y).length (fun j => .int .i64 ((nmO K U Bk n f m g N Y).getD j 0 : Nat)) ∧ Below w.heap.size w w' := by
  have hal := (Below.refl _ w).alloc (Nat.le_refl _) (.cells #[.int .i64 U, .int .i64 Bk, .int .u8 (K 0), .int .u8 (K 1), .int .u8 (K 2), .int .u8 (K 3), .int .u8 (K 4), .int .u8 (K 5), .int .u8 (K 6), .int .u8 (K 7), .int .u8 (K 8), .int .u8 (K 9), .int .u8 (K 10), .int .u8 (K 11), .int .u8 (K 12), .int .u8 (K 13), .int .u8 (K 14), .int .u8 (K 15), v, u] 29)
  have HA := Lib.hid hal
  have HS := Lib.hid (st_row w U Bk K v u 29)
  have HG := Lib.hid (asked_trace U Bk n m K f g N Y v u ys _ (hv.below hal) (hu.below hal) hf hg hK (hy.below hal) hy6)
  obtain ⟨Ay, Ny, cy, rfl⟩ : ∃ A n c, ys = .slice A n c := by obtain ⟨A, c, h, _⟩ := hy; exact ⟨_, _, _, h⟩
  obtain ⟨A, n', c, rfl⟩ : ∃ A n c, v = .slice A n c := by obtain ⟨A, c, h, _⟩ := hv; exact ⟨_, _, _, h⟩
  obtain ⟨A2, m', c2, rfl⟩ : ∃ A n c, u = .slice A n c := by obtain ⟨A, c, h, _⟩ := hu; exact ⟨_, _, _, h⟩
  clear hv hu hf hg hal hy hy6
  go_enter Tryz.func26, Tryz.ntmps26
  go_wp2_with (refine wp_load_whole rfl 29 _ rfl w.heap.size rfl 29 20 _ _ _ HS.out rfl (st_cs _ _ _ _ _) Tryz.underlying29 rfl st_size ?_)
  refine HG.out.mono ?_
  rintro e w1 ⟨sl, rfl, hr, hB1⟩
  have HR := Lib.hid hr
  have HB1 := Lib.hid (below_then HA.out hB1)
  obtain ⟨As, ns, cs, rfl⟩ : ∃ A n c, sl = .slice A n c := by obtain ⟨A, c, h, _⟩ := hr; exact ⟨_, _, _, h⟩
  clear hr hB1
  go_wp2
  go_ret2
  exact ⟨_, rfl, HR.out, HB1.out⟩
end Go.Proofs.YtmbokpfgnicboaaGreat

/- The walks of codes of steps: StepWord of the program and of the reference. -/
namespace Go.Proofs.YtmbokpfgnicboaaGreat
open Go.RowKit Go.Hd Go.Sort _root_.Hd
set_option exponentiation.threshold 2000

/-- What StepWord answers. -/
noncomputable def soE (U Bk : Int) (n : Nat) (f : Nat → Nat) (m : Nat) (g : Nat → Nat) (x : Int) : Int := if tt (VSt U Bk n f m g) then (if x < 0 ∨ U ≤ x then 2 else 0) else 70
noncomputable def soL (U Bk : Int) (n : Nat) (f : Nat → Nat) (m : Nat) (g : Nat → Nat) (x : Int) : Nat := if tt (VSt U Bk n f m g) then (if x < 0 ∨ U ≤ x then 0 else (U.toNat - 1) * Bk.toNat) else 0
def soF (K : Nat → Nat) (U Bk : Int) (x : Int) : Nat → Nat := mrk (arN K ((U.toNat - 1) * Bk.toNat)) (x.toNat * Bk.toNat) ((U.toNat - 1) * Bk.toNat)

set_option maxRecDepth 100000 in
theorem rchecksteps_any (U Bk : Int) (K : Nat → Nat) (n m : Nat) (f g : Nat → Nat) (v u : Value) (w : World) (hv : Rd w .u32 v n f) (hu : Rd w .u32 u m g) (hf : ∀ j, j < n → f j < B) (hg : ∀ j, j < m → g j < B) :
    Calls Tryz.prog 22 #[stV U Bk K v u] w fun e w' => e = .returned (.int .i64 (spE U Bk n f m g)) ∧ Below w.heap.size w w' := by
  have hal := (Below.refl _ w).alloc (Nat.le_refl _) (.cells #[.int .i64 U, .int .i64 Bk, .int .u8 (K 0), .int .u8 (K 1), .int .u8 (K 2), .int .u8 (K 3), .int .u8 (K 4), .int .u8 (K 5), .int .u8 (K 6), .int .u8 (K 7), .int .u8 (K 8), .int .u8 (K 9), .int .u8 (K 10), .int .u8 (K 11), .int .u8 (K 12), .int .u8 (K 13), .int .u8 (K 14), .int .u8 (K 15), v, u] 29)
  have HV := Lib.hid (rvalidsteps_any U Bk K n m f g v u _ (hv.below hal) (hu.below hal) hf hg)
  have HA := Lib.hid hal
  have HS := Lib.hid (st_row w U Bk K v u 29)
  obtain ⟨A, n', c, rfl⟩ : ∃ A n c, v = .slice A n c := by obtain ⟨A, c, h, _⟩ := hv; exact ⟨_, _, _, h⟩
  obtain ⟨A2, m', c2, rfl⟩ : ∃ A n c, u = .slice A n c := by obtain ⟨A, c, h, _⟩ := hu; exact ⟨_, _, _, h⟩
  clear hv hu hf hg hal
  by_cases hs : VSt U Bk n f m g
  · have hE : Hid (spE U Bk n f m g = 0) := spE_yes hs
    rw [tt_pos hs] at HV
    clear hs
    go_enter Tryz.func22, Tryz.ntmps22
    go_wp2_with (refine wp_load_whole rfl 29 _ rfl w.heap.size rfl 29 20 _ _ _ HS.out rfl (st_cs _ _ _ _ _) Tryz.underlying29 rfl st_size ?_)
    refine HV.out.mono ?_
    rintro e w1 ⟨rfl, hB1⟩
    have HB1 := Lib.hid (below_then HA.out hB1)
    clear hB1
    go_wp2
    go_ret
    exact ⟨by rw [hE.out]; rfl, HB1.out⟩
  · have hE : Hid (spE U Bk n f m g = 70) := spE_no hs
    rw [tt_neg hs] at HV
    clear hs
    go_enter Tryz.func22, Tryz.ntmps22
    go_wp2_with (refine wp_load_whole rfl 29 _ rfl w.heap.size rfl 29 20 _ _ _ HS.out rfl (st_cs _ _ _ _ _) Tryz.underlying29 rfl st_size ?_)
    refine HV.out.mono ?_
    rintro e w1 ⟨rfl, hB1⟩
    have HB1 := Lib.hid (below_then HA.out hB1)
    clear hB1
    go_wp2
    go_ret
    exact ⟨by rw [hE.out]; rfl, HB1.out⟩

set_option maxRecDepth 100000 in
set_option maxHeartbeats 1000000 in
theorem stepWordE_any (U Bk : Int) (n m : Nat) (K : Nat → Nat) (f g : Nat → Nat) (v u : Value) (x : Int) (w : World) (hv : Rd w .u32 v n f) (hu : Rd w .u32 u m g) (hf : ∀ j, j < n → f j < B) (hg : ∀ j, j < m → g j < B) (hK : Kb K) :
    Calls Tryz.prog 19 #[stV U Bk K v u, .int .i64 x] w fun e w' => ∃ sl, e = .returned (.tuple #[sl, .int .i64 (soE U Bk n f m g x)]) ∧ Rd w' .u8 sl (soL U Bk n f m g x) (soF K U Bk x) ∧ Below w.heap.size w w' := by
  have hal := (Below.refl _ w).alloc (Nat.le_refl _) (.cells #[.int .i64 U, .int .i64 Bk, .int .u8 (K 0), .int .u8 (K 1), .int .u8 (K 2), .int .u8 (K 3), .int .u8 (K 4), .int .u8 (K 5), .int .u8 (K 6), .int .u8 (K 7), .int .u8 (K 8), .int .u8 (K 9), .int .u8 (K 10), .int .u8 (K 11), .int .u8 (K 12), .int .u8 (K 13), .int .u8 (K 14), .int .u8 (K 15), v, u] 29)
  have HA := Lib.hid hal
  have HS := Lib.hid (st_row w U Bk K v u 29)
  by_cases hs : VSt U Bk n f m g
  · have hd' := vst_facts hs hf hg
    obtain ⟨d, rfl, hd1, hd, _⟩ := hd'
    obtain ⟨U', rfl⟩ := Int.eq_ofNat_of_zero_le (show 0 ≤ U by have := hs.1; omega)
    have hU2 : 2 ≤ U' := by have := hs.1; omega
    have hU16 : U' ≤ 16 := by have := hs.2.1; omega
    have HG := Lib.hid (stepsOf_good U' d n m K f g v u _ (hv.below hal) (hu.below hal) hf hg hK hs)
    have HVs := Lib.hid hs
    obtain ⟨A, n', c, rfl⟩ : ∃ A n c, v = .slice A n c := by obtain ⟨A, c, h, _⟩ := hv; exact ⟨_, _, _, h⟩
    obtain ⟨A2, m', c2, rfl⟩ : ∃ A n c, u = .slice A n c := by obtain ⟨A, c, h, _⟩ := hu; exact ⟨_, _, _, h⟩
    clear hv hu hf hg hal hs
    go_enter Tryz.func19, Tryz.ntmps19
    go_wp2_with (refine wp_load_whole rfl 29 _ rfl w.heap.size rfl 29 20 _ _ _ HS.out rfl (st_cs _ _ _ _ _) Tryz.underlying29 rfl st_size ?_)
    refine HG.out.mono ?_
    rintro e w1 ⟨bs, ba, rfl, hrs, hra, _, _, hB1⟩
    have HSs : Hid (SsAt w1 bs ba U' d K (.slice A n' c) (.slice A2 m' c2)) := ⟨hrs, hra⟩
    clear hrs hra
    have HS1 := Lib.hid (HS.out.of_block (hB1.block _ HS.out.lt))
    have HB1 := Lib.hid (below_then HA.out hB1)
    have k0 : w1.cell? ⟨w.heap.size, 0, none⟩ = some (.int .i64 (U' : Int)) := HS1.out.cell (i := 0) (by omega)
    clear hB1
    by_cases hx : x < 0 ∨ (U' : Int) ≤ x
    · have hE : Hid (soE (U' : Int) (d : Int) n f m g x = 2) := by show _ = _; unfold soE; rw [tt_pos HVs.out, if_pos rfl, if_pos hx]
      have hL : Hid (soL (U' : Int) (d : Int) n f m g x = 0) := by show _ = _; unfold soL; rw [tt_pos HVs.out, if_pos rfl, if_pos hx]
      by_cases hx0 : x < 0
      · clear hx
        go_wp2
        go_ret2
        exact ⟨_, by rw [hE.out]; rfl, by rw [hL.out]; exact Rd.nil _ _ _, HB1.out⟩
      · have hx1 : (U' : Int) ≤ x := by omega
        clear hx
        go_wp2
        go_ret2
        exact ⟨_, by rw [hE.out]; rfl, by rw [hL.out]; exact Rd.nil _ _ _, HB1.out⟩
    · have hE : Hid (soE (U' : Int) (d : Int) n f m g x = 0) := by show _ = _; unfold soE; rw [tt_pos HVs.out, if_pos rfl, if_neg hx]
      have hL : Hid (soL (U' : Int) (d : Int) n f m g x = (U' - 1) * d) := by show _ = _; unfold soL; rw [tt_pos HVs.out, if_pos rfl, if_neg hx, Int.toNat_natCast, Int.toNat_natCast]
      obtain ⟨y, rfl⟩ := Int.eq_ofNat_of_zero_le (show 0 ≤ x by omega)
      have hyU : y < U' := by omega
      have hF : Hid (soF K (U' : Int) (d : Int) (y : Int) = mrk (arN K ((U' - 1) * d)) (y * d) ((U' - 1) * d)) := by show _ = _; unfold soF; rw [Int.toNat_natCast, Int.toNat_natCast, Int.toNat_natCast]
      have hNU : (U' - 1) * d ≤ 15 * 64 := Nat.mul_le_mul (by omega) hd
      have HM := Lib.hid (word_any bs ba U' d K (.slice A n' c) (.slice A2 m' c2) y w1 HSs.out hU2 hU16 hd1 hd hyU)
      clear hx
      go_wp2_with fail
      refine HM.out.mono ?_
      rintro e w3 ⟨b3, rfl, hr, _, hB3⟩
      have HR := Lib.hid (rd_of_row hr (by omega))
      have HB3 := Lib.hid (below_then HB1.out hB3)
      clear hr hB3 hNU
      generalize (U' - 1) * d = N at *
      go_wp2
      go_ret2
      exact ⟨_, by rw [hE.out]; rfl, by rw [hL.out, hF.out]; exact HR.out, HB3.out⟩
  · have HG := Lib.hid (stepsOf_bad U Bk n m K f g v u _ (hv.below hal) (hu.below hal) hf hg hs)
    have hE : Hid (soE U Bk n f m g x = 70) := by show _ = _; unfold soE; rw [tt_neg hs]; rfl
    have hL : Hid (soL U Bk n f m g x = 0) := by show _ = _; unfold soL; rw [tt_neg hs]; rfl
    obtain ⟨A, n', c, rfl⟩ : ∃ A n c, v = .slice A n c := by obtain ⟨A, c, h, _⟩ := hv; exact ⟨_, _, _, h⟩
    obtain ⟨A2, m', c2, rfl⟩ : ∃ A n c, u = .slice A n c := by obtain ⟨A, c, h, _⟩ := hu; exact ⟨_, _, _, h⟩
    clear hv hu hf hg hal hs
    go_enter Tryz.func19, Tryz.ntmps19
    go_wp2_with (refine wp_load_whole rfl 29 _ rfl w.heap.size rfl 29 20 _ _ _ HS.out rfl (st_cs _ _ _ _ _) Tryz.underlying29 rfl st_size ?_)
    refine HG.out.mono ?_
    rintro e w1 ⟨rfl, hB1⟩
    have HB1 := Lib.hid (below_then HA.out hB1)
    clear hB1
    go_wp2
    go_ret2
    exact ⟨_, by rw [hE.out]; rfl, by rw [hL.out]; exact Rd.nil _ _ _, HB1.out⟩

set_option maxRecDepth 100000 in
set_option maxHeartbeats 1000000 in
theorem rstepWord_any (U Bk : Int) (n m : Nat) (K : Nat → Nat) (f g : Nat → Nat) (v u : Value) (x : Int) (w : World) (hv : Rd w .u32 v n f) (hu : Rd w .u32 u m g) (hf : ∀ j, j < n → f j < B) (hg : ∀ j, j < m → g j < B) (hK : Kb K) :
    Calls Tryz.prog 20 #[stV U Bk K v u, .int .i64 x] w fun e w' => ∃ sl, e = .returned (.tuple #[sl, .int .i64 (soE U Bk n f m g x)]) ∧ Rd w' .u8 sl (soL U Bk n f m g x) (soF K U Bk x) ∧ Below w.heap.size w w' := by
  have hal := (Below.refl _ w).alloc (Nat.le_refl _) (.cells #[.int .i64 U, .int .i64 Bk, .int .u8 (K 0), .int .u8 (K 1), .int .u8 (K 2), .int .u8 (K 3), .int .u8 (K 4), .int .u8 (K 5), .int .u8 (K 6), .int .u8 (K 7), .int .u8 (K 8), .int .u8 (K 9), .int .u8 (K 10), .int .u8 (K 11), .int .u8 (K 12), .int .u8 (K 13), .int .u8 (K 14), .int .u8 (K 15), v, u] 29)
  have HA := Lib.hid hal
  have HS := Lib.hid (st_row w U Bk K v u 29)
  by_cases hs : VSt U Bk n f m g
  · have hd' := vst_facts hs hf hg
    obtain ⟨d, rfl, hd1, hd, _⟩ := hd'
    obtain ⟨U', rfl⟩ := Int.eq_ofNat_of_zero_le (show 0 ≤ U by have := hs.1; omega)
    have hU2 : 2 ≤ U' := by have := hs.1; omega
    have hU16 : U' ≤ 16 := by have := hs.2.1; omega
    have HG := Lib.hid (rvalidsteps_any (U' : Int) (d : Int) K n m f g v u _ (hv.below hal) (hu.below hal) hf hg)
    rw [tt_pos hs] at HG
    have HVs := Lib.hid hs
    obtain ⟨A, n', c, rfl⟩ : ∃ A n c, v = .slice A n c := by obtain ⟨A, c, h, _⟩ := hv; exact ⟨_, _, _, h⟩
    obtain ⟨A2, m', c2, rfl⟩ : ∃ A n c, u = .slice A n c := by obtain ⟨A, c, h, _⟩ := hu; exact ⟨_, _, _, h⟩
    clear hv hu hf hg hal hs
    go_enter Tryz.func20, Tryz.ntmps20
    go_wp2_with (refine wp_load_whole rfl 29 _ rfl w.heap.size rfl 29 20 _ _ _ HS.out rfl (st_cs _ _ _ _ _) Tryz.underlying29 rfl st_size ?_)
    refine HG.out.mono ?_
    rintro e w1 ⟨rfl, hB1⟩
    have HS1 := Lib.hid (HS.out.of_block (hB1.block _ HS.out.lt))
    have HB1 := Lib.hid (below_then HA.out hB1)
    have k0 : w1.cell? ⟨w.heap.size, 0, none⟩ = some (.int .i64 (U' : Int)) := HS1.out.cell (i := 0) (by omega)
    clear hB1
    by_cases hx : x < 0 ∨ (U' : Int) ≤ x
    · have hE : Hid (soE (U' : Int) (d : Int) n f m g x = 2) := by show _ = _; unfold soE; rw [tt_pos HVs.out, if_pos rfl, if_pos hx]
      have hL : Hid (soL (U' : Int) (d : Int) n f m g x = 0) := by show _ = _; unfold soL; rw [tt_pos HVs.out, if_pos rfl, if_pos hx]
      by_cases hx0 : x < 0
      · clear hx
        go_wp2
        go_ret2
        exact ⟨_, by rw [hE.out]; rfl, by rw [hL.out]; exact Rd.nil _ _ _, HB1.out⟩
      · have hx1 : (U' : Int) ≤ x := by omega
        clear hx
        go_wp2
        go_ret2
        exact ⟨_, by rw [hE.out]; rfl, by rw [hL.out]; exact Rd.nil _ _ _, HB1.out⟩
    · have hE : Hid (soE (U' : Int) (d : Int) n f m g x = 0) := by show _ = _; unfold soE; rw [tt_pos HVs.out, if_pos rfl, if_neg hx]
      have hL : Hid (soL (U' : Int) (d : Int) n f m g x = (U' - 1) * d) := by show _ = _; unfold soL; rw [tt_pos HVs.out, if_pos rfl, if_neg hx, Int.toNat_natCast, Int.toNat_natCast]
      obtain ⟨y, rfl⟩ := Int.eq_ofNat_of_zero_le (show 0 ≤ x by omega)
      have hyU : y < U' := by omega
      have hF : Hid (soF K (U' : Int) (d : Int) (y : Int) = mrk (arN K ((U' - 1) * d)) (y * d) ((U' - 1) * d)) := by show _ = _; unfold soF; rw [Int.toNat_natCast, Int.toNat_natCast, Int.toNat_natCast]
      have hNU : (U' - 1) * d ≤ 15 * 64 := Nat.mul_le_mul (by omega) hd
      have HM := Lib.hid (rstepsword_any U' d K (.slice A n' c) (.slice A2 m' c2) y w1 hK hU2 hU16 hd1 hd hyU ⟨_, _, _, rfl⟩ ⟨_, _, _, rfl⟩)
      clear hx
      go_wp2_with (refine wp_load_whole rfl 29 _ rfl w.heap.size rfl 29 20 _ _ _ HS1.out rfl (st_cs _ _ _ _ _) Tryz.underlying29 rfl st_size ?_)
      refine HM.out.mono ?_
      rintro e w3 ⟨b3, rfl, hr, hB3⟩
      have HR := Lib.hid (rd_of_row hr (by omega))
      have HB3 := Lib.hid (below_then HB1.out hB3)
      clear hr hB3 hNU
      generalize (U' - 1) * d = N at *
      go_wp2
      go_ret2
      exact ⟨_, by rw [hE.out]; rfl, by rw [hL.out, hF.out]; exact HR.out, HB3.out⟩
  · have HG := Lib.hid (rvalidsteps_any U Bk K n m f g v u _ (hv.below hal) (hu.below hal) hf hg)
    rw [tt_neg hs] at HG
    have hE : Hid (soE U Bk n f m g x = 70) := by show _ = _; unfold soE; rw [tt_neg hs]; rfl
    have hL : Hid (soL U Bk n f m g x = 0) := by show _ = _; unfold soL; rw [tt_neg hs]; rfl
    obtain ⟨A, n', c, rfl⟩ : ∃ A n c, v = .slice A n c := by obtain ⟨A, c, h, _⟩ := hv; exact ⟨_, _, _, h⟩
    obtain ⟨A2, m', c2, rfl⟩ : ∃ A n c, u = .slice A n c := by obtain ⟨A, c, h, _⟩ := hu; exact ⟨_, _, _, h⟩
    clear hv hu hf hg hal hs
    go_enter Tryz.func20, Tryz.ntmps20
    go_wp2_with (refine wp_load_whole rfl 29 _ rfl w.heap.size rfl 29 20 _ _ _ HS.out rfl (st_cs _ _ _ _ _) Tryz.underlying29 rfl st_size ?_)
    refine HG.out.mono ?_
    rintro e w1 ⟨rfl, hB1⟩
    have HB1 := Lib.hid (below_then HA.out hB1)
    clear hB1
    go_wp2
    go_ret2
    exact ⟨_, by rw [hE.out]; rfl, by rw [hL.out]; exact Rd.nil _ _ _, HB1.out⟩

set_option maxRecDepth 100000 in
set_option maxHeartbeats 1000000 in
/-- The word of a user of a valid code: where it lies. -/
theorem stepWord_good (U d : Nat) (n m : Nat) (K : Nat → Nat) (f g : Nat → Nat) (v u : Value) (y : Nat) (w : World) (hv : Rd w .u32 v n f) (hu : Rd w .u32 u m g) (hf : ∀ j, j < n → f j < B) (hg : ∀ j, j < m → g j < B) (hK : Kb K) (hs : VSt (U : Int) (d : Int) n f m g) (hy : y < U) :
    Calls Tryz.prog 19 #[stV (U : Int) (d : Int) K v u, .int .i64 y] w fun e w' => ∃ b, e = .returned (.tuple #[.slice (some ⟨b, 0, none⟩) ((U - 1) * d) ((U - 1) * d), .int .i64 0]) ∧ w'.rowIs b 5 ((U - 1) * d) (fun i => .int .u8 (mrk (arN K ((U - 1) * d)) (y * d) ((U - 1) * d) i : Nat)) ∧ w.heap.size ≤ b ∧ Below w.heap.size w w' := by
  have hal := (Below.refl _ w).alloc (Nat.le_refl _) (.cells #[.int .i64 (U : Int), .int .i64 (d : Int), .int .u8 (K 0), .int .u8 (K 1), .int .u8 (K 2), .int .u8 (K 3), .int .u8 (K 4), .int .u8 (K 5), .int .u8 (K 6), .int .u8 (K 7), .int .u8 (K 8), .int .u8 (K 9), .int .u8 (K 10), .int .u8 (K 11), .int .u8 (K 12), .int .u8 (K 13), .int .u8 (K 14), .int .u8 (K 15), v, u] 29)
  have HA := Lib.hid hal
  have HS := Lib.hid (st_row w (U : Int) (d : Int) K v u 29)
  have hd1 : 1 ≤ d := by have := hs.2.2.1; omega
  have hd : d ≤ 64 := by have := hs.2.2.2.1; omega
  have hU2 : 2 ≤ U := by have := hs.1; omega
  have hU16 : U ≤ 16 := by have := hs.2.1; omega
  have HG := Lib.hid (stepsOf_good U d n m K f g v u _ (hv.below hal) (hu.below hal) hf hg hK hs)
  obtain ⟨A, n', c, rfl⟩ : ∃ A n c, v = .slice A n c := by obtain ⟨A, c, h, _⟩ := hv; exact ⟨_, _, _, h⟩
  obtain ⟨A2, m', c2, rfl⟩ : ∃ A n c, u = .slice A n c := by obtain ⟨A, c, h, _⟩ := hu; exact ⟨_, _, _, h⟩
  clear hv hu hf hg hal hs
  go_enter Tryz.func19, Tryz.ntmps19
  go_wp2_with (refine wp_load_whole rfl 29 _ rfl w.heap.size rfl 29 20 _ _ _ HS.out rfl (st_cs _ _ _ _ _) Tryz.underlying29 rfl st_size ?_)
  refine HG.out.mono ?_
  rintro e w1 ⟨bs, ba, rfl, hrs, hra, _, _, hB1⟩
  have HSs : Hid (SsAt w1 bs ba U d K (.slice A n' c) (.slice A2 m' c2)) := ⟨hrs, hra⟩
  have HS1 := Lib.hid (HS.out.of_block (hB1.block _ HS.out.lt))
  have HB1 := Lib.hid (below_then HA.out hB1)
  have k0 : w1.cell? ⟨w.heap.size, 0, none⟩ = some (.int .i64 (U : Int)) := HS1.out.cell (i := 0) (by omega)
  have HM := Lib.hid (word_any bs ba U d K (.slice A n' c) (.slice A2 m' c2) y w1 HSs.out hU2 hU16 hd1 hd hy)
  clear hrs hra hB1
  go_wp2_with fail
  refine HM.out.mono ?_
  rintro e w3 ⟨b3, rfl, hr, hb3, hB3⟩
  have HR := Lib.hid hr
  have hsz := HB1.out.size
  have HB3 := Lib.hid (below_then HB1.out hB3)
  clear hr hB3
  go_wp2
  go_ret2
  exact ⟨b3, rfl, HR.out, by omega, HB3.out⟩
end Go.Proofs.YtmbokpfgnicboaaGreat

/- The walks of codes of steps: the reference's weights and names. -/
namespace Go.Proofs.YtmbokpfgnicboaaGreat
open Go.RowKit Go.Hd Go.Sort _root_.Hd
set_option exponentiation.threshold 2000

set_option maxRecDepth 100000 in
set_option maxHeartbeats 1000000 in
theorem rweightsof_any (U d : Nat) (K : Nat → Nat) (v u : Value) (y : Nat → Nat) (ys : Value) (w : World) (hK : Kb K) (hv : ∃ A n c, v = .slice A n c) (hu : ∃ A n c, u = .slice A n c) (hy : Rd w .u8 ys ((U - 1) * d) y) (hy6 : ∀ j, j < (U - 1) * d → y j < 256) (hU2 : 2 ≤ U) (hU : U ≤ 16) (hd1 : 1 ≤ d) (hd : d ≤ 64) :
    Calls Tryz.prog 73 #[stV (U : Int) (d : Int) K v u, ys] w fun e w' => ∃ b, e = .returned (.slice (some ⟨b, 0, none⟩) (U - 1) (U - 1)) ∧ w'.rowIs b 3 (U - 1) (fun i => .int .i64 (wts (arN K ((U - 1) * d)) y d ((U - 1) * d) i : Nat)) ∧ Below w.heap.size w w' := by
  have hNU : (U - 1) * d ≤ 15 * 64 := Nat.mul_le_mul (by omega) hd
  have hNp : 0 < (U - 1) * d := Nat.mul_pos (by omega) (by omega)
  have HS := Lib.hid (st_row w (U : Int) (d : Int) K v u 29)
  have HA := Lib.hid ((Below.refl _ w).alloc (Nat.le_refl _) (.cells #[.int .i64 (U : Int), .int .i64 (d : Int), .int .u8 (K 0), .int .u8 (K 1), .int .u8 (K 2), .int .u8 (K 3), .int .u8 (K 4), .int .u8 (K 5), .int .u8 (K 6), .int .u8 (K 7), .int .u8 (K 8), .int .u8 (K 9), .int .u8 (K 10), .int .u8 (K 11), .int .u8 (K 12), .int .u8 (K 13), .int .u8 (K 14), .int .u8 (K 15), v, u] 29))
  obtain ⟨A, n', c, rfl⟩ := hv
  obtain ⟨A2, m', c2, rfl⟩ := hu
  have HDv : Hid (∀ i, i < (U - 1) * d → i / d < U - 1) := fun i hi => (Nat.div_lt_iff_lt_mul (by omega)).2 hi
  generalize (U - 1) * d = N at *
  obtain ⟨Ay, cy, rfl, _, _, h3⟩ := hy
  obtain ⟨by', offy, rfl, hcy⟩ := h3 hNp
  have HY := Lib.hid hcy
  have HY6 := Lib.hid hy6
  have HAr := Lib.hid (fun W => rarranged_any K N W hK (by omega))
  clear h3 hcy hy6
  have hmk := run_make_row' (P := Tryz.prog) 38 3 (.int .i64 0) 8 Tryz.underlying38 infoInt3 rfl .i64 .i64 (U - 1) (by omega) (by omega)
  have hU1 : ((U - 1 : Nat) : Int) = (U : Int) - 1 := by omega
  rw [hU1] at hmk
  obtain ⟨M, hM⟩ : ∃ M, M = U - 1 := ⟨_, rfl⟩
  rw [← hM] at hmk HDv hU1 ⊢
  have HM := Lib.hid hM
  have hM16 : M ≤ 16 := by omega
  clear hM hU1
  go_enter Tryz.func73, Tryz.ntmps73
  go_wp2_with (refine wp_load_cells rfl 23 _ rfl w.heap.size 2 rfl 16 _ _ _ (st_key HS.out) rfl (key_cs K) Tryz.underlying23 rfl key_size ?_)
  refine (HAr.out _).mono ?_
  rintro e w1 ⟨ba, rfl, hra, hB1⟩
  have HRa := Lib.hid hra
  have HS1 := Lib.hid (HS.out.of_block (hB1.block _ HS.out.lt))
  have HB1 := Lib.hid (below_then HA.out hB1)
  have k0 : w1.cell? ⟨w.heap.size, 0, none⟩ = some (.int .i64 (U : Int)) := HS1.out.cell (i := 0) (by omega)
  have k1 : w1.cell? ⟨w.heap.size, 1, none⟩ = some (.int .i64 (d : Int)) := HS1.out.cell (i := 1) (by omega)
  clear hra hB1
  go_wp2_with fail
  go_loopw [7] (fun s7 wr => ∃ i : Nat, i ≤ N ∧ s7 = .int .i64 i ∧ wr.rowIs w1.heap.size 3 M (fun p => .int .i64 (wts (arN K N) y d i p : Nat)) ∧ Below w1.heap.size w1 wr) (fun s7 _ => N - (intOf s7).toNat)
  case atStart => exact ⟨0, Nat.zero_le _, rfl, World.rowIs_made w1 _ M _, (Below.refl _ _).alloc (Nat.le_refl _) _⟩
  case round =>
    obtain ⟨i, hi, rfl, hrow, hbel⟩ := hrel
    obtain ⟨W0, rfl⟩ : ∃ W0 : World, W0 = wr := ⟨_, rfl⟩
    have HRow := Lib.hid hrow
    have HB := Lib.hid hbel
    have p1 := cell_below hbel k1
    by_cases hlt : i < N
    · have hc := cell_below hbel (HRa.out.cell (i := i) hlt)
      have hat := arN_lt K hlt
      obtain ⟨q, hq⟩ : ∃ q, q = arN K N i := ⟨_, rfl⟩
      rw [← hq] at hc hat
      have hcy := cell_below (below_then HB1.out hbel) (HY.out q hat)
      have hy6 := HY6.out q hat
      obtain ⟨z, hz⟩ : ∃ z : Nat, z = i / d := ⟨_, rfl⟩
      have hzI : (i : Int) / (d : Int) = (z : Int) := by rw [hz, Int.natCast_ediv]
      have hzM : z < M := by rw [hz]; exact HDv.out i hlt
      have hc2 := hrow.cell (i := z) hzM
      have hz2 := hrow.frozen z
      have hwle : wts (arN K N) y d i z ≤ d := wts_d (by omega) i z
      have hdI : (1 : Int) ≤ (d : Int) := by omega
      have hd0 : ((d : Int) == 0) = false := beq_eq_false_iff_ne.2 (by omega)
      by_cases hy1 : y q = 1
      · have HW : Hid (wts (arN K N) y d (i + 1) = upd (wts (arN K N) y d i) z (wts (arN K N) y d i z + 1)) := by
          show _ = _
          rw [wts_yes (by rw [← hq]; exact hy1), ← hz]
        rw [hy1] at hcy
        clear hrow hbel hq hz hy1
        generalize wts (arN K N) y d i z = c at *
        go_wp2
        go_roundw
        case rel =>
          refine ⟨i + 1, by omega, by go_num, ?_, HB.out.setCell (p := ⟨w1.heap.size, z, none⟩) (Nat.le_refl _) _⟩
          rw [HW.out]
          exact rowIs_upd HRow.out z _ _ (by omega)
        case measure => simp [intOf]; omega
      · have HW : Hid (wts (arN K N) y d (i + 1) = wts (arN K N) y d i) := wts_no (by rw [← hq]; exact hy1)
        have hyI : ((y q : Nat) : Int) ≠ 1 := by omega
        have hyb : (((y q : Nat) : Int) == 1) = false := beq_eq_false_iff_ne.2 hyI
        clear hrow hbel hq hz hy1
        go_wp2
        go_roundw
        case rel => exact ⟨i + 1, by omega, by go_num, HRow.out.congr (fun p hp => by rw [HW.out]), HB.out⟩
        case measure => simp [intOf]; omega
    · obtain rfl : i = N := by omega
      clear hrow hbel
      go_wp2
      go_ret
      exact ⟨w1.heap.size, rfl, HRow.out, below_then HB1.out HB.out⟩

set_option maxRecDepth 100000 in
set_option maxHeartbeats 2000000 in
theorem rnamedof_any (U d m n : Nat) (K : Nat → Nat) (v u : Value) (W : Nat → Nat) (ws : Value) (w : World) (hw : RdV w ws (U - 1) (fun j => .int .i64 (W j : Nat))) (hWd : ∀ j, j < U - 1 → W j ≤ d) (hv : Nt w v m) (hu : Nt w u n) (hm : m < B ^ 4) (hn : n < B ^ 4) (hU2 : 2 ≤ U) (hU : U ≤ 16) (hd1 : 1 ≤ d) (hd : d ≤ 64) :
    Calls Tryz.prog 76 #[stV (U : Int) (d : Int) K v u, ws] w fun e w' => ∃ sl, e = .returned sl ∧ RdV w' sl (nmL U d m n W U).length (fun j => .int .i64 ((nmL U d m n W U).getD j 0 : Nat)) ∧ Below w.heap.size w w' := by
  have HS := Lib.hid (st_row w (U : Int) (d : Int) K v u 29)
  have HA := Lib.hid ((Below.refl _ w).alloc (Nat.le_refl _) (.cells #[.int .i64 (U : Int), .int .i64 (d : Int), .int .u8 (K 0), .int .u8 (K 1), .int .u8 (K 2), .int .u8 (K 3), .int .u8 (K 4), .int .u8 (K 5), .int .u8 (K 6), .int .u8 (K 7), .int .u8 (K 8), .int .u8 (K 9), .int .u8 (K 10), .int .u8 (K 11), .int .u8 (K 12), .int .u8 (K 13), .int .u8 (K 14), .int .u8 (K 15), v, u] 29))
  have HV := Lib.hid hv
  have HU := Lib.hid hu
  have HWd := Lib.hid hWd
  obtain ⟨A1, n1, c1, rfl⟩ := hv.shape
  obtain ⟨A2, n2, c2, rfl⟩ := hu.shape
  obtain ⟨Aw, cw, rfl, _, _, h3⟩ := hw
  obtain ⟨bw, offw, rfl, hcw⟩ := h3 (by omega)
  have HCw := Lib.hid hcw
  have HE : Hid ((w.alloc (.cells #[.int .i64 (U : Int), .int .i64 (d : Int), .int .u8 (K 0), .int .u8 (K 1), .int .u8 (K 2), .int .u8 (K 3), .int .u8 (K 4), .int .u8 (K 5), .int .u8 (K 6), .int .u8 (K 7), .int .u8 (K 8), .int .u8 (K 9), .int .u8 (K 10), .int .u8 (K 11), .int .u8 (K 12), .int .u8 (K 13), .int .u8 (K 14), .int .u8 (K 15), (.slice A1 n1 c1), (.slice A2 n2 c2)] 29)).ownsRow (w.heap.size + 1) 3 1 (.slice none 0 0) 0 []) := World.ownsRow_nil _ _ _ _
  clear hv hu h3 hcw hWd
  go_enter Tryz.func76, Tryz.ntmps76
  go_wp2_with fail
  generalize hW0 : w.alloc (.cells #[.int .i64 (U : Int), .int .i64 (d : Int), .int .u8 (K 0), .int .u8 (K 1), .int .u8 (K 2), .int .u8 (K 3), .int .u8 (K 4), .int .u8 (K 5), .int .u8 (K 6), .int .u8 (K 7), .int .u8 (K 8), .int .u8 (K 9), .int .u8 (K 10), .int .u8 (K 11), .int .u8 (K 12), .int .u8 (K 13), .int .u8 (K 14), .int .u8 (K 15), (.slice A1 n1 c1), (.slice A2 n2 c2)] 29) = w1 at *
  have hsz1 : w1.heap.size = w.heap.size + 1 := by rw [← hW0]; simp
  rw [← hsz1] at HE
  have hlw : w.heap.size < w1.heap.size := by omega
  clear hW0 hsz1
  go_loopw [5, 6] (fun s5 s6 wr => ∃ k : Nat, k ≤ U ∧ s6 = .int .i64 k ∧ Hid (wr.ownsRow w1.heap.size 3 1 s5 (nmL U d m n W k).length ((nmL U d m n W k).map fun x => .int .i64 (x : Nat))) ∧ Below w1.heap.size w1 wr) (fun _ s6 _ => U - (intOf s6).toNat)
  case atStart => exact ⟨0, Nat.zero_le _, rfl, HE.out, Below.refl _ _⟩
  case round =>
    obtain ⟨k, hk, rfl, hown, hbel⟩ := hrel
    obtain ⟨W0, rfl⟩ : ∃ W0 : World, W0 = wr := ⟨_, rfl⟩
    have HBel := Lib.hid hbel
    have hsz := hbel.size
    have HSr := Lib.hid (HS.out.of_block (hbel.block _ hlw))
    have p0 : W0.cell? ⟨w.heap.size, 0, none⟩ = some (.int .i64 (U : Int)) := HSr.out.cell (i := 0) (by omega)
    have p1 : W0.cell? ⟨w.heap.size, 1, none⟩ = some (.int .i64 (d : Int)) := HSr.out.cell (i := 1) (by omega)
    have HBw := Lib.hid (below_then HA.out hbel)
    obtain ⟨A6, c6, rfl⟩ := own_slice hown.out
    by_cases hlt : k < U
    · obtain ⟨b, hb⟩ : ∃ b, b = nmd U d m n W k := ⟨_, rfl⟩
      have HNb := Lib.hid hb
      have HWr : Hid (∀ j, j < U - 1 → W0.cell? ⟨bw, offw + j, none⟩ = some (.int .i64 (W j : Nat))) := fun j hj => cell_below HBw.out (HCw.out j hj)
      clear hbel hb
      go_upto_if 15 with fail
      go_cut [7] (fun s7 wx => s7 = .bool b ∧ Below W0.heap.size W0 wx)
      case first =>
        by_cases hk0 : k = 0
        · subst hk0
          have c0 := HWr.out 0 (by omega)
          rw [Nat.add_zero] at c0
          have hnb := HNb.out
          rw [nmd_first] at hnb
          by_cases h0 : 0 < W 0
          · have HT : Hid (b = true) := by show _ = _; rw [hnb]; exact decide_eq_true h0
            clear hnb
            go_wp2_with fail
            go_meet
            case rel => exact ⟨by rw [HT.out], Below.refl _ _⟩
          · have HT : Hid (b = false) := by show _ = _; rw [hnb]; exact decide_eq_false h0
            clear hnb
            go_wp2_with fail
            go_meet
            case rel => exact ⟨by rw [HT.out], Below.refl _ _⟩
        · have hk0b : ((k : Int) == 0) = false := beq_eq_false_iff_ne.2 (by omega)
          obtain ⟨q, hq⟩ : ∃ q, q = k - 1 := ⟨_, rfl⟩
          have hqI : (k : Int) - 1 = (q : Int) := by omega
          have cq := HWr.out q (by omega)
          have hqN : q < U - 1 := by omega
          have hwq : IntKind.i64.wrap ((k : Int) - 1) = (q : Int) := by rw [IntKind.wrap_i64]; omega
          have hwq2 : IntKind.i64.wrap (q : Int) = (q : Int) := by rw [IntKind.wrap_i64]; omega
          have hq0 : (0 : Int) ≤ (q : Int) := by omega
          have hwU : IntKind.i64.wrap ((U : Int) - 1) = (U : Int) - 1 := by rw [IntKind.wrap_i64]; omega
          have HQd := Lib.hid (HWd.out q (by omega))
          by_cases hkl : k = U - 1
          · have hklb : ((k : Int) == (U : Int) - 1) = true := by rw [beq_iff_eq]; omega
            have hnb := HNb.out
            rw [nmd_last hk0 hkl, ← hq] at hnb
            by_cases h0 : W q < d
            · have HT : Hid (b = true) := by show _ = _; rw [hnb]; exact decide_eq_true h0
              clear hnb hq hkl hk0
              generalize W q = x at *
              go_wp2_with fail
              go_quiet (fail)
              go_wp2_with fail
              go_meet
              case rel => exact ⟨by rw [HT.out], below_drewN (Below.refl _ _) _⟩
            · have HT : Hid (b = false) := by show _ = _; rw [hnb]; exact decide_eq_false h0
              clear hnb hq hkl hk0
              generalize W q = x at *
              go_wp2_with fail
              go_quiet (fail)
              go_wp2_with fail
              go_meet
              case rel => exact ⟨by rw [HT.out], below_drewN (Below.refl _ _) _⟩
          · have hklb : ((k : Int) == (U : Int) - 1) = false := beq_eq_false_iff_ne.2 (by omega)
            have hnb := HNb.out
            rw [nmd_mid hk0 hkl, ← hq] at hnb
            have ck := HWr.out k (by omega)
            have hkN : k < U - 1 := by omega
            have HKd := Lib.hid (HWd.out k (by omega))
            obtain ⟨t, ht⟩ : ∃ t, t = W q + W k := ⟨_, rfl⟩
            rw [← ht] at hnb
            have HQq : Hid (∀ dd os, Calls Tryz.prog 125 #[stV (U : Int) (d : Int) K (.slice A1 n1 c1) (.slice A2 n2 c2), .int .i64 t] (grow (redrawn W0 dd) os) fun e w'' => e = .returned (.int .i64 (thr d m n t)) ∧ ∃ p : Regrown, w'' = grow (redrawn W0 p.d) p.os) := fun dd os => Calls.regrown_of (rthresholdof_any (U : Int) d t m n K _ _ _ (HV.out.below (below_then HBw.out (below_regrown W0 dd os))) (HU.out.below (below_then HBw.out (below_regrown W0 dd os))) hd (by have := HQd.out; have := HKd.out; omega) hm hn)
            have kcq := cell_regrown cq
            have kck := cell_regrown ck
            have htw : IntKind.i64.wrap (((W q : Nat) : Int) + ((W k : Nat) : Int)) = (t : Int) := by have := HQd.out; have := HKd.out; rw [IntKind.wrap_i64]; omega
            have hk0I : (0 : Int) ≤ (k : Int) := by omega
            clear hq hkl hk0 ht
            generalize W q = x at *
            generalize W k = x2 at *
            generalize thr d m n t = th at *
            by_cases h0 : (x : Int) ≤ th
            · have HT : Hid (b = true) := by show _ = _; rw [hnb]; exact decide_eq_true h0
              clear hnb
              go_wp2_with fail
              refine wp_region_quiet_below (by kernel_rfl) (by kernel_rfl) ?_
              repeat (quiet_step (fail))
              refine quiet_load_cells rfl 29 _ rfl w.heap.size 0 rfl 20 _ _ _ (fun W hW j hj => by obtain ⟨p, rfl⟩ := hW; rw [Nat.zero_add]; exact cell_regrown (HSr.out.cell hj) _ _) rfl (st_cs _ _ _ _ _) Tryz.underlying29 rfl st_size ?_
              repeat (quiet_step (exact HQq.out _ _))
              refine wpQuiet_nil ?_
              intro w4 hw4
              have hb4 : Below W0.heap.size W0 w4 := by obtain ⟨p, rfl⟩ := hw4; exact below_regrown _ _ _
              have HB4 := Lib.hid hb4
              clear hb4 hw4
              go_wp2_with fail
              go_meet
              case rel => exact ⟨by rw [HT.out], HB4.out⟩
            · have HT : Hid (b = false) := by show _ = _; rw [hnb]; exact decide_eq_false h0
              clear hnb
              go_wp2_with fail
              refine wp_region_quiet_below (by kernel_rfl) (by kernel_rfl) ?_
              repeat (quiet_step (fail))
              refine quiet_load_cells rfl 29 _ rfl w.heap.size 0 rfl 20 _ _ _ (fun W hW j hj => by obtain ⟨p, rfl⟩ := hW; rw [Nat.zero_add]; exact cell_regrown (HSr.out.cell hj) _ _) rfl (st_cs _ _ _ _ _) Tryz.underlying29 rfl st_size ?_
              repeat (quiet_step (exact HQq.out _ _))
              refine wpQuiet_nil ?_
              intro w4 hw4
              have hb4 : Below W0.heap.size W0 w4 := by obtain ⟨p, rfl⟩ := hw4; exact below_regrown _ _ _
              have HB4 := Lib.hid hb4
              clear hb4 hw4
              go_wp2_with fail
              go_meet
              case rel => exact ⟨by rw [HT.out, decide_eq_false (by omega)], HB4.out⟩
      case rest =>
        obtain ⟨rfl, hbx⟩ := hcut
        have HBx := Lib.hid (below_then HBel.out hbx)
        have HOx := Lib.hid (own_below hown.out hbx)
        have hszx := hbx.size
        clear hbx hown p0 p1
        cases b with
        | true =>
          have HL := Lib.hid (nmL_yes HNb.out.symm)
          go_wp2_with (at_builtin; refine wp_app w1.heap.size rfl _ _ 38 3 (.int .i64 0) 8 rfl Tryz.underlying38 infoInt3 rfl (by decide) (.slice A6 _ c6) _ rfl _ 1 (fun _ => .int .i64 (k : Nat)) rfl (rdV_one _ _ _) (fun _ _ => rfl) (by rw [List.length_map]; exact own_below HOx.out ((Below.refl _ _).alloc (Nat.le_refl _) _)) (by simp; omega) (by simp; have := nmL_len U d m n k W; omega) ?_; intro v5 w5 hown5 hg5; have HO5 := Lib.hid hown5; have HG5 := Lib.hid hg5; clear hown5 hg5)
          go_roundw
          case rel =>
            refine ⟨k + 1, by omega, by go_num, ?_, ?_⟩
            · have h := HO5.out
              rw [List.length_map] at h
              rw [HL.out, List.map_append, List.length_append]
              exact h
            · exact below_own ((HBx.out.alloc (by omega) _)) (own_below HOx.out ((Below.refl _ _).alloc (Nat.le_refl _) _)) HG5.out (by simp; omega)
          case measure => simp [intOf]; omega
        | false =>
          have HL := Lib.hid (nmL_no HNb.out.symm)
          go_wp2_with fail
          go_roundw
          case rel => exact ⟨k + 1, by omega, by go_num, by rw [HL.out]; exact HOx.out, HBx.out⟩
          case measure => simp [intOf]; omega
    · obtain rfl : k = U := by omega
      clear hbel
      go_wp2
      go_ret
      exact ⟨_, rfl, rdV_of_own hown.out _ (fun j hj => by simp [List.getD_eq_getElem?_getD, hj]), below_then HA.out HBel.out⟩

set_option maxRecDepth 100000 in
theorem sameInts_any (n m : Nat) (F G : Nat → Int) (v u : Value) (w : World) (hv : RdV w v n (fun j => .int .i64 (F j))) (hu : RdV w u m (fun j => .int .i64 (G j))) :
    Calls Tryz.prog 25 #[v, u] w fun e w' => e = .returned (.bool (tt (n = m ∧ ∀ j, j < n → F j = G j))) ∧ Below w.heap.size w w' := by
  obtain ⟨T, hT⟩ : ∃ T : Bool, T = tt (n = m ∧ ∀ j, j < n → F j = G j) := ⟨_, rfl⟩
  rw [← hT]
  have HTT := Lib.hid hT
  clear hT
  obtain ⟨A, c, rfl, h1, h2, h3⟩ := hv
  obtain ⟨A2, c2, rfl, k1, k2, k3⟩ := hu
  have hn : n ≤ 9223372036854775807 := by unfold maxLen at h2; omega
  have hm : m ≤ 9223372036854775807 := by unfold maxLen at k2; omega
  have H3 := Lib.hid h3
  have K3 := Lib.hid k3
  clear h1 h2 h3 k1 k2 k3
  by_cases hnm : n = m
  · subst hnm
    go_enter Tryz.func25, Tryz.ntmps25
    go_wp2_with fail
    go_loopw [5] (fun s5 wr => ∃ i : Nat, i ≤ n ∧ s5 = .int .i64 i ∧ Hid (∀ j, j < i → F j = G j) ∧ Below w.heap.size w wr) (fun s5 _ => n - (intOf s5).toNat)
    case atStart => exact ⟨0, Nat.zero_le _, rfl, fun j hj => by omega, Below.refl _ _⟩
    case round =>
      obtain ⟨i, hi, rfl, hall, hbel⟩ := hrel
      obtain ⟨W0, rfl⟩ : ∃ W0 : World, W0 = wr := ⟨_, rfl⟩
      have HB := Lib.hid hbel
      clear hbel
      by_cases hlt : i < n
      · obtain ⟨b, off, rfl, hc⟩ := H3.out (by omega)
        obtain ⟨b2, off2, rfl, hc2⟩ := K3.out (by omega)
        have c1 := cell_below HB.out (hc i hlt)
        have c2' := cell_below HB.out (hc2 i hlt)
        have hi0 : (0 : Int) ≤ (i : Int) := by omega
        clear hc hc2
        by_cases he : F i = G i
        · have hne : (F i != G i) = false := by rw [bne_eq_false_iff_eq]; exact he
          have HE := Lib.hid he
          clear he
          go_wp2_with fail
          go_quiet (fail)
          go_wp2
          go_roundw
          case rel => exact ⟨i + 1, by omega, by go_num, fun j hj => by
            rcases Nat.lt_or_ge j i with h | h
            · exact hall.out j h
            · obtain rfl : j = i := by omega
              exact HE.out, below_drewN HB.out _⟩
          case measure => simp [intOf]; omega
        · have hne : (F i != G i) = true := by rw [bne_iff_ne]; exact he
          have HT : Hid (T = false) := HTT.out.trans (tt_neg (fun h => he (h.2 i hlt)))
          clear he
          go_wp2_with fail
          go_quiet (fail)
          go_wp2
          go_ret
          exact ⟨by rw [HT.out]; rfl, below_drewN HB.out _⟩
      · obtain rfl : i = n := by omega
        have HT : Hid (T = true) := HTT.out.trans (tt_pos (by refine ⟨?_, hall.out⟩; first | rfl | trivial))
        go_wp2
        go_ret
        exact ⟨by rw [HT.out]; rfl, HB.out⟩
  · have HT : Hid (T = false) := HTT.out.trans (tt_neg (fun h => hnm h.1))
    have hne : ((n : Int) != (m : Int)) = true := by rw [bne_iff_ne]; omega
    clear hnm
    go_enter Tryz.func25, Tryz.ntmps25
    go_wp2
    go_ret
    exact ⟨by rw [HT.out]; rfl, Below.refl _ _⟩
end Go.Proofs.YtmbokpfgnicboaaGreat

/- The walks of codes of steps: the reference's Weights and TraceSteps. -/
namespace Go.Proofs.YtmbokpfgnicboaaGreat
open Go.RowKit Go.Hd Go.Sort _root_.Hd
set_option exponentiation.threshold 2000

set_option maxRecDepth 100000 in
set_option maxHeartbeats 1000000 in
theorem rweightsE_any (U Bk : Int) (n m : Nat) (K : Nat → Nat) (f g : Nat → Nat) (N : Nat) (Y : Nat → Nat) (v u ys : Value) (w : World) (hv : Rd w .u32 v n f) (hu : Rd w .u32 u m g) (hf : ∀ j, j < n → f j < B) (hg : ∀ j, j < m → g j < B) (hK : Kb K) (hy : Rd w .u8 ys N Y) (hy6 : ∀ j, j < N → Y j < 256) :
    Calls Tryz.prog 24 #[stV U Bk K v u, ys] w fun e w' => ∃ sl, e = .returned (.tuple #[sl, .int .i64 (skE U Bk n f m g N Y)]) ∧ RdV w' sl (wgL U Bk n f m g N Y) (fun j => .int .i64 (wgF K U Bk Y j : Nat)) ∧ Below w.heap.size w w' := by
  have hal := (Below.refl _ w).alloc (Nat.le_refl _) (.cells #[.int .i64 U, .int .i64 Bk, .int .u8 (K 0), .int .u8 (K 1), .int .u8 (K 2), .int .u8 (K 3), .int .u8 (K 4), .int .u8 (K 5), .int .u8 (K 6), .int .u8 (K 7), .int .u8 (K 8), .int .u8 (K 9), .int .u8 (K 10), .int .u8 (K 11), .int .u8 (K 12), .int .u8 (K 13), .int .u8 (K 14), .int .u8 (K 15), v, u] 29)
  have HA := Lib.hid hal
  have HS := Lib.hid (st_row w U Bk K v u 29)
  have HVl := Lib.hid (rvalidsteps_any U Bk K n m f g v u _ (hv.below hal) (hu.below hal) hf hg)
  have HY := Lib.hid hy
  have HY6 := Lib.hid hy6
  obtain ⟨Ay, Ny, cy, rfl⟩ : ∃ A n c, ys = .slice A n c := by obtain ⟨A, c, h, _⟩ := hy; exact ⟨_, _, _, h⟩
  by_cases hs : VSt U Bk n f m g
  · obtain ⟨d, rfl, hd1, hd, _⟩ := vst_facts hs hf hg
    obtain ⟨U', rfl⟩ := Int.eq_ofNat_of_zero_le (show 0 ≤ U by have := hs.1; omega)
    have hU2 : 2 ≤ U' := by have := hs.1; omega
    have hU16 : U' ≤ 16 := by have := hs.2.1; omega
    rw [tt_pos hs] at HVl
    have HVs := Lib.hid hs
    have hNU : (U' - 1) * d ≤ 15 * 64 := Nat.mul_le_mul (by omega) hd
    have hNI : ((U' : Int) - 1) * (d : Int) = (((U' - 1) * d : Nat) : Int) := by rw [Int.natCast_mul, show ((U' - 1 : Nat) : Int) = (U' : Int) - 1 by omega]
    have hw2 : IntKind.i64.wrap (((U' : Int) - 1) * (d : Int)) = (((U' - 1) * d : Nat) : Int) := by rw [hNI, IntKind.wrap_i64]; omega
    have hw3 : IntKind.i64.wrap (((U' - 1) * d : Nat) : Int) = (((U' - 1) * d : Nat) : Int) := by rw [IntKind.wrap_i64]; omega
    have HRc := Lib.hid (fun W (h : Below w.heap.size w W) => refIsCopy_any N Y (.slice Ay Ny cy) ((U' - 1) * d) W (HY.out.below h))
    obtain ⟨A, n', c, rfl⟩ : ∃ A n c, v = .slice A n c := by obtain ⟨A, c, h, _⟩ := hv; exact ⟨_, _, _, h⟩
    obtain ⟨A2, m', c2, rfl⟩ : ∃ A n c, u = .slice A n c := by obtain ⟨A, c, h, _⟩ := hu; exact ⟨_, _, _, h⟩
    clear hv hu hf hg hal hs hy hy6
    by_cases hc : IsC N Y ((U' - 1) * d)
    · rw [tt_pos hc] at HRc
      have HOk : Hid (SkOk (U' : Int) (d : Int) n f m g N Y) := ⟨HVs.out, by rw [Int.toNat_natCast, Int.toNat_natCast]; exact hc⟩
      have HWg : Hid (wgL (U' : Int) (d : Int) n f m g N Y = U' - 1) := wgL_ok HOk.out
      have HWf : Hid (wgF K (U' : Int) (d : Int) Y = wts (arN K ((U' - 1) * d)) Y d ((U' - 1) * d)) := by show _ = _; unfold wgF; rw [Int.toNat_natCast, Int.toNat_natCast]
      have hNN : N = (U' - 1) * d := hc.1
      have HM := Lib.hid (fun W (h : Below w.heap.size w W) => rweightsof_any U' d K (.slice A n' c) (.slice A2 m' c2) Y (.slice Ay Ny cy) W hK ⟨_, _, _, rfl⟩ ⟨_, _, _, rfl⟩ (by have := HY.out.below h; rw [hNN] at this; exact this) (by have := HY6.out; rw [hNN] at this; exact this) hU2 hU16 hd1 hd)
      clear hc hNN
      generalize (U' - 1) * d = M at *
      go_enter Tryz.func24, Tryz.ntmps24
      go_wp2_with (refine wp_load_whole rfl 29 _ rfl w.heap.size rfl 29 20 _ _ _ HS.out rfl (st_cs _ _ _ _ _) Tryz.underlying29 rfl st_size ?_)
      refine HVl.out.mono ?_
      rintro e w1 ⟨rfl, hB1⟩
      have HS1 := Lib.hid (HS.out.of_block (hB1.block _ HS.out.lt))
      have HB1 := Lib.hid (below_then HA.out hB1)
      have k0 : w1.cell? ⟨w.heap.size, 0, none⟩ = some (.int .i64 (U' : Int)) := HS1.out.cell (i := 0) (by omega)
      have k1 : w1.cell? ⟨w.heap.size, 1, none⟩ = some (.int .i64 (d : Int)) := HS1.out.cell (i := 1) (by omega)
      clear hB1
      go_wp2_with fail
      refine (HRc.out _ HB1.out).mono ?_
      rintro e w2 ⟨rfl, rfl⟩
      go_wp2_with (refine wp_load_whole rfl 29 _ rfl w.heap.size rfl 29 20 _ _ _ HS1.out rfl (st_cs _ _ _ _ _) Tryz.underlying29 rfl st_size ?_)
      refine (HM.out _ HB1.out).mono ?_
      rintro e w3 ⟨b3, rfl, hr, hB3⟩
      have HR := Lib.hid hr
      have HB3 := Lib.hid (below_then HB1.out hB3)
      clear hr hB3
      go_wp2
      go_ret2
      exact ⟨_, by rw [skE_ok HOk.out]; rfl, by rw [HWg.out, HWf.out]; exact rdV_of_row HR.out (by omega), HB3.out⟩
    · rw [tt_neg hc] at HRc
      have HE : Hid (skE (U' : Int) (d : Int) n f m g N Y = 71) := skE_copy HVs.out (by rw [Int.toNat_natCast, Int.toNat_natCast]; exact hc)
      have HNo : Hid (wgL (U' : Int) (d : Int) n f m g N Y = 0) := wgL_no (fun h => hc (by have := h.2; rw [Int.toNat_natCast, Int.toNat_natCast] at this; exact this))
      clear hc
      generalize (U' - 1) * d = M at *
      go_enter Tryz.func24, Tryz.ntmps24
      go_wp2_with (refine wp_load_whole rfl 29 _ rfl w.heap.size rfl 29 20 _ _ _ HS.out rfl (st_cs _ _ _ _ _) Tryz.underlying29 rfl st_size ?_)
      refine HVl.out.mono ?_
      rintro e w1 ⟨rfl, hB1⟩
      have HS1 := Lib.hid (HS.out.of_block (hB1.block _ HS.out.lt))
      have HB1 := Lib.hid (below_then HA.out hB1)
      have k0 : w1.cell? ⟨w.heap.size, 0, none⟩ = some (.int .i64 (U' : Int)) := HS1.out.cell (i := 0) (by omega)
      have k1 : w1.cell? ⟨w.heap.size, 1, none⟩ = some (.int .i64 (d : Int)) := HS1.out.cell (i := 1) (by omega)
      clear hB1
      go_wp2_with fail
      refine (HRc.out _ HB1.out).mono ?_
      rintro e w2 ⟨rfl, rfl⟩
      go_wp2
      go_ret2
      exact ⟨_, by rw [HE.out]; rfl, by rw [HNo.out]; exact RdV.nil _ _, HB1.out⟩
  · have HE : Hid (skE U Bk n f m g N Y = 70) := skE_bad hs
    have HNo : Hid (wgL U Bk n f m g N Y = 0) := wgL_no (fun h => hs h.1)
    rw [tt_neg hs] at HVl
    obtain ⟨A, n', c, rfl⟩ : ∃ A n c, v = .slice A n c := by obtain ⟨A, c, h, _⟩ := hv; exact ⟨_, _, _, h⟩
    obtain ⟨A2, m', c2, rfl⟩ : ∃ A n c, u = .slice A n c := by obtain ⟨A, c, h, _⟩ := hu; exact ⟨_, _, _, h⟩
    clear hv hu hf hg hal hs hy hy6
    go_enter Tryz.func24, Tryz.ntmps24
    go_wp2_with (refine wp_load_whole rfl 29 _ rfl w.heap.size rfl 29 20 _ _ _ HS.out rfl (st_cs _ _ _ _ _) Tryz.underlying29 rfl st_size ?_)
    refine HVl.out.mono ?_
    rintro e w1 ⟨rfl, hB1⟩
    have HB1 := Lib.hid (below_then HA.out hB1)
    clear hB1
    go_wp2
    go_ret2
    exact ⟨_, by rw [HE.out]; rfl, by rw [HNo.out]; exact RdV.nil _ _, HB1.out⟩

set_option maxRecDepth 100000 in
set_option maxHeartbeats 1000000 in
theorem rtraceE_any (U Bk : Int) (n m : Nat) (K : Nat → Nat) (f g : Nat → Nat) (N : Nat) (Y : Nat → Nat) (v u ys : Value) (w : World) (hv : Rd w .u32 v n f) (hu : Rd w .u32 u m g) (hf : ∀ j, j < n → f j < B) (hg : ∀ j, j < m → g j < B) (hK : Kb K) (hy : Rd w .u8 ys N Y) (hy6 : ∀ j, j < N → Y j < 256) :
    Calls Tryz.prog 27 #[stV U Bk K v u, ys] w fun e w' => ∃ sl, e = .returned (.tuple #[sl, .int .i64 (skE U Bk n f m g N Y)]) ∧ RdV w' sl (nmO K U Bk n f m g N Y).length (fun j => .int .i64 ((nmO K U Bk n f m g N Y).getD j 0 : Nat)) ∧ Below w.heap.size w w' := by
  have hal := (Below.refl _ w).alloc (Nat.le_refl _) (.cells #[.int .i64 U, .int .i64 Bk, .int .u8 (K 0), .int .u8 (K 1), .int .u8 (K 2), .int .u8 (K 3), .int .u8 (K 4), .int .u8 (K 5), .int .u8 (K 6), .int .u8 (K 7), .int .u8 (K 8), .int .u8 (K 9), .int .u8 (K 10), .int .u8 (K 11), .int .u8 (K 12), .int .u8 (K 13), .int .u8 (K 14), .int .u8 (K 15), v, u] 29)
  have HA := Lib.hid hal
  have HS := Lib.hid (st_row w U Bk K v u 29)
  have HWt := Lib.hid (rweightsE_any U Bk n m K f g N Y v u ys _ (hv.below hal) (hu.below hal) hf hg hK (hy.below hal) hy6)
  obtain ⟨Ay, Ny, cy, rfl⟩ : ∃ A n c, ys = .slice A n c := by obtain ⟨A, c, h, _⟩ := hy; exact ⟨_, _, _, h⟩
  have HV := Lib.hid hv
  have HU := Lib.hid hu
  by_cases hs : SkOk U Bk n f m g N Y
  · obtain ⟨d, rfl, hd1, hd, cf, cg, lf, lg, hlt⟩ := vst_facts hs.1 hf hg
    obtain ⟨U', rfl⟩ := Int.eq_ofNat_of_zero_le (show 0 ≤ U by have := hs.1.1; omega)
    have hU2 : 2 ≤ U' := by have := hs.1.1; omega
    have hU16 : U' ≤ 16 := by have := hs.1.2.1; omega
    have HE : Hid (skE (U' : Int) (d : Int) n f m g N Y = 0) := skE_ok hs
    have HL : Hid (wgL (U' : Int) (d : Int) n f m g N Y = U' - 1) := wgL_ok hs
    have HO : Hid (nmO K (U' : Int) (d : Int) n f m g N Y = nmL U' d (val f n) (val g m) (wgF K (U' : Int) (d : Int) Y) U') := by show _ = _; rw [nmO_ok hs, Int.toNat_natCast, Int.toNat_natCast]
    have HD : Hid (∀ j, wgF K (U' : Int) (d : Int) Y j ≤ d) := fun j => by unfold wgF; rw [Int.toNat_natCast, Int.toNat_natCast]; exact wts_d hd1 _ _
    have HNv := Lib.hid (show Nt w v (val f n) from ⟨n, f, hv, cf, rfl⟩)
    have HNu := Lib.hid (show Nt w u (val g m) from ⟨m, g, hu, cg, rfl⟩)
    have HLf := Lib.hid lf
    have HLg := Lib.hid lg
    rw [HE.out, HL.out] at HWt
    generalize wgF K (U' : Int) (d : Int) Y = W at *
    obtain ⟨A, n', c, rfl⟩ : ∃ A n c, v = .slice A n c := by obtain ⟨A, c, h, _⟩ := hv; exact ⟨_, _, _, h⟩
    obtain ⟨A2, m', c2, rfl⟩ : ∃ A n c, u = .slice A n c := by obtain ⟨A, c, h, _⟩ := hu; exact ⟨_, _, _, h⟩
    clear hv hu hf hg hal hs hy hy6 cf cg lf lg hlt
    go_enter Tryz.func27, Tryz.ntmps27
    go_wp2_with (refine wp_load_whole rfl 29 _ rfl w.heap.size rfl 29 20 _ _ _ HS.out rfl (st_cs _ _ _ _ _) Tryz.underlying29 rfl st_size ?_)
    refine HWt.out.mono ?_
    rintro e w1 ⟨sl, rfl, hr, hB1⟩
    have HS1 := Lib.hid (HS.out.of_block (hB1.block _ HS.out.lt))
    have HB1 := Lib.hid (below_then HA.out hB1)
    have HM := Lib.hid (rnamedof_any U' d (val f n) (val g m) K (.slice A n' c) (.slice A2 m' c2) W sl w1 hr (fun j _ => HD.out j) (HNv.out.below HB1.out) (HNu.out.below HB1.out) HLf.out HLg.out hU2 hU16 hd1 hd)
    obtain ⟨As, ns, cs, rfl⟩ : ∃ A n c, sl = .slice A n c := by obtain ⟨A, c, h, _⟩ := hr; exact ⟨_, _, _, h⟩
    clear hr hB1
    go_wp2_with (refine wp_load_whole rfl 29 _ rfl w.heap.size rfl 29 20 _ _ _ HS1.out rfl (st_cs _ _ _ _ _) Tryz.underlying29 rfl st_size ?_)
    refine HM.out.mono ?_
    rintro e w2 ⟨sl2, rfl, hr, hB2⟩
    have HR := Lib.hid hr
    have HB2 := Lib.hid (below_then HB1.out hB2)
    obtain ⟨As2, ns2, cs2, rfl⟩ : ∃ A n c, sl2 = .slice A n c := by obtain ⟨A, c, h, _⟩ := hr; exact ⟨_, _, _, h⟩
    clear hr hB2
    go_wp2
    go_ret2
    exact ⟨_, by rw [HE.out]; rfl, by rw [HO.out]; exact HR.out, HB2.out⟩
  · have HO : Hid (nmO K U Bk n f m g N Y = []) := nmO_no hs
    obtain ⟨E, hE⟩ : ∃ E, E = skE U Bk n f m g N Y := ⟨_, rfl⟩
    have hE0 : E ≠ 0 := by
      rw [hE]
      unfold skE
      by_cases h1 : VSt U Bk n f m g
      · rw [tt_pos h1, if_pos rfl, tt_neg (fun h2 => hs ⟨h1, h2⟩)]; decide
      · rw [tt_neg h1, if_neg (by simp)]; decide
    have hEb : (E != 0) = true := by rw [bne_iff_ne]; exact hE0
    rw [← hE] at HWt ⊢
    obtain ⟨A, n', c, rfl⟩ : ∃ A n c, v = .slice A n c := by obtain ⟨A, c, h, _⟩ := hv; exact ⟨_, _, _, h⟩
    obtain ⟨A2, m', c2, rfl⟩ : ∃ A n c, u = .slice A n c := by obtain ⟨A, c, h, _⟩ := hu; exact ⟨_, _, _, h⟩
    clear hv hu hf hg hal hs hy hy6 hE hE0
    go_enter Tryz.func27, Tryz.ntmps27
    go_wp2_with (refine wp_load_whole rfl 29 _ rfl w.heap.size rfl 29 20 _ _ _ HS.out rfl (st_cs _ _ _ _ _) Tryz.underlying29 rfl st_size ?_)
    refine HWt.out.mono ?_
    rintro e w1 ⟨sl, rfl, hr, hB1⟩
    have HB1 := Lib.hid (below_then HA.out hB1)
    obtain ⟨As, ns, cs, rfl⟩ : ∃ A n c, sl = .slice A n c := by obtain ⟨A, c, h, _⟩ := hr; exact ⟨_, _, _, h⟩
    clear hr hB1
    go_wp2
    go_ret2
    exact ⟨_, rfl, by rw [HO.out]; exact RdV.nil _ _, HB1.out⟩
end Go.Proofs.YtmbokpfgnicboaaGreat
