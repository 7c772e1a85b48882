import Derived.Test.YtmbokpfgnicboaaGreatVa
import Derived.Test.YtmbokpfgnicboaaGreatNamed
set_option linter.unusedVariables false
set_option linter.unusedSimpArgs false
/- The walk of the law CodeComplete. -/
namespace Go.Proofs.YtmbokpfgnicboaaGreat
open Go.RowKit Go.Hd Go.Sort _root_.Hd
set_option exponentiation.threshold 2000

set_option maxRecDepth 100000 in
set_option maxHeartbeats 4000000 in
theorem law17 (U Bk : Int) (K : Nat → Nat) (n m : Nat) (f g : Nat → Nat) (v u : Value) (N : Nat) (Y : Nat → Nat) (ys : Value) (w : World) (hv : Rd w .u32 v n f) (hu : Rd w .u32 u m g) (hf : ∀ j, j < n → f j < B) (hg : ∀ j, j < m → g j < B) (hK : Kb K) (hy : Rd w .u8 ys N Y) (hy6 : ∀ j, j < N → Y j < 256) :
    Calls Tryz.prog 17 #[stV U Bk K v u, ys] w fun e w' => e = .returned (.bool true) ∧ Below w.heap.size w w' := by
  have HB := Lib.hid ((Below.refl _ w).alloc (Nat.le_refl _) (.cells #[.int .i64 U, .int .i64 Bk, .int .u8 (K 0), .int .u8 (K 1), .int .u8 (K 2), .int .u8 (K 3), .int .u8 (K 4), .int .u8 (K 5), .int .u8 (K 6), .int .u8 (K 7), .int .u8 (K 8), .int .u8 (K 9), .int .u8 (K 10), .int .u8 (K 11), .int .u8 (K 12), .int .u8 (K 13), .int .u8 (K 14), .int .u8 (K 15), v, u] 29))
  have HS := Lib.hid (st_row w U Bk K v u 29)
  have HC := Lib.hid (fun W (h : Below w.heap.size w W) => complete_any U Bk K n m f g v u W (hv.below h) (hu.below h) hf hg)
  have HV := Lib.hid (fun W (h : Below w.heap.size w W) => rvalidsteps_any U Bk K n m f g v u W (hv.below h) (hu.below h) hf hg)
  have HT := Lib.hid (fun W (h : Below w.heap.size w W) => traceE_any U Bk n m K f g N Y v u ys W (hv.below h) (hu.below h) hf hg hK (hy.below h) hy6)
  have HY := Lib.hid hy
  by_cases hs : VSt U Bk n f m g
  · obtain ⟨d, rfl, hd1, hd, _⟩ := vst_facts hs hf hg
    obtain ⟨U', rfl⟩ := Int.eq_ofNat_of_zero_le (show 0 ≤ U by have := hs.1; omega)
    have hU2 : 2 ≤ U' := by have := hs.1; omega
    have hU16 : U' ≤ 16 := by have := hs.2.1; omega
    rw [tt_pos hs] at HV
    rw [spE_yes hs] at HC
    have HVs := Lib.hid hs
    have hNU : (U' - 1) * d ≤ 15 * 64 := Nat.mul_le_mul (by omega) hd
    have hNI : ((U' : Int) - 1) * (d : Int) = (((U' - 1) * d : Nat) : Int) := by rw [Int.natCast_mul, show ((U' - 1 : Nat) : Int) = (U' : Int) - 1 by omega]
    have hw2 : IntKind.i64.wrap (((U' : Int) - 1) * (d : Int)) = (((U' - 1) * d : Nat) : Int) := by rw [hNI, IntKind.wrap_i64]; omega
    have hw3 : IntKind.i64.wrap (((U' - 1) * d : Nat) : Int) = (((U' - 1) * d : Nat) : Int) := by rw [IntKind.wrap_i64]; omega
    obtain ⟨Ay, Ny, cy, rfl⟩ : ∃ A n c, ys = .slice A n c := by obtain ⟨A, c, h, _⟩ := hy; exact ⟨_, _, _, h⟩
    have HRc := Lib.hid (fun W (h : Below w.heap.size w W) => refIsCopy_any N Y (.slice Ay Ny cy) ((U' - 1) * d) W (HY.out.below h))
    obtain ⟨A, n', c, rfl⟩ : ∃ A n c, v = .slice A n c := by obtain ⟨A, c, h, _⟩ := hv; exact ⟨_, _, _, h⟩
    obtain ⟨A2, m', c2, rfl⟩ : ∃ A n c, u = .slice A n c := by obtain ⟨A, c, h, _⟩ := hu; exact ⟨_, _, _, h⟩
    clear hv hu hf hg hs hy hy6
    by_cases hc : IsC N Y ((U' - 1) * d)
    · rw [tt_pos hc] at HRc
      have HOk : SkOk (U' : Int) (d : Int) n f m g N Y := ⟨HVs.out, by rw [Int.toNat_natCast, Int.toNat_natCast]; exact hc⟩
      have e1 : nmO K (U' : Int) (d : Int) n f m g N Y = (List.range U').filter (nmd U' d (val f n) (val g m) (wgF K (U' : Int) (d : Int) Y)) := by
        unfold nmO
        rw [tt_pos HOk, if_pos rfl, Int.toNat_natCast, Int.toNat_natCast]
        rfl
      have HX : Hid (coP (U' : Int) (d : Int) n f m g = true → 0 < (nmO K (U' : Int) (d : Int) n f m g N Y).length) := fun h => by
        unfold coP at h
        have h2 := (tt_iff.1 h).2
        rw [Int.toNat_natCast, show ((U' : Int) - 2).toNat = U' - 2 by omega] at h2
        have h3 := nmL_some (W := wgF K (U' : Int) (d : Int) Y) hU2 (fun b => by unfold wgF; rw [Int.toNat_natCast]; exact wts_d (by omega) _ _) h2
        rw [e1]
        exact List.length_pos_iff.2 h3
      have HM : Hid (∀ j, j < (nmO K (U' : Int) (d : Int) n f m g N Y).length → (nmO K (U' : Int) (d : Int) n f m g N Y).getD j 0 < U') := fun j hj => by
        rw [e1] at hj ⊢
        exact (flt_mem hj).1
      have HUp : Hid (∀ j, j + 1 < (nmO K (U' : Int) (d : Int) n f m g N Y).length → (nmO K (U' : Int) (d : Int) n f m g N Y).getD j 0 < (nmO K (U' : Int) (d : Int) n f m g N Y).getD (j + 1) 0) := fun j hj => by
        rw [e1] at hj ⊢
        exact flt_up hj
      have HL : Hid ((nmO K (U' : Int) (d : Int) n f m g N Y).length ≤ U') := by
        show _ ≤ _
        rw [e1]
        exact nmL_len _ _ _ _ _ _
      rw [skE_ok HOk] at HT
      clear hc HOk e1
      generalize nmO K (U' : Int) (d : Int) n f m g N Y = L at *
      generalize coP (U' : Int) (d : Int) n f m g = P at *
      generalize hM0 : (U' - 1) * d = M at *
      clear hM0 HVs HY
      go_enter Tryz.func17, Tryz.ntmps17
      go_wp2_with fail
      refine (alive_any _).mono ?_
      rintro e w1 ⟨rfl, hB⟩
      replace HB := Lib.hid (below_then HB.out hB); replace HS := Lib.hid (HS.out.of_block (hB.block _ HS.out.lt)); clear hB
      go_wp2_with (refine wp_load_whole rfl 29 _ rfl w.heap.size rfl 29 20 _ _ _ HS.out rfl (st_cs _ _ _ _ _) Tryz.underlying29 rfl st_size ?_)
      refine (HC.out _ HB.out).mono ?_
      rintro e w2 ⟨rfl, hB⟩
      replace HB := Lib.hid (below_then HB.out hB); replace HS := Lib.hid (HS.out.of_block (hB.block _ HS.out.lt)); clear hB
      go_wp2_with (refine wp_load_whole rfl 29 _ rfl w.heap.size rfl 29 20 _ _ _ HS.out rfl (st_cs _ _ _ _ _) Tryz.underlying29 rfl st_size ?_)
      refine (HV.out _ HB.out).mono ?_
      rintro e w3 ⟨rfl, hB⟩
      replace HB := Lib.hid (below_then HB.out hB); replace HS := Lib.hid (HS.out.of_block (hB.block _ HS.out.lt)); clear hB
      have k0 := st_c0 HS.out
      have k1 := st_c1 HS.out
      go_wp2_with fail
      refine (HRc.out _ HB.out).mono ?_
      rintro e w4 ⟨rfl, rfl⟩
      go_wp2_with (refine wp_load_whole rfl 29 _ rfl w.heap.size rfl 29 20 _ _ _ HS.out rfl (st_cs _ _ _ _ _) Tryz.underlying29 rfl st_size ?_)
      refine (HT.out _ HB.out).mono ?_
      rintro e w5 ⟨sl, rfl, hl, hB⟩
      replace HB := Lib.hid (below_then HB.out hB); replace HS := Lib.hid (HS.out.of_block (hB.block _ HS.out.lt)); clear hB
      clear k0 k1 HC HV HRc HT
      obtain ⟨Al, cl, rfl, h1, h2, h3⟩ := hl
      have H3 := Lib.hid h3
      have hLm : L.length ≤ 1000 := by have := HL.out; omega
      have HLm := Lib.hid hLm
      have k0 := st_c0 HS.out
      have K0 := Lib.hid k0
      clear h1 h2 h3 k0
      go_wp2_with fail
      generalize Value.agg #[.int .i64 (U' : Int), .int .i64 (d : Int), .int .u8 (K 0), .int .u8 (K 1), .int .u8 (K 2), .int .u8 (K 3), .int .u8 (K 4), .int .u8 (K 5), .int .u8 (K 6), .int .u8 (K 7), .int .u8 (K 8), .int .u8 (K 9), .int .u8 (K 10), .int .u8 (K 11), .int .u8 (K 12), .int .u8 (K 13), .int .u8 (K 14), .int .u8 (K 15), (.slice A n' c), (.slice A2 m' c2)] = z1
      go_loopw [10] (fun s10 wr => ∃ i : Nat, i ≤ L.length ∧ s10 = .int .i64 i ∧ Below w5.heap.size w5 wr) (fun s10 _ => L.length - (intOf s10).toNat)
      case atStart => exact ⟨0, Nat.zero_le _, rfl, Below.refl _ _⟩
      case round =>
        obtain ⟨i, hi, rfl, hbel⟩ := hrel
        obtain ⟨W0, rfl⟩ : ∃ W0 : World, W0 = wr := ⟨_, rfl⟩
        have HBr := Lib.hid hbel
        clear hbel
        by_cases hlt : i < L.length
        · obtain ⟨b, off, rfl, hc⟩ := H3.out (by omega)
          have q0 := cell_below HBr.out K0.out
          have c1 := cell_below HBr.out (hc i hlt)
          have hm1 := HM.out i hlt
          rcases Nat.eq_zero_or_pos i with hi0 | hi0
          · subst hi0
            rw [Nat.add_zero] at c1
            clear hc
            generalize L.getD 0 0 = x at *
            have t1 : decide ((x : Int) < 0) = false := decide_eq_false (by omega)
            have t2 : decide ((U' : Int) ≤ (x : Int)) = false := decide_eq_false (by omega)
            have t2' : decide (U' ≤ x) = false := decide_eq_false (by omega)
            go_wp2_with fail
            go_big_quiet (fail)
            go_wp2
            go_roundw
            case rel => exact ⟨1, by omega, by go_num, below_drewN HBr.out _⟩
            case measure => simp [intOf]; omega
          · obtain ⟨i, rfl⟩ : ∃ k, i = k + 1 := ⟨i - 1, by omega⟩
            have c2 := cell_below HBr.out (hc i (by omega))
            have hup := HUp.out i hlt
            have hix : ((i + 1 : Nat) : Int) - 1 = (i : Int) := by omega
            clear hc
            generalize L.getD (i + 1) 0 = x at *
            generalize L.getD i 0 = y at *
            have t1 : decide ((x : Int) < 0) = false := decide_eq_false (by omega)
            have t2 : decide ((U' : Int) ≤ (x : Int)) = false := decide_eq_false (by omega)
            have t2' : decide (U' ≤ x) = false := decide_eq_false (by omega)
            have t3 : decide ((x : Int) ≤ (y : Int)) = false := decide_eq_false (by omega)
            have t3' : decide (x ≤ y) = false := decide_eq_false (by omega)
            have t4 : decide (((i + 1 : Nat) : Int) > 0) = true := decide_eq_true (by omega)
            go_wp2_with fail
            go_big_quiet (fail)
            go_wp2
            go_roundw
            case rel => exact ⟨i + 1 + 1, by omega, by go_num, below_drewN HBr.out _⟩
            case measure => simp [intOf]; omega
        · obtain rfl : i = L.length := by omega
          cases P with
          | true =>
            have hx := HX.out rfl
            go_wp2_with fail
            go_ret
            exact ⟨by simp [hx], below_then HB.out HBr.out⟩
          | false =>
            go_wp2_with fail
            go_ret
            exact ⟨rfl, below_then HB.out HBr.out⟩
    · rw [tt_neg hc] at HRc
      clear hc HVs HT HY
      generalize coP (U' : Int) (d : Int) n f m g = P at *
      generalize (U' - 1) * d = M at *
      go_enter Tryz.func17, Tryz.ntmps17
      go_wp2_with fail
      refine (alive_any _).mono ?_
      rintro e w1 ⟨rfl, hB⟩
      replace HB := Lib.hid (below_then HB.out hB); replace HS := Lib.hid (HS.out.of_block (hB.block _ HS.out.lt)); clear hB
      go_wp2_with (refine wp_load_whole rfl 29 _ rfl w.heap.size rfl 29 20 _ _ _ HS.out rfl (st_cs _ _ _ _ _) Tryz.underlying29 rfl st_size ?_)
      refine (HC.out _ HB.out).mono ?_
      rintro e w2 ⟨rfl, hB⟩
      replace HB := Lib.hid (below_then HB.out hB); replace HS := Lib.hid (HS.out.of_block (hB.block _ HS.out.lt)); clear hB
      go_wp2_with (refine wp_load_whole rfl 29 _ rfl w.heap.size rfl 29 20 _ _ _ HS.out rfl (st_cs _ _ _ _ _) Tryz.underlying29 rfl st_size ?_)
      refine (HV.out _ HB.out).mono ?_
      rintro e w3 ⟨rfl, hB⟩
      replace HB := Lib.hid (below_then HB.out hB); replace HS := Lib.hid (HS.out.of_block (hB.block _ HS.out.lt)); clear hB
      have k0 := st_c0 HS.out
      have k1 := st_c1 HS.out
      go_wp2_with fail
      refine (HRc.out _ HB.out).mono ?_
      rintro e w4 ⟨rfl, rfl⟩
      go_wp2_with fail
      go_ret
      exact ⟨rfl, HB.out⟩
  · rw [tt_neg hs] at HV
    rw [spE_no hs] at HC
    obtain ⟨Ay, Ny, cy, rfl⟩ : ∃ A n c, ys = .slice A n c := by obtain ⟨A, c, h, _⟩ := hy; exact ⟨_, _, _, h⟩
    obtain ⟨A, n', c, rfl⟩ : ∃ A n c, v = .slice A n c := by obtain ⟨A, c, h, _⟩ := hv; exact ⟨_, _, _, h⟩
    obtain ⟨A2, m', c2, rfl⟩ : ∃ A n c, u = .slice A n c := by obtain ⟨A, c, h, _⟩ := hu; exact ⟨_, _, _, h⟩
    clear hs HT HY hv hu hf hg hy hy6
    generalize coP U Bk n f m g = P at *
    go_enter Tryz.func17, Tryz.ntmps17
    go_wp2_with fail
    refine (alive_any _).mono ?_
    rintro e w1 ⟨rfl, hB⟩
    replace HB := Lib.hid (below_then HB.out hB); replace HS := Lib.hid (HS.out.of_block (hB.block _ HS.out.lt)); clear hB
    go_wp2_with (refine wp_load_whole rfl 29 _ rfl w.heap.size rfl 29 20 _ _ _ HS.out rfl (st_cs _ _ _ _ _) Tryz.underlying29 rfl st_size ?_)
    refine (HC.out _ HB.out).mono ?_
    rintro e w2 ⟨rfl, hB⟩
    replace HB := Lib.hid (below_then HB.out hB); replace HS := Lib.hid (HS.out.of_block (hB.block _ HS.out.lt)); clear hB
    go_wp2_with (refine wp_load_whole rfl 29 _ rfl w.heap.size rfl 29 20 _ _ _ HS.out rfl (st_cs _ _ _ _ _) Tryz.underlying29 rfl st_size ?_)
    refine (HV.out _ HB.out).mono ?_
    rintro e w3 ⟨rfl, hB⟩
    replace HB := Lib.hid (below_then HB.out hB); replace HS := Lib.hid (HS.out.of_block (hB.block _ HS.out.lt)); clear hB
    go_wp2_with fail
    go_ret
    exact ⟨rfl, HB.out⟩
end Go.Proofs.YtmbokpfgnicboaaGreat
