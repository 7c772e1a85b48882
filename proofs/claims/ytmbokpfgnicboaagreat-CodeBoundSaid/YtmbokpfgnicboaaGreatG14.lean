import Derived.Test.YtmbokpfgnicboaaGreatV3
set_option linter.unusedVariables false
set_option linter.unusedSimpArgs false
/- The walk of the law CodeBound. -/
namespace Go.Proofs.YtmbokpfgnicboaaGreat
open Go.RowKit Go.Hd Go.Sort _root_.Hd
set_option exponentiation.threshold 2000

set_option maxRecDepth 100000 in
set_option maxHeartbeats 8000000 in
theorem law14 (U Bs : Int) (v : Value) (K : Nat → Nat) (n : Nat) (a : Nat → Int) (N : Nat) (Y : Nat → Nat) (ys : Value) (n1 m1 : Nat) (f g : Nat → Nat) (lv lu : Value) (z : Int) (w : World) (h : RdV w v n (fun j => .int .i64 (a j))) (hy : Rd w .u8 ys N Y) (hy6 : ∀ j, j < N → Y j < 256) (hlv : Rd w .u32 lv n1 f) (hlu : Rd w .u32 lu m1 g) (hf : ∀ j, j < n1 → f j < B) (hg : ∀ j, j < m1 → g j < B) :
    Calls Tryz.prog 14 #[scV U Bs v K, ys, .agg #[lv, lu], .int .i64 z] w fun e w' => e = .returned (.bool true) ∧ Below w.heap.size w w' := by
  have HB : Hid (Below w.heap.size w ((w.alloc (.cells #[.int .i64 U, .int .i64 Bs, v, .int .u8 (K 0), .int .u8 (K 1), .int .u8 (K 2), .int .u8 (K 3), .int .u8 (K 4), .int .u8 (K 5), .int .u8 (K 6), .int .u8 (K 7), .int .u8 (K 8), .int .u8 (K 9), .int .u8 (K 10), .int .u8 (K 11), .int .u8 (K 12), .int .u8 (K 13), .int .u8 (K 14), .int .u8 (K 15)] 46)).alloc (.cells #[lv, lu] 27))) := ((Below.refl _ _).alloc (Nat.le_refl _) _).alloc (by simp) _
  have HS : Hid (((w.alloc (.cells #[.int .i64 U, .int .i64 Bs, v, .int .u8 (K 0), .int .u8 (K 1), .int .u8 (K 2), .int .u8 (K 3), .int .u8 (K 4), .int .u8 (K 5), .int .u8 (K 6), .int .u8 (K 7), .int .u8 (K 8), .int .u8 (K 9), .int .u8 (K 10), .int .u8 (K 11), .int .u8 (K 12), .int .u8 (K 13), .int .u8 (K 14), .int .u8 (K 15)] 46)).alloc (.cells #[lv, lu] 27)).rowIs w.heap.size 46 19 (scF U Bs v K)) := (sc_row w U Bs v K 46).alloc _
  have HR : Hid (((w.alloc (.cells #[.int .i64 U, .int .i64 Bs, v, .int .u8 (K 0), .int .u8 (K 1), .int .u8 (K 2), .int .u8 (K 3), .int .u8 (K 4), .int .u8 (K 5), .int .u8 (K 6), .int .u8 (K 7), .int .u8 (K 8), .int .u8 (K 9), .int .u8 (K 10), .int .u8 (K 11), .int .u8 (K 12), .int .u8 (K 13), .int .u8 (K 14), .int .u8 (K 15)] 46)).alloc (.cells #[lv, lu] 27)).rowIs (w.heap.size + 1) 27 2 (fun i => if i = 0 then lv else lu)) := by
    have h := row2 (w.alloc (.cells #[.int .i64 U, .int .i64 Bs, v, .int .u8 (K 0), .int .u8 (K 1), .int .u8 (K 2), .int .u8 (K 3), .int .u8 (K 4), .int .u8 (K 5), .int .u8 (K 6), .int .u8 (K 7), .int .u8 (K 8), .int .u8 (K 9), .int .u8 (K 10), .int .u8 (K 11), .int .u8 (K 12), .int .u8 (K 13), .int .u8 (K 14), .int .u8 (K 15)] 46)) lv lu 27
    rw [World.size_alloc] at h
    exact h
  have HBo := Lib.hid (fun W (hb : Below w.heap.size w W) => boundE_any U Bs v K n a N Y ys n1 m1 f g lv lu W (h.below hb) (hy.below hb) hy6 (hlv.below hb) (hlu.below hb) hf hg)
  have HV := Lib.hid (fun W (hb : Below w.heap.size w W) => validScores_any U Bs v K n a W (h.below hb))
  have HI := Lib.hid (fun W (hb : Below w.heap.size w W) => refIsCopy_any N Y ys n W (hy.below hb))
  have HL := Lib.hid (fun W (hb : Below w.heap.size w W) => rislimit_any n1 m1 f g lv lu W (hlv.below hb) (hlu.below hb) hf hg)
  have HCh := Lib.hid (fun z W (hb : Below w.heap.size w W) => chanceE_any U Bs v K n a N Y ys z W (h.below hb) (hy.below hb) hy6)
  have HCp := Lib.hid (fun (hok : ScOk U Bs n a N Y) (hl : VL n1 f m1 g) z v' u' W (hb : Below w.heap.size w W) (h1 : Nt W v' (chM U Bs n a N Y z)) (h2 : Nt W u' (chD U Bs n a N Y z)) => compareCh hok z n1 m1 f g v' u' lv lu W h1 h2 (hlv.below hb) (hlu.below hb) hf hg hl)
  have hnl : n ≤ 9223372036854775807 := by obtain ⟨_, _, _, h1, h2, _⟩ := h; unfold maxLen at h2; omega
  obtain ⟨A, cp, rfl⟩ : ∃ A c, v = .slice A n c := by obtain ⟨A, c, h, _⟩ := h; exact ⟨_, _, h⟩
  obtain ⟨A1, c1, rfl⟩ : ∃ A c, ys = .slice A N c := by obtain ⟨A, c, h, _⟩ := hy; exact ⟨_, _, h⟩
  obtain ⟨A2, c2, rfl⟩ : ∃ A c, lv = .slice A n1 c := by obtain ⟨A, c, h, _⟩ := hlv; exact ⟨_, _, h⟩
  obtain ⟨A3, c3, rfl⟩ : ∃ A c, lu = .slice A m1 c := by obtain ⟨A, c, h, _⟩ := hlu; exact ⟨_, _, h⟩
  clear h hy hy6 hlv hlu hf hg

  by_cases hs : VS U Bs n a
  · rw [tt_pos hs] at HV
    by_cases hc : IsC N Y n
    · rw [tt_pos hc] at HI
      have hok : ScOk U Bs n a N Y := ⟨hs, hc⟩
      by_cases hl : VL n1 f m1 g
      · rw [tt_pos hl] at HL
        obtain ⟨b, hb, hb1, hb2⟩ := bnd_ex hok hl.2.2.2
        rw [boE_ok hok hl, boZ_ok hok hl, bdZ_eq hb] at HBo
        rw [chE_ok hok] at HCh
        have hP : ord (tl (scC Bs n a Y) 2048 b * val g m1) (val f n1 * scA Bs n) ≤ 0 := ord_nonpos.2 hb.1
        have hQ : 0 < ord (tl (scC Bs n a Y) 2048 (b - 1) * val g m1) (val f n1 * scA Bs n) := by
          have h1 := hb.2
          exact Int.not_le.1 (fun k => h1 (ord_nonpos.1 k))
        have hT : 0 ≤ ord (tl (scC Bs n a Y) 2048 z) (tl (scC Bs n a Y) 2048 (z + 1)) := by
          have h1 := tl_anti (scC Bs n a Y) 2048 (show z ≤ z + 1 by omega)
          exact Int.not_lt.1 (fun k => Nat.lt_irrefl _ (Nat.lt_of_lt_of_le (ord_neg.1 k) h1))
        have HC1 := Lib.hid (HCp.out hok hl b)
        have HC2 := Lib.hid (HCp.out hok hl (b - 1))
        have HC3 := Lib.hid (fun v1 u1 v2 u2 W => compareChs hok z (z + 1) v1 u1 v2 u2 W)
        generalize ord (tl (scC Bs n a Y) 2048 b * val g m1) (val f n1 * scA Bs n) = o1 at *
        generalize ord (tl (scC Bs n a Y) 2048 (b - 1) * val g m1) (val f n1 * scA Bs n) = o2 at *
        generalize ord (tl (scC Bs n a Y) 2048 z) (tl (scC Bs n a Y) 2048 (z + 1)) = o3 at *
        clear HCp hok hl hs hc hb
        go_enter Tryz.func14, Tryz.ntmps14
        go_wp2_with fail
        refine (alive_any _).mono ?_
        rintro e w1 ⟨rfl, hB⟩
        replace HB := Lib.hid (below_then HB.out hB); replace HS := Lib.hid (HS.out.of_block (hB.block _ HS.out.lt)); replace HR := Lib.hid (HR.out.of_block (hB.block _ HR.out.lt)); clear hB
        have r0 := fr_c0 HR.out
        have r1 := fr_c1 HR.out
        go_wp2_with (refine wp_load_whole rfl 46 _ rfl w.heap.size rfl 46 19 _ _ _ HS.out rfl (sc_cs _ _ _ _) Tryz.underlying46 rfl sc_size ?_)
        refine (HBo.out _ HB.out).mono ?_
        rintro e w2 ⟨rfl, hB⟩
        replace HB := Lib.hid (below_then HB.out hB); replace HS := Lib.hid (HS.out.of_block (hB.block _ HS.out.lt)); replace HR := Lib.hid (HR.out.of_block (hB.block _ HR.out.lt)); clear hB
        have r0 := fr_c0 HR.out
        have r1 := fr_c1 HR.out
        go_wp2_with (refine wp_load_whole rfl 46 _ rfl w.heap.size rfl 46 19 _ _ _ HS.out rfl (sc_cs _ _ _ _) Tryz.underlying46 rfl sc_size ?_)
        refine (HV.out _ HB.out).mono ?_
        rintro e w3 ⟨rfl, hB⟩
        replace HB := Lib.hid (below_then HB.out hB); replace HS := Lib.hid (HS.out.of_block (hB.block _ HS.out.lt)); replace HR := Lib.hid (HR.out.of_block (hB.block _ HR.out.lt)); clear hB
        have q2 := sc_c2 HS.out
        have r0 := fr_c0 HR.out
        have r1 := fr_c1 HR.out
        go_wp2_with fail
        refine (HI.out _ HB.out).mono ?_
        rintro e w4 ⟨rfl, rfl⟩
        go_wp2_with fail
        refine (HL.out _ HB.out).mono ?_
        rintro e w4 ⟨rfl, hB⟩
        replace HB := Lib.hid (below_then HB.out hB); replace HS := Lib.hid (HS.out.of_block (hB.block _ HS.out.lt)); replace HR := Lib.hid (HR.out.of_block (hB.block _ HR.out.lt)); clear hB
        go_wp2_with (refine wp_load_whole rfl 46 _ rfl w.heap.size rfl 46 19 _ _ _ HS.out rfl (sc_cs _ _ _ _) Tryz.underlying46 rfl sc_size ?_)
        refine (HCh.out b _ HB.out).mono ?_
        rintro e w5 ⟨v5, u5, rfl, hN, hM, hB⟩
        replace HB := Lib.hid (below_then HB.out hB); replace HS := Lib.hid (HS.out.of_block (hB.block _ HS.out.lt)); replace HR := Lib.hid (HR.out.of_block (hB.block _ HR.out.lt)); clear hB
        have hal := (Below.refl _ w5).alloc (Nat.le_refl _) (.cells #[v5, u5] 27)
        have HN1 := Lib.hid (hN.below hal)
        have HM1 := Lib.hid (hM.below hal)
        have HQ1 := Lib.hid (row2 w5 v5 u5 27)
        replace HB := Lib.hid (below_then HB.out hal); replace HS := Lib.hid (HS.out.of_block (hal.block _ HS.out.lt)); replace HR := Lib.hid (HR.out.of_block (hal.block _ HR.out.lt)); clear hal
        obtain ⟨Av5, nv5, cv5, rfl⟩ := hN.shape
        obtain ⟨Au5, nu5, cu5, rfl⟩ := hM.shape
        clear hN hM
        go_wp2_with (refine wp_load_whole rfl 46 _ rfl w.heap.size rfl 46 19 _ _ _ HS.out rfl (sc_cs _ _ _ _) Tryz.underlying46 rfl sc_size ?_)
        refine (HCh.out (b - 1) _ HB.out).mono ?_
        rintro e w6 ⟨v6, u6, rfl, hN, hM, hB⟩
        replace HB := Lib.hid (below_then HB.out hB); replace HS := Lib.hid (HS.out.of_block (hB.block _ HS.out.lt)); replace HR := Lib.hid (HR.out.of_block (hB.block _ HR.out.lt)); replace HQ1 := Lib.hid (HQ1.out.of_block (hB.block _ HQ1.out.lt)); replace HN1 := Lib.hid (HN1.out.below hB); replace HM1 := Lib.hid (HM1.out.below hB); clear hB
        have hal := (Below.refl _ w6).alloc (Nat.le_refl _) (.cells #[v6, u6] 27)
        have HN2 := Lib.hid (hN.below hal)
        have HM2 := Lib.hid (hM.below hal)
        have HQ2 := Lib.hid (row2 w6 v6 u6 27)
        replace HB := Lib.hid (below_then HB.out hal); replace HS := Lib.hid (HS.out.of_block (hal.block _ HS.out.lt)); replace HR := Lib.hid (HR.out.of_block (hal.block _ HR.out.lt)); replace HQ1 := Lib.hid (HQ1.out.of_block (hal.block _ HQ1.out.lt)); replace HN1 := Lib.hid (HN1.out.below hal); replace HM1 := Lib.hid (HM1.out.below hal); clear hal
        obtain ⟨Av6, nv6, cv6, rfl⟩ := hN.shape
        obtain ⟨Au6, nu6, cu6, rfl⟩ := hM.shape
        clear hN hM
        have r0 := fr_c0 HR.out
        have r1 := fr_c1 HR.out
        have q0 := fr_c0 HQ1.out
        have q1 := fr_c1 HQ1.out
        go_wp2_with fail
        refine (HC1.out _ _ _ HB.out HN1.out HM1.out).mono ?_
        rintro e w7 ⟨rfl, hB⟩
        replace HB := Lib.hid (below_then HB.out hB); replace HS := Lib.hid (HS.out.of_block (hB.block _ HS.out.lt)); replace HR := Lib.hid (HR.out.of_block (hB.block _ HR.out.lt)); replace HQ2 := Lib.hid (HQ2.out.of_block (hB.block _ HQ2.out.lt)); replace HN2 := Lib.hid (HN2.out.below hB); replace HM2 := Lib.hid (HM2.out.below hB); clear hB
        have r0 := fr_c0 HR.out
        have r1 := fr_c1 HR.out
        have q0 := fr_c0 HQ2.out
        have q1 := fr_c1 HQ2.out
        go_wp2_with fail
        refine (HC2.out _ _ _ HB.out HN2.out HM2.out).mono ?_
        rintro e w8 ⟨rfl, hB⟩
        replace HB := Lib.hid (below_then HB.out hB); replace HS := Lib.hid (HS.out.of_block (hB.block _ HS.out.lt)); clear hB
        clear HC1 HC2 HBo HI HL HV HN1 HM1 HN2 HM2
        by_cases hz1 : 1152921504606846976 < z
        · go_wp2_with fail
          go_ret
          exact ⟨rfl, HB.out⟩
        · by_cases hz2 : z < -1152921504606846976
          · go_wp2_with fail
            go_ret
            exact ⟨rfl, HB.out⟩
          · skip
            go_wp2_with (refine wp_load_whole rfl 46 _ rfl w.heap.size rfl 46 19 _ _ _ HS.out rfl (sc_cs _ _ _ _) Tryz.underlying46 rfl sc_size ?_)
            refine (HCh.out z _ HB.out).mono ?_
            rintro e w9 ⟨v9, u9, rfl, hN, hM, hB⟩
            replace HB := Lib.hid (below_then HB.out hB); replace HS := Lib.hid (HS.out.of_block (hB.block _ HS.out.lt)); clear hB
            have hal := (Below.refl _ w9).alloc (Nat.le_refl _) (.cells #[v9, u9] 27)
            have HN3 := Lib.hid (hN.below hal)
            have HM3 := Lib.hid (hM.below hal)
            have HQ3 := Lib.hid (row2 w9 v9 u9 27)
            replace HB := Lib.hid (below_then HB.out hal); replace HS := Lib.hid (HS.out.of_block (hal.block _ HS.out.lt)); clear hal
            obtain ⟨Av9, nv9, cv9, rfl⟩ := hN.shape
            obtain ⟨Au9, nu9, cu9, rfl⟩ := hM.shape
            clear hN hM
            go_wp2_with (refine wp_load_whole rfl 46 _ rfl w.heap.size rfl 46 19 _ _ _ HS.out rfl (sc_cs _ _ _ _) Tryz.underlying46 rfl sc_size ?_)
            refine (HCh.out (z + 1) _ HB.out).mono ?_
            rintro e w10 ⟨v10, u10, rfl, hN, hM, hB⟩
            replace HB := Lib.hid (below_then HB.out hB); replace HS := Lib.hid (HS.out.of_block (hB.block _ HS.out.lt)); replace HQ3 := Lib.hid (HQ3.out.of_block (hB.block _ HQ3.out.lt)); replace HN3 := Lib.hid (HN3.out.below hB); replace HM3 := Lib.hid (HM3.out.below hB); clear hB
            have hal := (Below.refl _ w10).alloc (Nat.le_refl _) (.cells #[v10, u10] 27)
            have HN4 := Lib.hid (hN.below hal)
            have HM4 := Lib.hid (hM.below hal)
            have HQ4 := Lib.hid (row2 w10 v10 u10 27)
            replace HB := Lib.hid (below_then HB.out hal); replace HS := Lib.hid (HS.out.of_block (hal.block _ HS.out.lt)); replace HQ3 := Lib.hid (HQ3.out.of_block (hal.block _ HQ3.out.lt)); replace HN3 := Lib.hid (HN3.out.below hal); replace HM3 := Lib.hid (HM3.out.below hal); clear hal
            obtain ⟨Av10, nv10, cv10, rfl⟩ := hN.shape
            obtain ⟨Au10, nu10, cu10, rfl⟩ := hM.shape
            clear hN hM
            have r0 := fr_c0 HQ3.out
            have r1 := fr_c1 HQ3.out
            have q0 := fr_c0 HQ4.out
            have q1 := fr_c1 HQ4.out
            go_wp2_with fail
            refine (HC3.out _ _ _ _ _ HN3.out HM3.out HN4.out HM4.out).mono ?_
            rintro e w11 ⟨rfl, hB⟩
            replace HB := Lib.hid (below_then HB.out hB); replace HS := Lib.hid (HS.out.of_block (hB.block _ HS.out.lt)); clear hB
            go_wp2_with fail
            go_ret
            exact ⟨rfl, HB.out⟩
      · rw [tt_neg hl] at HL
        rw [boE_lim hok hl] at HBo
        generalize boZ U Bs n a N Y n1 f m1 g = b at *
        clear HCp hok hl hs hc
        go_enter Tryz.func14, Tryz.ntmps14
        go_wp2_with fail
        refine (alive_any _).mono ?_
        rintro e w1 ⟨rfl, hB⟩
        replace HB := Lib.hid (below_then HB.out hB); replace HS := Lib.hid (HS.out.of_block (hB.block _ HS.out.lt)); replace HR := Lib.hid (HR.out.of_block (hB.block _ HR.out.lt)); clear hB
        have r0 := fr_c0 HR.out
        have r1 := fr_c1 HR.out
        go_wp2_with (refine wp_load_whole rfl 46 _ rfl w.heap.size rfl 46 19 _ _ _ HS.out rfl (sc_cs _ _ _ _) Tryz.underlying46 rfl sc_size ?_)
        refine (HBo.out _ HB.out).mono ?_
        rintro e w2 ⟨rfl, hB⟩
        replace HB := Lib.hid (below_then HB.out hB); replace HS := Lib.hid (HS.out.of_block (hB.block _ HS.out.lt)); replace HR := Lib.hid (HR.out.of_block (hB.block _ HR.out.lt)); clear hB
        have r0 := fr_c0 HR.out
        have r1 := fr_c1 HR.out
        go_wp2_with (refine wp_load_whole rfl 46 _ rfl w.heap.size rfl 46 19 _ _ _ HS.out rfl (sc_cs _ _ _ _) Tryz.underlying46 rfl sc_size ?_)
        refine (HV.out _ HB.out).mono ?_
        rintro e w3 ⟨rfl, hB⟩
        replace HB := Lib.hid (below_then HB.out hB); replace HS := Lib.hid (HS.out.of_block (hB.block _ HS.out.lt)); replace HR := Lib.hid (HR.out.of_block (hB.block _ HR.out.lt)); clear hB
        have q2 := sc_c2 HS.out
        have r0 := fr_c0 HR.out
        have r1 := fr_c1 HR.out
        go_wp2_with fail
        refine (HI.out _ HB.out).mono ?_
        rintro e w4 ⟨rfl, rfl⟩
        go_wp2_with fail
        refine (HL.out _ HB.out).mono ?_
        rintro e w4 ⟨rfl, hB⟩
        replace HB := Lib.hid (below_then HB.out hB); replace HS := Lib.hid (HS.out.of_block (hB.block _ HS.out.lt)); replace HR := Lib.hid (HR.out.of_block (hB.block _ HR.out.lt)); clear hB
        go_wp2_with fail
        go_ret
        exact ⟨rfl, HB.out⟩
    · rw [tt_neg hc] at HI
      rw [boE_no (fun h => hc h.2), show chE U Bs n a N Y = 71 by unfold chE; rw [tt_pos hs, if_pos rfl, tt_neg hc]; rfl] at HBo
      generalize boZ U Bs n a N Y n1 f m1 g = b at *
      clear HCp hs hc
      go_enter Tryz.func14, Tryz.ntmps14
      go_wp2_with fail
      refine (alive_any _).mono ?_
      rintro e w1 ⟨rfl, hB⟩
      replace HB := Lib.hid (below_then HB.out hB); replace HS := Lib.hid (HS.out.of_block (hB.block _ HS.out.lt)); replace HR := Lib.hid (HR.out.of_block (hB.block _ HR.out.lt)); clear hB
      have r0 := fr_c0 HR.out
      have r1 := fr_c1 HR.out
      go_wp2_with (refine wp_load_whole rfl 46 _ rfl w.heap.size rfl 46 19 _ _ _ HS.out rfl (sc_cs _ _ _ _) Tryz.underlying46 rfl sc_size ?_)
      refine (HBo.out _ HB.out).mono ?_
      rintro e w2 ⟨rfl, hB⟩
      replace HB := Lib.hid (below_then HB.out hB); replace HS := Lib.hid (HS.out.of_block (hB.block _ HS.out.lt)); replace HR := Lib.hid (HR.out.of_block (hB.block _ HR.out.lt)); clear hB
      have r0 := fr_c0 HR.out
      have r1 := fr_c1 HR.out
      go_wp2_with (refine wp_load_whole rfl 46 _ rfl w.heap.size rfl 46 19 _ _ _ HS.out rfl (sc_cs _ _ _ _) Tryz.underlying46 rfl sc_size ?_)
      refine (HV.out _ HB.out).mono ?_
      rintro e w3 ⟨rfl, hB⟩
      replace HB := Lib.hid (below_then HB.out hB); replace HS := Lib.hid (HS.out.of_block (hB.block _ HS.out.lt)); replace HR := Lib.hid (HR.out.of_block (hB.block _ HR.out.lt)); clear hB
      have q2 := sc_c2 HS.out
      have r0 := fr_c0 HR.out
      have r1 := fr_c1 HR.out
      go_wp2_with fail
      refine (HI.out _ HB.out).mono ?_
      rintro e w4 ⟨rfl, rfl⟩
      go_wp2_with fail
      go_ret
      exact ⟨rfl, HB.out⟩
  · rw [tt_neg hs] at HV
    rw [boE_no (fun h => hs h.1), show chE U Bs n a N Y = 70 by unfold chE; rw [tt_neg hs]; rfl] at HBo
    generalize boZ U Bs n a N Y n1 f m1 g = b at *
    clear HCp hs
    go_enter Tryz.func14, Tryz.ntmps14
    go_wp2_with fail
    refine (alive_any _).mono ?_
    rintro e w1 ⟨rfl, hB⟩
    replace HB := Lib.hid (below_then HB.out hB); replace HS := Lib.hid (HS.out.of_block (hB.block _ HS.out.lt)); replace HR := Lib.hid (HR.out.of_block (hB.block _ HR.out.lt)); clear hB
    have r0 := fr_c0 HR.out
    have r1 := fr_c1 HR.out
    go_wp2_with (refine wp_load_whole rfl 46 _ rfl w.heap.size rfl 46 19 _ _ _ HS.out rfl (sc_cs _ _ _ _) Tryz.underlying46 rfl sc_size ?_)
    refine (HBo.out _ HB.out).mono ?_
    rintro e w2 ⟨rfl, hB⟩
    replace HB := Lib.hid (below_then HB.out hB); replace HS := Lib.hid (HS.out.of_block (hB.block _ HS.out.lt)); replace HR := Lib.hid (HR.out.of_block (hB.block _ HR.out.lt)); clear hB
    have r0 := fr_c0 HR.out
    have r1 := fr_c1 HR.out
    go_wp2_with (refine wp_load_whole rfl 46 _ rfl w.heap.size rfl 46 19 _ _ _ HS.out rfl (sc_cs _ _ _ _) Tryz.underlying46 rfl sc_size ?_)
    refine (HV.out _ HB.out).mono ?_
    rintro e w3 ⟨rfl, hB⟩
    replace HB := Lib.hid (below_then HB.out hB); replace HS := Lib.hid (HS.out.of_block (hB.block _ HS.out.lt)); replace HR := Lib.hid (HR.out.of_block (hB.block _ HR.out.lt)); clear hB
    have q2 := sc_c2 HS.out
    have r0 := fr_c0 HR.out
    have r1 := fr_c1 HR.out
    go_wp2_with fail
    go_ret
    exact ⟨rfl, HB.out⟩
end Go.Proofs.YtmbokpfgnicboaaGreat
