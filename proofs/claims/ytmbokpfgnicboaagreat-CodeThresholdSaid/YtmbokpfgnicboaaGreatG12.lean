import Derived.Test.YtmbokpfgnicboaaGreatVa
set_option linter.unusedVariables false
set_option linter.unusedSimpArgs false
/- The walk of the law CodeThreshold. -/
namespace Go.Proofs.YtmbokpfgnicboaaGreat
open Go.RowKit Go.Hd Go.Sort _root_.Hd
set_option exponentiation.threshold 2000

set_option maxRecDepth 100000 in
set_option maxHeartbeats 4000000 in
theorem law12 (U Bk : Int) (K : Nat → Nat) (n m : Nat) (f g : Nat → Nat) (v u : Value) (k : Int) (w : World) (hv : Rd w .u32 v n f) (hu : Rd w .u32 u m g) (hf : ∀ j, j < n → f j < B) (hg : ∀ j, j < m → g j < B) :
    Calls Tryz.prog 12 #[stV U Bk K v u, .int .i64 k] w fun e w' => e = .returned (.bool true) ∧ Below w.heap.size w w' := by
  have HB := Lib.hid ((Below.refl _ w).alloc (Nat.le_refl _) (.cells #[.int .i64 U, .int .i64 Bk, .int .u8 (K 0), .int .u8 (K 1), .int .u8 (K 2), .int .u8 (K 3), .int .u8 (K 4), .int .u8 (K 5), .int .u8 (K 6), .int .u8 (K 7), .int .u8 (K 8), .int .u8 (K 9), .int .u8 (K 10), .int .u8 (K 11), .int .u8 (K 12), .int .u8 (K 13), .int .u8 (K 14), .int .u8 (K 15), v, u] 29))
  have HS := Lib.hid (st_row w U Bk K v u 29)
  have HH := Lib.hid (fun W (h : Below w.heap.size w W) => thresholdE_any U Bk K n m f g v u k W (hv.below h) (hu.below h) hf hg)
  have HV := Lib.hid (fun W (h : Below w.heap.size w W) => rvalidsteps_any U Bk K n m f g v u W (hv.below h) (hu.below h) hf hg)
  have HT := Lib.hid (fun x W => tail_any Bk k x W)
  have HC := Lib.hid (fun x (hx : TlOk Bk k x) (hl : VL n f m g) v' u' W (h : Below w.heap.size w W) (h1 : Nt W v' (tlN Bk k x)) (h2 : Nt W u' (tlD Bk k x)) => compareTl Bk k x hx n m f g v' u' v u W h1 h2 (hv.below h) (hu.below h) hf hg hl)
  obtain ⟨A, n', c, rfl⟩ : ∃ A n c, v = .slice A n c := by obtain ⟨A, c, h, _⟩ := hv; exact ⟨_, _, _, h⟩
  obtain ⟨A2, m', c2, rfl⟩ : ∃ A n c, u = .slice A n c := by obtain ⟨A, c, h, _⟩ := hu; exact ⟨_, _, _, h⟩
  clear hv hu
  by_cases hs : VSt U Bk n f m g
  · rw [tt_pos hs] at HV
    have hb1 := hs.2.2.1
    have hb2 := hs.2.2.2.1
    by_cases hk : 0 ≤ k ∧ k ≤ 2 * Bk
    · have ht : Hid (thE U Bk n f m g k = 0 ∧ thV U Bk n f m g k = thr Bk.toNat (val f n) (val g m) k.toNat) := by
        show _ ∧ _
        unfold thE thV
        rw [tt_pos hs, if_pos rfl, if_pos hk, if_pos rfl, if_pos hk]
        exact ⟨rfl, rfl⟩
      rw [ht.out.1, ht.out.2] at HH
      have h1 := thr_ge Bk.toNat (val f n) (val g m) k.toNat
      have h2 := thr_lt (d := Bk.toNat) (m := val f n) (n := val g m) (k := k.toNat) (by omega) hs.2.2.2.2.2.2.2
      have hx1 : TlOk Bk k (thr Bk.toNat (val f n) (val g m) k.toNat) := ⟨by omega, by omega, by omega, by omega, by omega, by omega⟩
      have hx2 : TlOk Bk k (thr Bk.toNat (val f n) (val g m) k.toNat + 1) := ⟨by omega, by omega, by omega, by omega, by omega, by omega⟩
      have hP : ord (tlS Bk k (thr Bk.toNat (val f n) (val g m) k.toNat) * val g m) (val f n * tlA Bk) ≤ 0 := by
        refine of_decide_eq_true ?_
        rw [ord_in]
        by_cases h0 : thr Bk.toNat (val f n) (val g m) k.toNat = -1
        · rw [h0]
          unfold tlS inside
          simp [sum]
        · obtain ⟨t, ht⟩ := Int.eq_ofNat_of_zero_le (show 0 ≤ thr Bk.toNat (val f n) (val g m) k.toNat by omega)
          have hg' := good_all (okT Bk.toNat (val f n) (val g m) k.toNat) (k.toNat + 1) t (by unfold thr at ht; omega)
          rw [ht]
          unfold okT at hg'
          unfold tlS
          rw [show ((t : Int) + 1).toNat = t + 1 by omega]
          exact hg'
      have hQ : 0 < ord (tlS Bk k (thr Bk.toNat (val f n) (val g m) k.toNat + 1) * val g m) (val f n * tlA Bk) := by
        rw [ord_pos]
        have hst := good_stop (p := okT Bk.toNat (val f n) (val g m) k.toNat) (n := k.toNat + 1) (by unfold thr at h2; omega)
        have e : (thr Bk.toNat (val f n) (val g m) k.toNat + 1 + 1).toNat = good (okT Bk.toNat (val f n) (val g m) k.toNat) (k.toNat + 1) + 1 := by unfold thr; omega
        unfold tlS
        rw [e]
        exact hst
      have HC1 := Lib.hid (HC.out _ hx1 hs.2.2.2.2)
      have HC2 := Lib.hid (HC.out _ hx2 hs.2.2.2.2)
      have HT1 := Lib.hid (HT.out (thr Bk.toNat (val f n) (val g m) k.toNat))
      have HT2 := Lib.hid (HT.out (thr Bk.toNat (val f n) (val g m) k.toNat + 1))
      rw [(tl_ok hx1).1] at HT1
      rw [(tl_ok hx2).1] at HT2
      obtain ⟨hk1, hk2⟩ := hk
      generalize ord (tlS Bk k (thr Bk.toNat (val f n) (val g m) k.toNat) * val g m) (val f n * tlA Bk) = o1 at *
      generalize ord (tlS Bk k (thr Bk.toNat (val f n) (val g m) k.toNat + 1) * val g m) (val f n * tlA Bk) = o2 at *
      generalize thr Bk.toNat (val f n) (val g m) k.toNat = x at *
      clear HT HC hf hg hs hx1 hx2 ht
      have hkm : x < 128 := by omega
      clear h2
      go_enter Tryz.func12, Tryz.ntmps12
      go_wp2_with fail
      refine (alive_any _).mono ?_
      rintro e w1 ⟨rfl, hB⟩
      replace HB := Lib.hid (below_then HB.out hB); replace HS := Lib.hid (HS.out.of_block (hB.block _ HS.out.lt)); clear hB
      go_wp2_with (refine wp_load_whole rfl 29 _ rfl w.heap.size rfl 29 20 _ _ _ HS.out rfl (st_cs _ _ _ _ _) Tryz.underlying29 rfl st_size ?_)
      refine (HH.out _ HB.out).mono ?_
      rintro e w2 ⟨rfl, hB⟩
      replace HB := Lib.hid (below_then HB.out hB); replace HS := Lib.hid (HS.out.of_block (hB.block _ HS.out.lt)); clear hB
      have q1 := st_c1 HS.out
      go_wp2_with (refine wp_load_whole rfl 29 _ rfl w.heap.size rfl 29 20 _ _ _ HS.out rfl (st_cs _ _ _ _ _) Tryz.underlying29 rfl st_size ?_)
      refine (HV.out _ HB.out).mono ?_
      rintro e w3 ⟨rfl, hB⟩
      replace HB := Lib.hid (below_then HB.out hB); replace HS := Lib.hid (HS.out.of_block (hB.block _ HS.out.lt)); clear hB
      have q1 := st_c1 HS.out
      go_wp2_with fail
      refine (HT1.out _).mono ?_
      rintro e w4 ⟨v4, u4, rfl, hN, hM, hB⟩
      replace HB := Lib.hid (below_then HB.out hB); replace HS := Lib.hid (HS.out.of_block (hB.block _ HS.out.lt)); clear hB
      have hal := (Below.refl _ w4).alloc (Nat.le_refl _) (.cells #[v4, u4] 27)
      have HN := Lib.hid (hN.below hal)
      have HM := Lib.hid (hM.below hal)
      have HR := Lib.hid (row2 w4 v4 u4 27)
      replace HB := Lib.hid (below_then HB.out hal); replace HS := Lib.hid (HS.out.of_block (hal.block _ HS.out.lt)); clear hal
      obtain ⟨A4, n4, c4, rfl⟩ := hN.shape
      obtain ⟨A5, n5, c5, rfl⟩ := hM.shape
      clear hN hM
      have q18 := st_c18 HS.out
      have q19 := st_c19 HS.out
      go_wp2_with fail
      refine (HC1.out _ _ _ HB.out HN.out HM.out).mono ?_
      rintro e w5 ⟨rfl, hB⟩
      replace HB := Lib.hid (below_then HB.out hB); replace HS := Lib.hid (HS.out.of_block (hB.block _ HS.out.lt)); clear hB
      have q1 := st_c1 HS.out
      go_wp2_with fail
      refine (HT2.out _).mono ?_
      rintro e w6 ⟨v6, u6, rfl, hN, hM, hB⟩
      replace HB := Lib.hid (below_then HB.out hB); replace HS := Lib.hid (HS.out.of_block (hB.block _ HS.out.lt)); clear hB
      have hal := (Below.refl _ w6).alloc (Nat.le_refl _) (.cells #[v6, u6] 27)
      replace HN := Lib.hid (hN.below hal)
      replace HM := Lib.hid (hM.below hal)
      replace HR := Lib.hid (row2 w6 v6 u6 27)
      replace HB := Lib.hid (below_then HB.out hal); replace HS := Lib.hid (HS.out.of_block (hal.block _ HS.out.lt)); clear hal
      obtain ⟨A6, n6, c6, rfl⟩ := hN.shape
      obtain ⟨A7, n7, c7, rfl⟩ := hM.shape
      clear hN hM
      have q18 := st_c18 HS.out
      have q19 := st_c19 HS.out
      go_wp2_with fail
      refine (HC2.out _ _ _ HB.out HN.out HM.out).mono ?_
      rintro e w7 ⟨rfl, hB⟩
      replace HB := Lib.hid (below_then HB.out hB); replace HS := Lib.hid (HS.out.of_block (hB.block _ HS.out.lt)); clear hB
      go_wp2_with fail
      go_ret
      exact ⟨rfl, HB.out⟩
    · have ht : Hid (thE U Bk n f m g k = 2) := by
        show _ = _
        unfold thE
        rw [tt_pos hs, if_pos rfl, if_neg hk]
      rw [ht.out] at HH
      generalize thV U Bk n f m g k = x at *
      clear HT HC hf hg hs ht
      by_cases hk0 : k < 0
      · go_enter Tryz.func12, Tryz.ntmps12
        go_wp2_with fail
        refine (alive_any _).mono ?_
        rintro e w1 ⟨rfl, hB⟩
        replace HB := Lib.hid (below_then HB.out hB); replace HS := Lib.hid (HS.out.of_block (hB.block _ HS.out.lt)); clear hB
        go_wp2_with (refine wp_load_whole rfl 29 _ rfl w.heap.size rfl 29 20 _ _ _ HS.out rfl (st_cs _ _ _ _ _) Tryz.underlying29 rfl st_size ?_)
        refine (HH.out _ HB.out).mono ?_
        rintro e w2 ⟨rfl, hB⟩
        replace HB := Lib.hid (below_then HB.out hB); replace HS := Lib.hid (HS.out.of_block (hB.block _ HS.out.lt)); clear hB
        go_wp2_with (refine wp_load_whole rfl 29 _ rfl w.heap.size rfl 29 20 _ _ _ HS.out rfl (st_cs _ _ _ _ _) Tryz.underlying29 rfl st_size ?_)
        refine (HV.out _ HB.out).mono ?_
        rintro e w3 ⟨rfl, hB⟩
        replace HB := Lib.hid (below_then HB.out hB); replace HS := Lib.hid (HS.out.of_block (hB.block _ HS.out.lt)); clear hB
        go_wp2_with fail
        go_ret
        exact ⟨rfl, HB.out⟩
      · have hk1 : 2 * Bk < k := by omega
        clear hk
        go_enter Tryz.func12, Tryz.ntmps12
        go_wp2_with fail
        refine (alive_any _).mono ?_
        rintro e w1 ⟨rfl, hB⟩
        replace HB := Lib.hid (below_then HB.out hB); replace HS := Lib.hid (HS.out.of_block (hB.block _ HS.out.lt)); clear hB
        go_wp2_with (refine wp_load_whole rfl 29 _ rfl w.heap.size rfl 29 20 _ _ _ HS.out rfl (st_cs _ _ _ _ _) Tryz.underlying29 rfl st_size ?_)
        refine (HH.out _ HB.out).mono ?_
        rintro e w2 ⟨rfl, hB⟩
        replace HB := Lib.hid (below_then HB.out hB); replace HS := Lib.hid (HS.out.of_block (hB.block _ HS.out.lt)); clear hB
        go_wp2_with (refine wp_load_whole rfl 29 _ rfl w.heap.size rfl 29 20 _ _ _ HS.out rfl (st_cs _ _ _ _ _) Tryz.underlying29 rfl st_size ?_)
        refine (HV.out _ HB.out).mono ?_
        rintro e w3 ⟨rfl, hB⟩
        replace HB := Lib.hid (below_then HB.out hB); replace HS := Lib.hid (HS.out.of_block (hB.block _ HS.out.lt)); clear hB
        have q1 := st_c1 HS.out
        go_wp2_with fail
        go_ret
        exact ⟨rfl, HB.out⟩
  · rw [tt_neg hs] at HV
    have ht : Hid (thE U Bk n f m g k = 70) := by
      show _ = _
      unfold thE
      rw [tt_neg hs]
      rfl
    rw [ht.out] at HH
    generalize thV U Bk n f m g k = x at *
    clear HT HC hf hg hs ht
    go_enter Tryz.func12, Tryz.ntmps12
    go_wp2_with fail
    refine (alive_any _).mono ?_
    rintro e w1 ⟨rfl, hB⟩
    replace HB := Lib.hid (below_then HB.out hB); replace HS := Lib.hid (HS.out.of_block (hB.block _ HS.out.lt)); clear hB
    go_wp2_with (refine wp_load_whole rfl 29 _ rfl w.heap.size rfl 29 20 _ _ _ HS.out rfl (st_cs _ _ _ _ _) Tryz.underlying29 rfl st_size ?_)
    refine (HH.out _ HB.out).mono ?_
    rintro e w2 ⟨rfl, hB⟩
    replace HB := Lib.hid (below_then HB.out hB); replace HS := Lib.hid (HS.out.of_block (hB.block _ HS.out.lt)); clear hB
    go_wp2_with (refine wp_load_whole rfl 29 _ rfl w.heap.size rfl 29 20 _ _ _ HS.out rfl (st_cs _ _ _ _ _) Tryz.underlying29 rfl st_size ?_)
    refine (HV.out _ HB.out).mono ?_
    rintro e w3 ⟨rfl, hB⟩
    replace HB := Lib.hid (below_then HB.out hB); replace HS := Lib.hid (HS.out.of_block (hB.block _ HS.out.lt)); clear hB
    go_wp2_with fail
    go_ret
    exact ⟨rfl, HB.out⟩
end Go.Proofs.YtmbokpfgnicboaaGreat
