import Derived.Test.YtmbokpfgnicboaaGreatVa
import Derived.Test.YtmbokpfgnicboaaGreatV4
set_option linter.unusedVariables false
set_option linter.unusedSimpArgs false
/- The walk of the law CodeEscapes. -/
namespace Go.Proofs.YtmbokpfgnicboaaGreat
open Go.RowKit Go.Hd Go.Sort _root_.Hd
set_option exponentiation.threshold 2000

theorem thr_zero {d m n k : Nat} : 0 ≤ thr d m n k ↔ okT d m n k 0 = true := by
  unfold thr
  have h1 := good_all (okT d m n k) (k + 1) 0
  have h2 := good_stop (p := okT d m n k) (n := k + 1)
  constructor
  · intro h
    exact h1 (by omega)
  · intro h
    rcases Nat.eq_zero_or_pos (good (okT d m n k) (k + 1)) with h0 | h0
    · have := h2 (by omega)
      rw [h0, h] at this
      cases this
    · omega
theorem esc_may {d m n : Nat} : May d m n 1 d ↔ thr d m n d < 0 := by
  show (d ≤ d ∧ ∃ v, v ≤ d ∧ v = 0 ∧ thr d m n (v + d) < (v : Int)) ↔ _
  constructor
  · rintro ⟨_, v, _, rfl, h⟩
    rw [Nat.zero_add] at h
    exact h
  · intro h
    exact ⟨Nat.le_refl _, 0, Nat.zero_le _, rfl, by rw [Nat.zero_add]; exact h⟩
theorem esc_yes {d m n : Nat} (hd : 1 ≤ d) (h : 0 ≤ thr d m n d) : nmL 3 d m n (l2 0 d) 3 = [1] := by
  have e0 : nmd 3 d m n (l2 0 d) 0 = false := by rw [nmd_first]; rfl
  have e1 : nmd 3 d m n (l2 0 d) 1 = true := by
    rw [nmd_mid (by omega) (by omega)]
    refine decide_eq_true ?_
    show ((0 : Nat) : Int) ≤ thr d m n (0 + d)
    rw [Nat.zero_add]
    exact h
  have e2 : nmd 3 d m n (l2 0 d) 2 = false := by
    rw [nmd_last (by omega) (by omega)]
    refine decide_eq_false ?_
    show ¬ d < d
    omega
  rw [nmL_no e2, nmL_yes e1, nmL_no e0]
  rfl
theorem esc_no {d m n : Nat} (hd : 1 ≤ d) (h : thr d m n d < 0) : nmL 3 d m n (l2 0 d) 3 = [] := by
  have e0 : nmd 3 d m n (l2 0 d) 0 = false := by rw [nmd_first]; rfl
  have e1 : nmd 3 d m n (l2 0 d) 1 = false := by
    rw [nmd_mid (by omega) (by omega)]
    refine decide_eq_false ?_
    show ¬ ((0 : Nat) : Int) ≤ thr d m n (0 + d)
    rw [Nat.zero_add]
    omega
  have e2 : nmd 3 d m n (l2 0 d) 2 = false := by
    rw [nmd_last (by omega) (by omega)]
    refine decide_eq_false ?_
    show ¬ d < d
    omega
  rw [nmL_no e2, nmL_no e1, nmL_no e0]
  rfl

theorem names_esc1 (d : Nat) (n m : Nat) (K : Nat → Nat) (f g : Nat → Nat) (lv lu : Value) (w : World) (hv : Rd w .u32 lv n f) (hu : Rd w .u32 lu m g) (hf : ∀ j, j < n → f j < B) (hg : ∀ j, j < m → g j < B) (hK : Kb K) (hs : VSt ((3 : Nat) : Int) (d : Int) n f m g) (hn : nmL 3 d (val f n) (val g m) (l2 0 d) 3 = [1]) :
    Calls Tryz.prog 63 #[stV 3 d K lv lu, .slice (some ⟨w.heap.size, 0, none⟩) 2 2, .slice (some ⟨w.heap.size + 1, 0, none⟩) 1 1] ((w.alloc (.cells #[.int .i64 0, .int .i64 d] 3)).alloc (.cells #[.int .i64 1] 3)) fun e w' => e = .returned (.bool true) ∧ Below w.heap.size w w' := by
  have b1 : Below w.heap.size w (w.alloc (.cells #[.int .i64 0, .int .i64 d] 3)) := (Below.refl _ _).alloc (Nat.le_refl _) _
  have b2 := b1.alloc b1.size (.cells #[.int .i64 1] 3)
  have r0 := (rdV_ints2 w 0 d 3).below ((Below.refl _ _).alloc (Nat.le_refl _) (.cells #[.int .i64 1] 3))
  have r1 := rdV_ints1 (w.alloc (.cells #[.int .i64 0, .int .i64 d] 3)) 1 3
  rw [World.size_alloc] at r1
  have h := names_l_any 3 d n m K f g lv lu (l2 0 d) _ _ 1 (fun _ => (1 : Int)) _ (hv.below b2) (hu.below b2) hf hg hK hs (rdV_congr r0 (fun j hj => by show Value.int _ _ = Value.int _ _; unfold l2; congr 1; split <;> rfl)) (fun j hj => by unfold l2; split <;> omega) r1
  rw [hn] at h
  rw [tt_pos ⟨rfl, fun j hj => by
    have : j = 0 := by simpa using hj
    subst this; rfl⟩] at h
  exact h.mono fun e w' ⟨he, hb⟩ => ⟨he, b2.trans (hb.mono b2.size)⟩
theorem names_esc0 (d : Nat) (n m : Nat) (K : Nat → Nat) (f g : Nat → Nat) (lv lu : Value) (w : World) (hv : Rd w .u32 lv n f) (hu : Rd w .u32 lu m g) (hf : ∀ j, j < n → f j < B) (hg : ∀ j, j < m → g j < B) (hK : Kb K) (hs : VSt ((3 : Nat) : Int) (d : Int) n f m g) (hn : nmL 3 d (val f n) (val g m) (l2 0 d) 3 = []) :
    Calls Tryz.prog 63 #[stV 3 d K lv lu, .slice (some ⟨w.heap.size, 0, none⟩) 2 2, .slice none 0 0] (w.alloc (.cells #[.int .i64 0, .int .i64 d] 3)) fun e w' => e = .returned (.bool true) ∧ Below w.heap.size w w' := by
  have b1 : Below w.heap.size w (w.alloc (.cells #[.int .i64 0, .int .i64 d] 3)) := (Below.refl _ _).alloc (Nat.le_refl _) _
  have r0 := rdV_ints2 w 0 d 3
  have r1 : RdV (w.alloc (.cells #[.int .i64 0, .int .i64 d] 3)) (.slice none 0 0) 0 (fun j => .int .i64 ((fun _ => (0 : Int)) j)) := ⟨none, 0, rfl, Nat.le_refl _, Nat.zero_le _, fun h => absurd h (by omega)⟩
  have h := names_l_any 3 d n m K f g lv lu (l2 0 d) _ _ 0 (fun _ => (0 : Int)) _ (hv.below b1) (hu.below b1) hf hg hK hs (rdV_congr r0 (fun j hj => by show Value.int _ _ = Value.int _ _; unfold l2; congr 1; split <;> rfl)) (fun j hj => by unfold l2; split <;> omega) r1
  rw [hn] at h
  rw [tt_pos ⟨rfl, fun j hj => absurd hj (by simp)⟩] at h
  exact h.mono fun e w' ⟨he, hb⟩ => ⟨he, b1.trans (hb.mono b1.size)⟩

set_option maxRecDepth 100000 in
set_option maxHeartbeats 4000000 in
theorem law18 (U Bk : Int) (K : Nat → Nat) (n m : Nat) (f g : Nat → Nat) (v u : Value) (w : World) (hv : Rd w .u32 v n f) (hu : Rd w .u32 u m g) (hf : ∀ j, j < n → f j < B) (hg : ∀ j, j < m → g j < B) (hK : Kb K) :
    Calls Tryz.prog 18 #[stV U Bk K v u] w fun e w' => e = .returned (.bool true) ∧ Below w.heap.size w w' := by
  have HB := Lib.hid ((Below.refl _ w).alloc (Nat.le_refl _) (.cells #[.int .i64 U, .int .i64 Bk, .int .u8 (K 0), .int .u8 (K 1), .int .u8 (K 2), .int .u8 (K 3), .int .u8 (K 4), .int .u8 (K 5), .int .u8 (K 6), .int .u8 (K 7), .int .u8 (K 8), .int .u8 (K 9), .int .u8 (K 10), .int .u8 (K 11), .int .u8 (K 12), .int .u8 (K 13), .int .u8 (K 14), .int .u8 (K 15), v, u] 29))
  have HS := Lib.hid (st_row w U Bk K v u 29)
  have HC := Lib.hid (fun W (h : Below w.heap.size w W) => complete_any U Bk K n m f g v u W (hv.below h) (hu.below h) hf hg)
  have HV := Lib.hid (fun W (h : Below w.heap.size w W) => rvalidsteps_any U Bk K n m f g v u W (hv.below h) (hu.below h) hf hg)
  have HVv := Lib.hid hv
  have HUu := Lib.hid hu
  have HF := Lib.hid hf
  have HG := Lib.hid hg
  obtain ⟨A, n', c, rfl⟩ : ∃ A n c, v = .slice A n c := by obtain ⟨A, c, h, _⟩ := hv; exact ⟨_, _, _, h⟩
  obtain ⟨A2, m', c2, rfl⟩ : ∃ A n c, u = .slice A n c := by obtain ⟨A, c, h, _⟩ := hu; exact ⟨_, _, _, h⟩
  clear hv hu
  by_cases hs : VSt U Bk n f m g
  · rw [tt_pos hs] at HV
    rw [spE_yes hs] at HC
    obtain ⟨d, rfl, hd1, hd, _⟩ := vst_facts hs hf hg
    by_cases hU3 : 3 < U
    · have hU2 := hs.1
      clear hs hf hg HC
      go_enter Tryz.func18, Tryz.ntmps18
      go_wp2_with fail
      refine (alive_any _).mono ?_
      rintro e w1 ⟨rfl, hB⟩
      replace HB := Lib.hid (below_then HB.out hB); replace HS := Lib.hid (HS.out.of_block (hB.block _ HS.out.lt)); clear hB
      go_wp2_with (refine wp_load_whole rfl 29 _ rfl w.heap.size rfl 29 20 _ _ _ HS.out rfl (st_cs _ _ _ _ _) Tryz.underlying29 rfl st_size ?_)
      refine (HV.out _ HB.out).mono ?_
      rintro e w2 ⟨rfl, hB⟩
      replace HB := Lib.hid (below_then HB.out hB); replace HS := Lib.hid (HS.out.of_block (hB.block _ HS.out.lt)); clear hB
      have q0 := st_c0 HS.out
      go_wp2_with fail
      go_ret
      exact ⟨rfl, HB.out⟩
    · by_cases hUe : U = 2
      · subst hUe
        have hP : coP 2 (d : Int) n f m g = true := by
          unfold coP
          exact tt_pos ⟨hs, fun h => by
            rw [Int.toNat_natCast] at h
            have h' : d = 0 := h
            omega⟩
        rw [hP] at HC
        clear hs hf hg hP
        go_enter Tryz.func18, Tryz.ntmps18
        go_wp2_with fail
        refine (alive_any _).mono ?_
        rintro e w1 ⟨rfl, hB⟩
        replace HB := Lib.hid (below_then HB.out hB); replace HS := Lib.hid (HS.out.of_block (hB.block _ HS.out.lt)); clear hB
        go_wp2_with (refine wp_load_whole rfl 29 _ rfl w.heap.size rfl 29 20 _ _ _ HS.out rfl (st_cs _ _ _ _ _) Tryz.underlying29 rfl st_size ?_)
        refine (HV.out _ HB.out).mono ?_
        rintro e w2 ⟨rfl, hB⟩
        replace HB := Lib.hid (below_then HB.out hB); replace HS := Lib.hid (HS.out.of_block (hB.block _ HS.out.lt)); clear hB
        have q0 := st_c0 HS.out
        go_wp2_with (refine wp_load_whole rfl 29 _ rfl w.heap.size rfl 29 20 _ _ _ HS.out rfl (st_cs _ _ _ _ _) Tryz.underlying29 rfl st_size ?_)
        refine (HC.out _ HB.out).mono ?_
        rintro e w3 ⟨rfl, hB⟩
        replace HB := Lib.hid (below_then HB.out hB); replace HS := Lib.hid (HS.out.of_block (hB.block _ HS.out.lt)); clear hB
        have q0 := st_c0 HS.out
        go_wp2_with fail
        go_ret
        exact ⟨rfl, HB.out⟩
      · obtain rfl : U = 3 := by have := hs.1; omega
        have hx : TlOk (d : Int) (d : Int) 0 := ⟨by omega, by omega, by omega, by omega, by omega, by omega⟩
        have HT := Lib.hid (fun W => tail_any (d : Int) (d : Int) 0 W)
        rw [(tl_ok hx).1] at HT
        have HCp := Lib.hid (fun v' u' W (h : Below w.heap.size w W) (h1 : Nt W v' (tlN (d : Int) (d : Int) 0)) (h2 : Nt W u' (tlD (d : Int) (d : Int) 0)) => compareTl (d : Int) (d : Int) 0 hx n m f g v' u' (.slice A n' c) (.slice A2 m' c2) W h1 h2 (HVv.out.below h) (HUu.out.below h) hf hg hs.2.2.2.2)
        have hin : inside (tlS (d : Int) (d : Int) 0) (tlA (d : Int)) (val f n) (val g m) = okT d (val f n) (val g m) d 0 := by
          unfold tlS tlA okT
          rw [Int.toNat_natCast]
          rfl
        have HVs := Lib.hid hs
        by_cases ht : 0 ≤ thr d (val f n) (val g m) d
        · have hP : coP 3 (d : Int) n f m g = true := by
            unfold coP
            exact tt_pos ⟨hs, fun h => by
              rw [Int.toNat_natCast] at h
              have := esc_may.1 h
              omega⟩
          have hq : ord (tlS (d : Int) (d : Int) 0 * val g m) (val f n * tlA (d : Int)) ≤ 0 := of_decide_eq_true (by rw [ord_in, hin]; exact thr_zero.1 ht)
          have HN := Lib.hid (fun W (h : Below w.heap.size w W) => names_esc1 d n m K f g (.slice A n' c) (.slice A2 m' c2) W (HVv.out.below h) (HUu.out.below h) HF.out HG.out hK hs (esc_yes hd1 ht))
          rw [hP] at HC
          clear hs hf hg hP hx hin ht HVs
          generalize ord (tlS (d : Int) (d : Int) 0 * val g m) (val f n * tlA (d : Int)) = o at *
          go_enter Tryz.func18, Tryz.ntmps18
          go_wp2_with fail
          refine (alive_any _).mono ?_
          rintro e w1 ⟨rfl, hB⟩
          replace HB := Lib.hid (below_then HB.out hB); replace HS := Lib.hid (HS.out.of_block (hB.block _ HS.out.lt)); clear hB
          go_wp2_with (refine wp_load_whole rfl 29 _ rfl w.heap.size rfl 29 20 _ _ _ HS.out rfl (st_cs _ _ _ _ _) Tryz.underlying29 rfl st_size ?_)
          refine (HV.out _ HB.out).mono ?_
          rintro e w2 ⟨rfl, hB⟩
          replace HB := Lib.hid (below_then HB.out hB); replace HS := Lib.hid (HS.out.of_block (hB.block _ HS.out.lt)); clear hB
          have q0 := st_c0 HS.out
          go_wp2_with (refine wp_load_whole rfl 29 _ rfl w.heap.size rfl 29 20 _ _ _ HS.out rfl (st_cs _ _ _ _ _) Tryz.underlying29 rfl st_size ?_)
          refine (HC.out _ HB.out).mono ?_
          rintro e w3 ⟨rfl, hB⟩
          replace HB := Lib.hid (below_then HB.out hB); replace HS := Lib.hid (HS.out.of_block (hB.block _ HS.out.lt)); clear hB
          have q0 := st_c0 HS.out
          have q1 := st_c1 HS.out
          go_wp2_with fail
          refine (HT.out _).mono ?_
          rintro e w4 ⟨v4, u4, rfl, hN, hM, hB⟩
          replace HB := Lib.hid (below_then HB.out hB); replace HS := Lib.hid (HS.out.of_block (hB.block _ HS.out.lt)); clear hB
          have hal := (Below.refl _ w4).alloc (Nat.le_refl _) (.cells #[v4, u4] 27)
          have HNt := Lib.hid (hN.below hal)
          have HM := Lib.hid (hM.below hal)
          have HR := Lib.hid (row2 w4 v4 u4 27)
          replace HB := Lib.hid (below_then HB.out hal); replace HS := Lib.hid (HS.out.of_block (hal.block _ HS.out.lt)); clear hal
          obtain ⟨A4, n4, c4, rfl⟩ := hN.shape
          obtain ⟨A5, n5, c5, rfl⟩ := hM.shape
          clear hN hM
          have q18 := st_c18 HS.out
          have q19 := st_c19 HS.out
          go_wp2_with fail
          refine (HCp.out _ _ _ HB.out HNt.out HM.out).mono ?_
          rintro e w5 ⟨rfl, hB⟩
          replace HB := Lib.hid (below_then HB.out hB); replace HS := Lib.hid (HS.out.of_block (hB.block _ HS.out.lt)); clear hB
          have q1 := st_c1 HS.out
          go_wp2_with (refine wp_load_whole_held (by rfl) 29 _ rfl w.heap.size rfl 29 20 _ _ _ HS.out rfl (st_cs _ _ _ _ _) Tryz.underlying29 rfl st_size ?_)
          refine (HN.out _ HB.out).mono ?_
          rintro e w6 ⟨rfl, hB⟩
          replace HB := Lib.hid (below_then HB.out hB); replace HS := Lib.hid (HS.out.of_block (hB.block _ HS.out.lt)); clear hB
          go_wp2_with fail
          go_ret
          exact ⟨rfl, HB.out⟩
        · have ht' : thr d (val f n) (val g m) d < 0 := by omega
          have hP : coP 3 (d : Int) n f m g = false := by
            unfold coP
            exact tt_neg (fun h => h.2 (by rw [Int.toNat_natCast]; exact esc_may.2 ht'))
          have hq : ¬ ord (tlS (d : Int) (d : Int) 0 * val g m) (val f n * tlA (d : Int)) ≤ 0 := of_decide_eq_false (by
            rw [ord_in, hin]
            cases hk : okT d (val f n) (val g m) d 0
            · rfl
            · exact absurd (thr_zero.2 hk) ht)
          have HN := Lib.hid (fun W (h : Below w.heap.size w W) => names_esc0 d n m K f g (.slice A n' c) (.slice A2 m' c2) W (HVv.out.below h) (HUu.out.below h) HF.out HG.out hK hs (esc_no hd1 ht'))
          rw [hP] at HC
          clear hs hf hg hP hx hin ht ht' HVs
          generalize ord (tlS (d : Int) (d : Int) 0 * val g m) (val f n * tlA (d : Int)) = o at *
          go_enter Tryz.func18, Tryz.ntmps18
          go_wp2_with fail
          refine (alive_any _).mono ?_
          rintro e w1 ⟨rfl, hB⟩
          replace HB := Lib.hid (below_then HB.out hB); replace HS := Lib.hid (HS.out.of_block (hB.block _ HS.out.lt)); clear hB
          go_wp2_with (refine wp_load_whole rfl 29 _ rfl w.heap.size rfl 29 20 _ _ _ HS.out rfl (st_cs _ _ _ _ _) Tryz.underlying29 rfl st_size ?_)
          refine (HV.out _ HB.out).mono ?_
          rintro e w2 ⟨rfl, hB⟩
          replace HB := Lib.hid (below_then HB.out hB); replace HS := Lib.hid (HS.out.of_block (hB.block _ HS.out.lt)); clear hB
          have q0 := st_c0 HS.out
          go_wp2_with (refine wp_load_whole rfl 29 _ rfl w.heap.size rfl 29 20 _ _ _ HS.out rfl (st_cs _ _ _ _ _) Tryz.underlying29 rfl st_size ?_)
          refine (HC.out _ HB.out).mono ?_
          rintro e w3 ⟨rfl, hB⟩
          replace HB := Lib.hid (below_then HB.out hB); replace HS := Lib.hid (HS.out.of_block (hB.block _ HS.out.lt)); clear hB
          have q0 := st_c0 HS.out
          have q1 := st_c1 HS.out
          go_wp2_with fail
          refine (HT.out _).mono ?_
          rintro e w4 ⟨v4, u4, rfl, hN, hM, hB⟩
          replace HB := Lib.hid (below_then HB.out hB); replace HS := Lib.hid (HS.out.of_block (hB.block _ HS.out.lt)); clear hB
          have hal := (Below.refl _ w4).alloc (Nat.le_refl _) (.cells #[v4, u4] 27)
          have HNt := Lib.hid (hN.below hal)
          have HM := Lib.hid (hM.below hal)
          have HR := Lib.hid (row2 w4 v4 u4 27)
          replace HB := Lib.hid (below_then HB.out hal); replace HS := Lib.hid (HS.out.of_block (hal.block _ HS.out.lt)); clear hal
          obtain ⟨A4, n4, c4, rfl⟩ := hN.shape
          obtain ⟨A5, n5, c5, rfl⟩ := hM.shape
          clear hN hM
          have q18 := st_c18 HS.out
          have q19 := st_c19 HS.out
          go_wp2_with fail
          refine (HCp.out _ _ _ HB.out HNt.out HM.out).mono ?_
          rintro e w5 ⟨rfl, hB⟩
          replace HB := Lib.hid (below_then HB.out hB); replace HS := Lib.hid (HS.out.of_block (hB.block _ HS.out.lt)); clear hB
          have q1 := st_c1 HS.out
          go_wp2_with (refine wp_load_whole_held (by rfl) 29 _ rfl w.heap.size rfl 29 20 _ _ _ HS.out rfl (st_cs _ _ _ _ _) Tryz.underlying29 rfl st_size ?_)
          refine (HN.out _ HB.out).mono ?_
          rintro e w6 ⟨rfl, hB⟩
          replace HB := Lib.hid (below_then HB.out hB); replace HS := Lib.hid (HS.out.of_block (hB.block _ HS.out.lt)); clear hB
          go_wp2_with fail
          go_ret
          exact ⟨rfl, HB.out⟩
  · rw [tt_neg hs] at HV
    clear hs hf hg HC
    go_enter Tryz.func18, Tryz.ntmps18
    go_wp2_with fail
    refine (alive_any _).mono ?_
    rintro e w1 ⟨rfl, hB⟩
    replace HB := Lib.hid (below_then HB.out hB); replace HS := Lib.hid (HS.out.of_block (hB.block _ HS.out.lt)); clear hB
    go_wp2_with (refine wp_load_whole rfl 29 _ rfl w.heap.size rfl 29 20 _ _ _ HS.out rfl (st_cs _ _ _ _ _) Tryz.underlying29 rfl st_size ?_)
    refine (HV.out _ HB.out).mono ?_
    rintro e w2 ⟨rfl, hB⟩
    replace HB := Lib.hid (below_then HB.out hB); replace HS := Lib.hid (HS.out.of_block (hB.block _ HS.out.lt)); clear hB
    go_wp2_with fail
    go_ret
    exact ⟨rfl, HB.out⟩
end Go.Proofs.YtmbokpfgnicboaaGreat
