import Derived.Test.YtmbokpfgnicboaaRo
set_option linter.unusedVariables false
set_option linter.unusedSimpArgs false
/- The walks of the reference's package of codes: ThresholdOf. -/
namespace Go.Proofs.Ytmbokpfgnicboaa
open Go.RowKit Go.Hd _root_.Hd
set_option exponentiation.threshold 2000

set_option maxRecDepth 100000 in
set_option maxHeartbeats 4000000 in
/-- The threshold for k marked places. -/
theorem rthresholdof_any (U : Int) (d k m n : Nat) (K : Nat → Nat) (v u : Value) (w : World) (hv : Nt w v m) (hu : Nt w u n) (hd : d ≤ 64) (hk : k ≤ 2 * d) (hm : m < B ^ 4) (hn : n < B ^ 4) :
    Calls Try.prog 48 #[stV U (d : Int) K v u, .int .i64 k] w fun e w' => e = .returned (.int .i64 (thr d m n k)) ∧ Below w.heap.size w w' := by
  have hal := (Below.refl _ w).alloc (Nat.le_refl _) (.cells #[.int .i64 U, .int .i64 (d : Int), .int .u8 (K 0), .int .u8 (K 1), .int .u8 (K 2), .int .u8 (K 3), .int .u8 (K 4), .int .u8 (K 5), .int .u8 (K 6), .int .u8 (K 7), .int .u8 (K 8), .int .u8 (K 9), .int .u8 (K 10), .int .u8 (K 11), .int .u8 (K 12), .int .u8 (K 13), .int .u8 (K 14), .int .u8 (K 15), v, u] 51)
  have HA := Lib.hid hal
  have HS := Lib.hid (st_row w U (d : Int) K v u 51)
  have HV := Lib.hid hv
  have HU := Lib.hid hu
  obtain ⟨y, hy⟩ : ∃ y, y = 2 * d - k := ⟨_, rfl⟩
  have HCh := Lib.hid (fun W => rchoose_nt (2 * d) (d : Int) W (by omega) (by omega) (by omega))
  rw [show chsI (2 * d) (d : Int) = chs (2 * d) d from chsI_nat _ _, show ((2 * d : Nat) : Int) = 2 * (d : Int) by omega] at HCh
  have HC1 := Lib.hid (fun (i : Nat) (hi : i ≤ k) W => rchoose_nt k (i : Int) W (by omega) (by omega) (by omega))
  have HC2 := Lib.hid (fun (i : Nat) (hi : i ≤ k) (z : Int) (hz : z = (d : Int) - i) W => rchoose_nt y z W (by omega) (by omega) (by omega))
  have HTm := Lib.hid (fun (i : Nat) (z : Int) (hz : z = (d : Int) - i) W p q (hp : Nt W p (chsI k (i : Int))) (hq : Nt W q (chsI y z)) => rtimes_nt _ _ p q W hp hq (by rw [chsI_nat]; exact lim_huge (choose_lim (by omega) _)) (lim_huge (lt_lim (chsI_lim (by omega) _) (by omega))))
  have HTe := Lib.hid (fun (i : Nat) (z : Int) (hz : z = (d : Int) - i) => (by rw [chsI_nat, hy, hz]; exact T_eq d k i : chsI k (i : Int) * chsI y z = T d k i))
  have HPl := Lib.hid (fun (i : Nat) (hi : i ≤ k) W p q (hp : Nt W p (sum (T d k) i)) (hq : Nt W q (T d k i)) => rplus_nt (sum (T d k) i) (T d k i) p q W hp hq (huge_of (sums_huge hd hk (by omega))) (lim_huge (T_lim hd hk _)))
  have HIn := Lib.hid (fun (i : Nat) (hi : i ≤ k) W p q (hp : Nt W p (sum (T d k) (i + 1))) (hq : Nt W q (chs (2 * d) d)) (h : Below w.heap.size w W) => rwithin_nt (sum (T d k) (i + 1)) (chs (2 * d) d) m n p q v u W hp hq (hv.below h) (hu.below h) (huge_of (sums_huge hd hk (by omega))) (lim_huge (choose_lim (by omega) _)) (lim_huge (lim4 hm)) (lim_huge (lim4 hn)))
  have hyI : (2 * (d : Int) - (k : Int)) = (y : Int) := by omega
  have Hk := Lib.hid hk
  have Hd := Lib.hid hd
  obtain ⟨A1, n1, c1, rfl⟩ := hv.shape
  obtain ⟨A2, n2, c2, rfl⟩ := hu.shape
  have k1 : (w.alloc (.cells #[.int .i64 U, .int .i64 (d : Int), .int .u8 (K 0), .int .u8 (K 1), .int .u8 (K 2), .int .u8 (K 3), .int .u8 (K 4), .int .u8 (K 5), .int .u8 (K 6), .int .u8 (K 7), .int .u8 (K 8), .int .u8 (K 9), .int .u8 (K 10), .int .u8 (K 11), .int .u8 (K 12), .int .u8 (K 13), .int .u8 (K 14), .int .u8 (K 15), (.slice A1 n1 c1), (.slice A2 n2 c2)] 51)).cell? ⟨w.heap.size, 1, none⟩ = some (.int .i64 d) := HS.out.cell (i := 1) (by omega)
  clear hal hy hv hu
  generalize hW0 : w.alloc (.cells #[.int .i64 U, .int .i64 (d : Int), .int .u8 (K 0), .int .u8 (K 1), .int .u8 (K 2), .int .u8 (K 3), .int .u8 (K 4), .int .u8 (K 5), .int .u8 (K 6), .int .u8 (K 7), .int .u8 (K 8), .int .u8 (K 9), .int .u8 (K 10), .int .u8 (K 11), .int .u8 (K 12), .int .u8 (K 13), .int .u8 (K 14), .int .u8 (K 15), (.slice A1 n1 c1), (.slice A2 n2 c2)] 51) = W0 at *
  go_enter Try.func48, Try.ntmps48
  go_wp2_with fail
  refine (HCh.out _).mono ?_
  rintro e w1 ⟨v1, rfl, hN1, hB1⟩
  have HN1 := Lib.hid hN1
  have HB1 := Lib.hid hB1
  obtain ⟨A5, n5, c5, rfl⟩ := hN1.shape
  have k1 := cell_below hB1 k1
  have HS1 := Lib.hid (HS.out.of_block (hB1.block _ HS.out.lt))
  clear hN1 hB1
  go_wp2_with fail
  go_loopw [6, 7] (fun s6 s7 wr => ∃ j : Nat, j ≤ k + 1 ∧ s7 = .int .i64 ((j : Int) - 1) ∧ Hid (Nt wr s6 (sum (T d k) j)) ∧ Hid (∀ i, i < j → okT d m n k i = true) ∧ Below w1.heap.size w1 wr) (fun _ s7 _ => k + 1 - (intOf s7 + 1).toNat)
  case atStart => exact ⟨0, Nat.zero_le _, rfl, Nt.nil _, fun i hi => by omega, Below.refl _ _⟩
  case round =>
    obtain ⟨j, hj, rfl, hN, hok, hbel⟩ := hrel
    obtain ⟨W2, rfl⟩ : ∃ W2 : World, W2 = wr := ⟨_, rfl⟩
    have HBel := Lib.hid hbel
    have HSr := Lib.hid (HS1.out.of_block (hbel.block _ HS1.out.lt))
    have k1 := cell_below hbel k1
    obtain ⟨A6, n6, c6, rfl⟩ := hN.out.shape
    obtain ⟨xx, hxx⟩ : ∃ xx : Int, xx = (j : Int) - 1 := ⟨_, rfl⟩
    rw [← hxx]
    by_cases hlt : j ≤ k
    · obtain ⟨z, hz⟩ : ∃ z : Int, z = (d : Int) - j := ⟨_, rfl⟩
      obtain ⟨z1, hz1⟩ : ∃ z1 : Int, z1 = (d : Int) - xx := ⟨_, rfl⟩
      have g1 : IntKind.i64.wrap (xx + 1) = (j : Int) := by rw [IntKind.wrap_i64]; omega
      have g2 : IntKind.i64.wrap (2 * (d : Int)) = 2 * (d : Int) := by rw [IntKind.wrap_i64]; omega
      have g3 : IntKind.i64.wrap (2 * (d : Int) - (k : Int)) = (y : Int) := by rw [IntKind.wrap_i64]; omega
      have g4 : IntKind.i64.wrap ((d : Int) - xx) = z1 := by rw [IntKind.wrap_i64]; omega
      have g5 : IntKind.i64.wrap (z1 - 1) = z := by rw [IntKind.wrap_i64]; omega
      have g6 : IntKind.i64.wrap (y : Int) = (y : Int) := by rw [IntKind.wrap_i64]; omega
      have hlt2 : xx < (k : Int) := by omega
      have HT1 := Lib.hid (HC1.out j hlt)
      have HT2 := Lib.hid (HC2.out j hlt z hz)
      have HTm2 := Lib.hid (HTm.out j z hz)
      have HTe2 := Lib.hid (HTe.out j z hz)
      have HXX := Lib.hid hxx
      clear hbel hz hz1 hxx
      go_upto_region 5 with fail
      go_cut [6] (fun s6 wx => Hid (Nt wx s6 (sum (T d k) (j + 1))) ∧ Below W2.heap.size W2 wx)
      case first =>
        go_region_held3 (fun w' => w'.cell? ⟨w.heap.size, 1, none⟩ = some (.int .i64 d)) (first | go_keep | exact cell_below hD.out k1)
          (first
            | (go_at_call_of 43 (Value.int .i64 (k : Int)); refine (HT1.out _).mono ?_; rintro e wa ⟨p, rfl, hp, hBa⟩; obtain ⟨Ap, np, cp, rfl⟩ := hp.shape; have hD := Lib.hid (below_then (w := W2) (by first | exact hD.out | exact (Below.refl _ _).drew) hBa); have Hp := Lib.hid hp; (try have Hq := Lib.hid (Hq.out.below hBa)); clear hp hBa)
            | (go_at_call_of 43 (Value.int .i64 (y : Int)); refine (HT2.out _).mono ?_; rintro e wb ⟨q, rfl, hq, hBb⟩; obtain ⟨Aq, nq, cq, rfl⟩ := hq.shape; have hD := Lib.hid (below_then (w := W2) (by first | exact hD.out | exact (Below.refl _ _).drew) hBb); have Hq := Lib.hid hq; (try have Hp := Lib.hid (Hp.out.below hBb)); clear hq hBb)
            | (go_at_call 69; refine (HTm2.out _ _ _ Hp.out Hq.out).mono ?_; rintro e wc ⟨r, rfl, hr, hBc⟩; rw [HTe2.out] at hr; obtain ⟨Ar, nr, cr, rfl⟩ := hr.shape; have hD := Lib.hid (below_then hD.out hBc); have Hr := Lib.hid hr; clear hr hBc)
            | (go_at_call 68; refine (HPl.out j hlt _ _ _ (hN.out.below hD.out) Hr.out).mono ?_; rintro e wd ⟨r2, rfl, hr2, hBd, _⟩; obtain ⟨Ar2, nr2, cr2, rfl⟩ := hr2.shape; have hD := Lib.hid (below_then hD.out hBd); have Hr2 := Lib.hid hr2; clear hr2 hBd))
        all_goals
          go_wp2_with fail
          go_meet
          case rel => exact ⟨Hr2.out, hD.out⟩
      case rest =>
        obtain ⟨hNs, hbc⟩ := hcut
        have HBc := Lib.hid (HBel.out.trans (hbc.mono HBel.out.size))
        have HSc := Lib.hid (HSr.out.of_block (hbc.block _ HSr.out.lt))
        have HNs := Lib.hid hNs.out
        have q18 : wc.cell? ⟨w.heap.size, 18, none⟩ = some (.slice A1 n1 c1) := HSc.out.cell (i := 18) (by omega)
        have q19 : wc.cell? ⟨w.heap.size, 19, none⟩ = some (.slice A2 n2 c2) := HSc.out.cell (i := 19) (by omega)
        have HIn2 := Lib.hid (HIn.out j hlt wc _ _ HNs.out (HN1.out.below HBc.out) (below_then HA.out (below_then HB1.out HBc.out)))
        obtain ⟨A7, n7, c7, rfl⟩ := HNs.out.shape
        rw [← okT_eq] at HIn2
        clear hNs hbc g1 g2 g3 g4 g5 g6 k1
        cases hc : okT d m n k j with
        | true =>
          rw [hc] at HIn2
          have HOk : Hid (∀ i, i < j + 1 → okT d m n k i = true) := fun i hi => by
            rcases Nat.lt_or_ge i j with h | h
            · exact hok.out i h
            · obtain rfl : i = j := by omega
              exact hc
          clear hc
          go_wp2_with fail
          refine HIn2.out.mono ?_
          rintro e w5 ⟨rfl, hB5⟩
          have HB5 := Lib.hid (below_then HBc.out hB5)
          have HN5 := Lib.hid (HNs.out.below hB5)
          have hx2 : -2 ≤ xx ∧ xx ≤ 1000 := by have := HXX.out; omega
          clear hB5
          go_wp2
          go_roundw
          case rel => exact ⟨j + 1, by omega, by have := HXX.out; congr 1; omega, HN5.out, HOk.out, HB5.out⟩
          case measure =>
            have := HXX.out
            simp [intOf]; omega
        | false =>
          rw [hc] at HIn2
          have HT : Hid (thr d m n k = xx) := by
            have := HXX.out
            show _ = _
            unfold thr
            rw [good_of (by omega) hok.out (fun _ => hc)]
            omega
          clear hc
          go_wp2_with fail
          refine HIn2.out.mono ?_
          rintro e w5 ⟨rfl, hB5⟩
          have HB5 := Lib.hid (below_then HBc.out hB5)
          clear hB5
          go_wp2
          go_ret
          exact ⟨by rw [HT.out]; rfl, below_then HA.out (below_then HB1.out HB5.out)⟩
    · obtain rfl : j = k + 1 := by omega
      have HT : Hid (thr d m n k = xx) := by
        show _ = _
        unfold thr
        rw [good_of (Nat.le_refl _) hok.out (fun h => by omega), hxx]
      have hxk : xx = (k : Int) := by omega
      subst hxk
      clear hbel hxx
      go_wp2
      go_ret
      exact ⟨by rw [HT.out]; rfl, below_then HA.out (below_then HB1.out HBel.out)⟩
end Go.Proofs.Ytmbokpfgnicboaa

/- The walks of the reference's package of codes: Threshold. -/
namespace Go.Proofs.Ytmbokpfgnicboaa
open Go.RowKit Go.Hd _root_.Hd
set_option exponentiation.threshold 2000

set_option maxRecDepth 100000 in
set_option maxHeartbeats 1000000 in
theorem rthreshold_any (U Bk : Int) (K : Nat → Nat) (n m : Nat) (f g : Nat → Nat) (v u : Value) (k : Int) (w : World) (hv : Rd w .u32 v n f) (hu : Rd w .u32 u m g) (hf : ∀ j, j < n → f j < B) (hg : ∀ j, j < m → g j < B) :
    Calls Try.prog 18 #[stV U Bk K v u, .int .i64 k] w fun e w' => e = .returned (.tuple #[.int .i64 (thV U Bk n f m g k), .int .i64 (thE U Bk n f m g k)]) ∧ Below w.heap.size w w' := by
  have hal := (Below.refl _ w).alloc (Nat.le_refl _) (.cells #[.int .i64 U, .int .i64 Bk, .int .u8 (K 0), .int .u8 (K 1), .int .u8 (K 2), .int .u8 (K 3), .int .u8 (K 4), .int .u8 (K 5), .int .u8 (K 6), .int .u8 (K 7), .int .u8 (K 8), .int .u8 (K 9), .int .u8 (K 10), .int .u8 (K 11), .int .u8 (K 12), .int .u8 (K 13), .int .u8 (K 14), .int .u8 (K 15), v, u] 51)
  have HCk := Lib.hid (rvalidsteps_any U Bk K n m f g v u _ (hv.below hal) (hu.below hal) hf hg)
  have HA := Lib.hid hal
  have HS := Lib.hid (st_row w U Bk K v u 51)
  have HV := Lib.hid hv
  have HU := Lib.hid hu
  obtain ⟨A, n', c, rfl⟩ : ∃ A n c, v = .slice A n c := by obtain ⟨A, c, h, _⟩ := hv; exact ⟨_, _, _, h⟩
  obtain ⟨A2, m', c2, rfl⟩ : ∃ A n c, u = .slice A n c := by obtain ⟨A, c, h, _⟩ := hu; exact ⟨_, _, _, h⟩
  by_cases hs : VSt U Bk n f m g
  · rw [tt_pos hs] at HCk
    obtain ⟨d, rfl, hd1, hd, cf, cg, lf, lg, hlt⟩ := vst_facts hs hf hg
    have HTh := Lib.hid (fun (q : Nat) (hq : q ≤ 2 * d) W (h : Below w.heap.size w W) => rthresholdof_any U d q (val f n) (val g m) K _ _ W (Nt.below ⟨n, f, HV.out, cf, rfl⟩ h) (Nt.below ⟨m, g, HU.out, cg, rfl⟩ h) hd hq lf lg)
    by_cases h1 : k < 0
    · have hE : Hid (thE U (d : Int) n f m g k = 2) := by show _ = _; unfold thE; rw [tt_pos hs, if_pos rfl, if_neg (by omega)]
      have hVv : Hid (thV U (d : Int) n f m g k = 0) := by show _ = _; unfold thV; rw [tt_pos hs, if_pos rfl, if_neg (by omega)]
      clear hv hu hf hg hal hs cf cg lf lg
      go_enter Try.func18, Try.ntmps18
      go_wp2_with (refine wp_load_whole rfl 51 _ rfl w.heap.size rfl 51 20 _ _ _ HS.out rfl (st_cs _ _ _ _ _) Try.underlying51 rfl st_size ?_)
      refine HCk.out.mono ?_
      rintro e w1 ⟨rfl, hB1⟩
      have HB1 := Lib.hid (below_then HA.out hB1)
      clear hB1
      go_wp2
      go_ret2
      exact ⟨by rw [hE.out, hVv.out]; rfl, HB1.out⟩
    · by_cases h2 : 2 * (d : Int) < k
      · have hE : Hid (thE U (d : Int) n f m g k = 2) := by show _ = _; unfold thE; rw [tt_pos hs, if_pos rfl, if_neg (by omega)]
        have hVv : Hid (thV U (d : Int) n f m g k = 0) := by show _ = _; unfold thV; rw [tt_pos hs, if_pos rfl, if_neg (by omega)]
        have k1 : (w.alloc (.cells #[.int .i64 U, .int .i64 (d : Int), .int .u8 (K 0), .int .u8 (K 1), .int .u8 (K 2), .int .u8 (K 3), .int .u8 (K 4), .int .u8 (K 5), .int .u8 (K 6), .int .u8 (K 7), .int .u8 (K 8), .int .u8 (K 9), .int .u8 (K 10), .int .u8 (K 11), .int .u8 (K 12), .int .u8 (K 13), .int .u8 (K 14), .int .u8 (K 15), (.slice A n' c), (.slice A2 m' c2)] 51)).cell? ⟨w.heap.size, 1, none⟩ = some (.int .i64 d) := HS.out.cell (i := 1) (by omega)
        clear hv hu hf hg hal hs cf cg lf lg
        go_enter Try.func18, Try.ntmps18
        go_wp2_with (refine wp_load_whole rfl 51 _ rfl w.heap.size rfl 51 20 _ _ _ HS.out rfl (st_cs _ _ _ _ _) Try.underlying51 rfl st_size ?_)
        refine HCk.out.mono ?_
        rintro e w1 ⟨rfl, hB1⟩
        have HB1 := Lib.hid (below_then HA.out hB1)
        have k1' := cell_below hB1 k1
        clear hB1 k1
        go_wp2
        go_ret2
        exact ⟨by rw [hE.out, hVv.out]; rfl, HB1.out⟩
      · obtain ⟨q, rfl⟩ := Int.eq_ofNat_of_zero_le (show 0 ≤ k by omega)
        have hE : Hid (thE U (d : Int) n f m g (q : Int) = 0) := by show _ = _; unfold thE; rw [tt_pos hs, if_pos rfl, if_pos (by omega)]
        have hVv : Hid (thV U (d : Int) n f m g (q : Int) = thr d (val f n) (val g m) q) := by show _ = _; unfold thV; rw [tt_pos hs, if_pos rfl, if_pos (by omega), Int.toNat_natCast, Int.toNat_natCast]
        have k1 : (w.alloc (.cells #[.int .i64 U, .int .i64 (d : Int), .int .u8 (K 0), .int .u8 (K 1), .int .u8 (K 2), .int .u8 (K 3), .int .u8 (K 4), .int .u8 (K 5), .int .u8 (K 6), .int .u8 (K 7), .int .u8 (K 8), .int .u8 (K 9), .int .u8 (K 10), .int .u8 (K 11), .int .u8 (K 12), .int .u8 (K 13), .int .u8 (K 14), .int .u8 (K 15), (.slice A n' c), (.slice A2 m' c2)] 51)).cell? ⟨w.heap.size, 1, none⟩ = some (.int .i64 d) := HS.out.cell (i := 1) (by omega)
        clear hv hu hf hg hal hs cf cg lf lg
        go_enter Try.func18, Try.ntmps18
        go_wp2_with (refine wp_load_whole rfl 51 _ rfl w.heap.size rfl 51 20 _ _ _ HS.out rfl (st_cs _ _ _ _ _) Try.underlying51 rfl st_size ?_)
        refine HCk.out.mono ?_
        rintro e w1 ⟨rfl, hB1⟩
        have HB1 := Lib.hid (below_then HA.out hB1)
        have HS1 := Lib.hid (HS.out.of_block (hB1.block _ HS.out.lt))
        have k1' := cell_below hB1 k1
        clear hB1 k1
        go_wp2_with (refine wp_load_whole rfl 51 _ rfl w.heap.size rfl 51 20 _ _ _ HS1.out rfl (st_cs _ _ _ _ _) Try.underlying51 rfl st_size ?_)
        refine (HTh.out q (by omega) _ HB1.out).mono ?_
        rintro e w2 ⟨rfl, hB2⟩
        have HB2 := Lib.hid (below_then HB1.out hB2)
        clear hB2
        go_wp2
        go_ret2
        exact ⟨by rw [hE.out, hVv.out]; rfl, HB2.out⟩
  · rw [tt_neg hs] at HCk
    have hE : Hid (thE U Bk n f m g k = 70) := by show _ = _; unfold thE; rw [tt_neg hs]; rfl
    have hVv : Hid (thV U Bk n f m g k = 0) := by show _ = _; unfold thV; rw [tt_neg hs]; rfl
    clear hv hu hf hg hal hs
    go_enter Try.func18, Try.ntmps18
    go_wp2_with (refine wp_load_whole rfl 51 _ rfl w.heap.size rfl 51 20 _ _ _ HS.out rfl (st_cs _ _ _ _ _) Try.underlying51 rfl st_size ?_)
    refine HCk.out.mono ?_
    rintro e w1 ⟨rfl, hB1⟩
    have HB1 := Lib.hid (below_then HA.out hB1)
    clear hB1
    go_wp2
    go_ret2
    exact ⟨by rw [hE.out, hVv.out]; rfl, HB1.out⟩
end Go.Proofs.Ytmbokpfgnicboaa

/- The walks of the reference's package of codes: Thresholds. -/
namespace Go.Proofs.Ytmbokpfgnicboaa
open Go.RowKit Go.Hd _root_.Hd
set_option exponentiation.threshold 2000

theorem infoInt' : (Try.prog.info? 3).map (fun i => (i.zero, i.size, i.bytes)) = some (some (.int .i64 0), 1, 8) := by kernel_rfl
theorem infoBool' : (Try.prog.info? 4).map (fun i => (i.zero, i.size, i.bytes)) = some (some (.bool false), 1, 1) := by kernel_rfl

set_option maxRecDepth 100000 in
set_option maxHeartbeats 2000000 in
/-- The thresholds for 0 to 2 d marked places. -/
theorem rthresholds_any (U : Int) (d m n : Nat) (K : Nat → Nat) (v u : Value) (w : World) (hv : Nt w v m) (hu : Nt w u n) (hd : d ≤ 64) (hm : m < B ^ 4) (hn : n < B ^ 4) :
    Calls Try.prog 49 #[stV U (d : Int) K v u] w fun e w' => ∃ v', e = .returned v' ∧ RdV w' v' (2 * d + 1) (fun j => .int .i64 (thr d m n j)) ∧ Below w.heap.size w w' := by
  have hal := (Below.refl _ w).alloc (Nat.le_refl _) (.cells #[.int .i64 U, .int .i64 (d : Int), .int .u8 (K 0), .int .u8 (K 1), .int .u8 (K 2), .int .u8 (K 3), .int .u8 (K 4), .int .u8 (K 5), .int .u8 (K 6), .int .u8 (K 7), .int .u8 (K 8), .int .u8 (K 9), .int .u8 (K 10), .int .u8 (K 11), .int .u8 (K 12), .int .u8 (K 13), .int .u8 (K 14), .int .u8 (K 15), v, u] 51)
  have HA := Lib.hid hal
  have HS := Lib.hid (st_row w U (d : Int) K v u 51)
  have HTh := Lib.hid (fun (k : Nat) (hk : k ≤ 2 * d) W (h : Below w.heap.size w W) => rthresholdof_any U d k m n K v u W (hv.below h) (hu.below h) hd hk hm hn)
  obtain ⟨A1, n1, c1, rfl⟩ := hv.shape
  obtain ⟨A2, n2, c2, rfl⟩ := hu.shape
  have HE : Hid ((w.alloc (.cells #[.int .i64 U, .int .i64 (d : Int), .int .u8 (K 0), .int .u8 (K 1), .int .u8 (K 2), .int .u8 (K 3), .int .u8 (K 4), .int .u8 (K 5), .int .u8 (K 6), .int .u8 (K 7), .int .u8 (K 8), .int .u8 (K 9), .int .u8 (K 10), .int .u8 (K 11), .int .u8 (K 12), .int .u8 (K 13), .int .u8 (K 14), .int .u8 (K 15), (.slice A1 n1 c1), (.slice A2 n2 c2)] 51)).ownsRow (w.heap.size + 1) 3 1 (.slice none 0 0) 0 []) := World.ownsRow_nil _ _ _ _
  clear hal hv hu
  go_enter Try.func49, Try.ntmps49
  go_wp2_with fail
  generalize hW0 : w.alloc (.cells #[.int .i64 U, .int .i64 (d : Int), .int .u8 (K 0), .int .u8 (K 1), .int .u8 (K 2), .int .u8 (K 3), .int .u8 (K 4), .int .u8 (K 5), .int .u8 (K 6), .int .u8 (K 7), .int .u8 (K 8), .int .u8 (K 9), .int .u8 (K 10), .int .u8 (K 11), .int .u8 (K 12), .int .u8 (K 13), .int .u8 (K 14), .int .u8 (K 15), (.slice A1 n1 c1), (.slice A2 n2 c2)] 51) = W0 at *
  have hsz0 : W0.heap.size = w.heap.size + 1 := by rw [← hW0]; simp
  clear hW0
  go_loopw [3, 4] (fun s3 s4 wr => ∃ k : Nat, k ≤ 2 * d + 1 ∧ s4 = .int .i64 k ∧ Hid (wr.ownsRow (w.heap.size + 1) 3 1 s3 k ((List.range k).map fun j => .int .i64 (thr d m n j))) ∧ Below W0.heap.size W0 wr) (fun _ s4 _ => 2 * d + 1 - (intOf s4).toNat)
  case atStart => exact ⟨0, Nat.zero_le _, rfl, HE.out, Below.refl _ _⟩
  case round =>
    obtain ⟨k, hk, rfl, hown, hbel⟩ := hrel
    obtain ⟨W2, rfl⟩ : ∃ W2 : World, W2 = wr := ⟨_, rfl⟩
    have HBel := Lib.hid hbel
    have hsz := hbel.size
    have HSr := Lib.hid (HS.out.of_block (hbel.block _ HS.out.lt))
    have k1 : W2.cell? ⟨w.heap.size, 1, none⟩ = some (.int .i64 d) := HSr.out.cell (i := 1) (by omega)
    obtain ⟨A5, c5, rfl⟩ := own_slice hown.out
    by_cases hlt : k ≤ 2 * d
    · have HT := Lib.hid (HTh.out k hlt W2 (below_then HA.out hbel))
      clear hbel
      go_wp2_with (refine wp_load_whole rfl 51 _ rfl w.heap.size rfl 51 20 _ _ _ HSr.out rfl (st_cs _ _ _ _ _) Try.underlying51 rfl st_size ?_)
      refine HT.out.mono ?_
      rintro e w3 ⟨rfl, hB3⟩
      have HB3 := Lib.hid hB3
      have hsz3 := hB3.size
      have HO4 := Lib.hid (own_below (own_below hown.out hB3) ((Below.refl w3.heap.size w3).alloc (Nat.le_refl _) (.cells #[.int .i64 (thr d m n k)] 3)))
      clear hB3
      go_wp2_with (at_builtin; refine wp_app (w.heap.size + 1) rfl _ _ 30 3 (.int .i64 0) 8 rfl Try.underlying30 infoInt' rfl (by decide) (.slice A5 k c5) ((List.range k).map fun j => .int .i64 (thr d m n j)) rfl _ 1 (fun _ => .int .i64 (thr d m n k)) rfl (rdV_one _ _ _) (fun _ _ => rfl) (by rw [List.length_map, List.length_range]; exact HO4.out) (by simp; omega) (by simp; omega) ?_; intro v5 w5 hown5 hg5; have HO5 := Lib.hid hown5; have HG5 := Lib.hid hg5; clear hown5 hg5)
      go_roundw
      case rel =>
        refine ⟨k + 1, by omega, by go_num, ?_, ?_⟩
        · have h := HO5.out
          rw [List.length_map, List.length_range] at h
          rw [List.range_succ, List.map_append]
          exact h
        · exact below_own (((HBel.out.trans (HB3.out.mono hsz))).alloc (by omega) _) (hsz0 ▸ HO4.out) HG5.out (by simp; omega)
      case measure => simp [intOf]; omega
    · obtain rfl : k = 2 * d + 1 := by omega
      clear hbel
      go_wp2
      go_ret
      exact ⟨_, rfl, rdV_of_own hown.out _ (fun j hj => by simp [hj]), below_then HA.out HBel.out⟩
end Go.Proofs.Ytmbokpfgnicboaa

/- The walks of the reference's package of codes: Complete. -/
namespace Go.Proofs.Ytmbokpfgnicboaa
open Go.RowKit Go.Hd _root_.Hd
set_option exponentiation.threshold 2000

/-- The weights of the next block, from those before v. -/
def MX (d m n c v w : Nat) : Prop := ∃ x, x < v ∧ May d m n c x ∧ thr d m n (x + w) < (x : Int)
/-- And from v itself, up to i. -/
def MY (d m n c v i w : Nat) : Prop := MX d m n c v w ∨ (w < i ∧ May d m n c v ∧ thr d m n (v + w) < (v : Int))
theorem MX_zero {d m n c w : Nat} : ¬ MX d m n c 0 w := fun ⟨x, hx, _⟩ => absurd hx (by omega)
theorem MX_end {d m n c w : Nat} (hw : w ≤ d) : MX d m n c (d + 1) w ↔ May d m n (c + 1) w :=
  ⟨fun ⟨x, h1, h2, h3⟩ => ⟨hw, x, by omega, h2, h3⟩, fun ⟨_, x, h1, h2, h3⟩ => ⟨x, by omega, h2, h3⟩⟩
theorem MY_zero {d m n c v w : Nat} : MX d m n c v w ↔ MY d m n c v 0 w := ⟨Or.inl, fun h => h.resolve_right (fun h => absurd h.1 (by omega))⟩
theorem MY_end {d m n c v w : Nat} (hw : w ≤ d) : MY d m n c v (d + 1) w ↔ MX d m n c (v + 1) w := by
  constructor
  · rintro (⟨x, h1, h2, h3⟩ | ⟨h1, h2, h3⟩)
    · exact ⟨x, by omega, h2, h3⟩
    · exact ⟨v, by omega, h2, h3⟩
  · rintro ⟨x, h1, h2, h3⟩
    by_cases e : x = v
    · subst e
      exact Or.inr ⟨by omega, h2, h3⟩
    · exact Or.inl ⟨x, by omega, h2, h3⟩
theorem MY_other {d m n c v i w : Nat} (h : w ≠ i) : MY d m n c v i w ↔ MY d m n c v (i + 1) w := by
  constructor
  · rintro (h1 | ⟨h1, h2⟩)
    · exact Or.inl h1
    · exact Or.inr ⟨by omega, h2⟩
  · rintro (h1 | ⟨h1, h2⟩)
    · exact Or.inl h1
    · exact Or.inr ⟨by omega, h2⟩
theorem MY_at {d m n c v i : Nat} : MY d m n c v (i + 1) i ↔ (MX d m n c v i ∨ (May d m n c v ∧ thr d m n (v + i) < (v : Int))) := by
  constructor
  · rintro (h1 | ⟨_, h2⟩)
    · exact Or.inl h1
    · exact Or.inr h2
  · rintro (h1 | h2)
    · exact Or.inl h1
    · exact Or.inr ⟨by omega, h2⟩
theorem MY_here {d m n c v i : Nat} : MY d m n c v i i ↔ MX d m n c v i := ⟨fun h => h.resolve_right (fun h => absurd h.1 (by omega)), Or.inl⟩

theorem rowB_set {wr : World} {b N i : Nat} {t : TypeId} {P Q : Nat → Prop} (h : wr.rowIs b t N (fun j => .bool (tt (P j)))) (x : Bool) (hx : x = tt (Q i)) (ho : ∀ j, j ≠ i → (P j ↔ Q j)) : (wr.setCell ⟨b, i, none⟩ (.bool x)).rowIs b t N (fun j => .bool (tt (Q j))) :=
  (h.set i _).congr fun j hj => by
    by_cases e : j = i
    · subst e
      rw [if_pos rfl, hx]
    · rw [if_neg e, tt_congr (ho j e)]

theorem row_made_set (w : World) (z x : Value) (n i : Nat) (t : TypeId) : (w.alloc (.cells ((madeCells #[z] n).setIfInBounds i x) t)).rowIs w.heap.size t n (fun j => if j = i then x else z) := by
  have h := World.rowIs_alloc w ((madeCells #[z] n).setIfInBounds i x) t (fun j => if j = i then x else z) (fun j hj => by
    rw [Array.size_setIfInBounds, size_madeCells] at hj
    rw [Array.getElem?_setIfInBounds]
    by_cases e : i = j
    · subst e
      rw [if_pos rfl, if_pos (by rw [size_madeCells]; exact hj), if_pos rfl]
    · rw [if_neg e, if_neg (fun h => e h.symm)]
      simp [madeCells, hj, Nat.mod_one])
  rw [Array.size_setIfInBounds, size_madeCells] at h
  exact h

set_option maxRecDepth 100000 in
set_option maxHeartbeats 4000000 in
theorem rcomplete_good (U d n m : Nat) (K : Nat → Nat) (f g : Nat → Nat) (v u : Value) (w : World) (hv : Rd w .u32 v n f) (hu : Rd w .u32 u m g) (hf : ∀ j, j < n → f j < B) (hg : ∀ j, j < m → g j < B) (hs : VSt (U : Int) (d : Int) n f m g) :
    Calls Try.prog 20 #[stV (U : Int) (d : Int) K v u] w fun e w' => e = .returned (.tuple #[.bool (tt (¬ May d (val f n) (val g m) (U - 2) d)), .int .i64 0]) ∧ Below w.heap.size w w' := by
  have hal := (Below.refl _ w).alloc (Nat.le_refl _) (.cells #[.int .i64 (U : Int), .int .i64 (d : Int), .int .u8 (K 0), .int .u8 (K 1), .int .u8 (K 2), .int .u8 (K 3), .int .u8 (K 4), .int .u8 (K 5), .int .u8 (K 6), .int .u8 (K 7), .int .u8 (K 8), .int .u8 (K 9), .int .u8 (K 10), .int .u8 (K 11), .int .u8 (K 12), .int .u8 (K 13), .int .u8 (K 14), .int .u8 (K 15), v, u] 51)
  have HCk := Lib.hid (rvalidsteps_any (U : Int) (d : Int) K n m f g v u _ (hv.below hal) (hu.below hal) hf hg)
  rw [tt_pos hs] at HCk
  have HA := Lib.hid hal
  have HS := Lib.hid (st_row w (U : Int) (d : Int) K v u 51)
  obtain ⟨d', hdd, hd1, hd, cf, cg, lf, lg, hlt⟩ := vst_facts hs hf hg
  obtain rfl : d' = d := by omega
  have hU2 : 2 ≤ U := by have := hs.1; omega
  have hU16 : U ≤ 16 := by have := hs.2.1; omega
  have HTh := Lib.hid (fun W (h : Below w.heap.size w W) => rthresholds_any (U : Int) d' (val f n) (val g m) K v u W (Nt.below ⟨n, f, hv, cf, rfl⟩ h) (Nt.below ⟨m, g, hu, cg, rfl⟩ h) hd lf lg)
  obtain ⟨A, n', c, rfl⟩ : ∃ A n c, v = .slice A n c := by obtain ⟨A, c, h, _⟩ := hv; exact ⟨_, _, _, h⟩
  obtain ⟨A2, m', c2, rfl⟩ : ∃ A n c, u = .slice A n c := by obtain ⟨A, c, h, _⟩ := hu; exact ⟨_, _, _, h⟩
  have hmk := run_make_row' (P := Try.prog) 90 4 (.bool false) 1 Try.underlying90 infoBool' rfl .i64 .i64 (d' + 1) (by omega) (by omega)
  rw [show ((d' + 1 : Nat) : Int) = (d' : Int) + 1 by omega] at hmk
  clear hv hu hf hg hal hs cf cg lf lg hlt hdd
  generalize val f n = vf at *
  generalize val g m = vg at *
  go_enter Try.func20, Try.ntmps20
  go_wp2_with (refine wp_load_whole rfl 51 _ rfl w.heap.size rfl 51 20 _ _ _ HS.out rfl (st_cs _ _ _ _ _) Try.underlying51 rfl st_size ?_)
  refine HCk.out.mono ?_
  rintro e w1 ⟨rfl, hB1⟩
  have HB1 := Lib.hid (below_then HA.out hB1)
  have HS1 := Lib.hid (HS.out.of_block (hB1.block _ HS.out.lt))
  clear hB1
  go_wp2_with (refine wp_load_whole rfl 51 _ rfl w.heap.size rfl 51 20 _ _ _ HS1.out rfl (st_cs _ _ _ _ _) Try.underlying51 rfl st_size ?_)
  refine (HTh.out _ HB1.out).mono ?_
  rintro e w2 ⟨vt, rfl, hT, hB2⟩
  have HB2 := Lib.hid (below_then HB1.out hB2)
  have HS2 := Lib.hid (HS1.out.of_block (hB2.block _ HS1.out.lt))
  have hsz2 : w.heap.size < w2.heap.size := HS2.out.lt
  have k1 : w2.cell? ⟨w.heap.size, 1, none⟩ = some (.int .i64 d') := HS2.out.cell (i := 1) (by omega)
  have k0 : w2.cell? ⟨w.heap.size, 0, none⟩ = some (.int .i64 U) := HS2.out.cell (i := 0) (by omega)
  obtain ⟨At, ct, rfl, _, _, hT3⟩ := hT
  obtain ⟨bt, offt, rfl, hT4⟩ := hT3 (by omega)
  have HT := Lib.hid hT4
  have hrow0 := Lib.hid (World.rowIs_made w2 (.bool false) (d' + 1) 4)
  have q0 := hrow0.out.cell (i := 0) (by omega)
  have q1 := hrow0.out.frozen 0
  clear hB2 hT3 hT4 HTh HCk HS HS1
  go_wp2_with fail
  go_loopw [5, 6] (fun s5 s6 wr => ∃ (j b : Nat), j ≤ U - 2 ∧ s6 = .int .i64 ((j : Int) + 1) ∧ s5 = .slice (some ⟨b, 0, none⟩) (d' + 1) (d' + 1) ∧ w2.heap.size ≤ b ∧ wr.rowIs b 4 (d' + 1) (fun x => .bool (tt (May d' vf vg j x))) ∧ Below w2.heap.size w2 wr) (fun _ s6 _ => U - 1 - (intOf s6).toNat)
  case atStart =>
    refine ⟨0, w2.heap.size, Nat.zero_le _, rfl, rfl, Nat.le_refl _, ?_, (Below.refl _ _).alloc (Nat.le_refl _) _⟩
    refine (row_made_set w2 _ _ _ 0 _).congr fun x hx => ?_
    by_cases e : x = 0
    · subst e
      rw [if_pos rfl, tt_pos (show May d' vf vg 0 0 from rfl)]
    · rw [if_neg e, tt_neg (show ¬ May d' vf vg 0 x from e)]
  case round =>
    obtain ⟨j, b, hj, rfl, rfl, hb, hrow, hbel⟩ := hrel
    obtain ⟨W0, rfl⟩ : ∃ W0 : World, W0 = wr := ⟨_, rfl⟩
    have HBel := Lib.hid hbel
    have HRow := Lib.hid hrow
    have hsz0 := hbel.size
    have p0 := cell_below hbel k0
    have p1 := cell_below hbel k1
    by_cases hjU : j < U - 2
    · have hrow1 := Lib.hid (World.rowIs_made W0 (.bool false) (d' + 1) 4)
      have hbW := hrow.lt
      have HRowA := Lib.hid (hrow.alloc (.cells (madeCells #[.bool false] (d' + 1)) 4))
      have HBelA := Lib.hid (hbel.alloc hsz0 (.cells (madeCells #[.bool false] (d' + 1)) 4))
      clear hrow hbel
      go_wp2_with fail
      go_loopw [8] (fun s8 wr => ∃ x : Nat, x ≤ d' + 1 ∧ s8 = .int .i64 x ∧ wr.rowIs b 4 (d' + 1) (fun y => .bool (tt (May d' vf vg j y))) ∧ wr.rowIs W0.heap.size 4 (d' + 1) (fun y => .bool (tt (MX d' vf vg j x y))) ∧ Below w2.heap.size w2 wr) (fun s8 _ => d' + 1 - (intOf s8).toNat)
      case atStart => exact ⟨0, Nat.zero_le _, rfl, HRowA.out, hrow1.out.congr (fun y hy => by rw [tt_neg MX_zero]), HBelA.out⟩
      case round =>
        obtain ⟨x, hx, rfl, hr1, hr2, hbel1⟩ := hrel
        obtain ⟨W1, rfl⟩ : ∃ W1 : World, W1 = wr := ⟨_, rfl⟩
        have p0 := cell_below hbel1 k0
        have p1 := cell_below hbel1 k1
        have HR1 := Lib.hid hr1
        have HR2 := Lib.hid hr2
        have HBel1 := Lib.hid hbel1
        clear hr1 hr2 hbel1
        by_cases hlt : x ≤ d'
        · go_wp2_with fail
          go_loopw [9] (fun s9 wr => ∃ i : Nat, i ≤ d' + 1 ∧ s9 = .int .i64 i ∧ wr.rowIs b 4 (d' + 1) (fun y => .bool (tt (May d' vf vg j y))) ∧ wr.rowIs W0.heap.size 4 (d' + 1) (fun y => .bool (tt (MY d' vf vg j x i y))) ∧ Below w2.heap.size w2 wr) (fun s9 _ => d' + 1 - (intOf s9).toNat)
          case atStart => exact ⟨0, Nat.zero_le _, rfl, HR1.out, HR2.out.congr (fun y hy => by rw [tt_congr MY_zero]), HBel1.out⟩
          case round =>
            obtain ⟨i, hi, rfl, hr1, hr2, hbel2⟩ := hrel
            obtain ⟨W3, rfl⟩ : ∃ W3 : World, W3 = wr := ⟨_, rfl⟩
            have p0 := cell_below hbel2 k0
            have p1 := cell_below hbel2 k1
            have HR1 := Lib.hid hr1
            have HR2 := Lib.hid hr2
            have HBel2 := Lib.hid hbel2
            by_cases hlt2 : i ≤ d'
            · have c1 := hr2.cell (i := i) (by omega)
              have z1 := hr2.frozen i
              have c2 := hr1.cell (i := x) (by omega)
              have c3 := cell_below hbel2 (HT.out (x + i) (by omega))
              have hxi : ((x : Int) + (i : Int)).toNat = x + i := by omega
              have hbX : b ≠ W0.heap.size := by omega
              rw [tt_congr MY_here] at c1
              clear hr1 hr2 hbel2
              have HM : Hid (∀ e, e = tt (MY d' vf vg j x (i + 1) i) → (W3.setCell ⟨W0.heap.size, i, none⟩ (.bool e)).rowIs W0.heap.size 4 (d' + 1) (fun y => .bool (tt (MY d' vf vg j x (i + 1) y)))) := fun e he => rowB_set HR2.out e he (fun y hy => MY_other hy)
              have HK1 : Hid (∀ e, (W3.setCell ⟨W0.heap.size, i, none⟩ (.bool e)).rowIs b 4 (d' + 1) (fun y => .bool (tt (May d' vf vg j y)))) := fun e => HR1.out.setOther (by exact hbX) _
              have HK2 : Hid (∀ e, Below w2.heap.size w2 (W3.setCell ⟨W0.heap.size, i, none⟩ (.bool e))) := fun e => HBel2.out.setCell (p := ⟨W0.heap.size, i, none⟩) hsz0 _
              have HAt := Lib.hid (MY_at (d := d') (m := vf) (n := vg) (c := j) (v := x) (i := i))
              by_cases hA : MX d' vf vg j x i
              · rw [tt_pos hA] at c1
                have HV : Hid (true = tt (MY d' vf vg j x (i + 1) i)) := (tt_pos (HAt.out.2 (Or.inl hA))).symm
                clear hA
                go_wp2
                go_roundw
                case rel => exact ⟨i + 1, by omega, by go_num, HK1.out _, HM.out _ HV.out, HK2.out _⟩
                case measure => simp [intOf]; omega
              · rw [tt_neg hA] at c1
                by_cases hM : May d' vf vg j x
                · rw [tt_pos hM] at c2
                  by_cases ht : thr d' vf vg (x + i) < (x : Int)
                  · have HV : Hid (true = tt (MY d' vf vg j x (i + 1) i)) := (tt_pos (HAt.out.2 (Or.inr ⟨hM, ht⟩))).symm
                    clear hA hM
                    go_wp2
                    go_roundw
                    case rel => exact ⟨i + 1, by omega, by go_num, HK1.out _, HM.out _ HV.out, HK2.out _⟩
                    case measure => simp [intOf]; omega
                  · have HV : Hid (false = tt (MY d' vf vg j x (i + 1) i)) := (tt_neg (fun h => (HAt.out.1 h).elim hA (fun h2 => ht h2.2))).symm
                    clear hA hM
                    go_wp2
                    go_roundw
                    case rel => exact ⟨i + 1, by omega, by go_num, HK1.out _, HM.out _ HV.out, HK2.out _⟩
                    case measure => simp [intOf]; omega
                · rw [tt_neg hM] at c2
                  have HV : Hid (false = tt (MY d' vf vg j x (i + 1) i)) := (tt_neg (fun h => (HAt.out.1 h).elim hA (fun h2 => hM h2.1))).symm
                  clear hA hM
                  go_wp2
                  go_roundw
                  case rel => exact ⟨i + 1, by omega, by go_num, HK1.out _, HM.out _ HV.out, HK2.out _⟩
                  case measure => simp [intOf]; omega
            · obtain rfl : i = d' + 1 := by omega
              clear hr1 hr2 hbel2
              go_wp2
              go_roundw
              case rel => exact ⟨x + 1, by omega, by go_num, HR1.out, HR2.out.congr (fun y hy => by rw [tt_congr (MY_end (by omega))]), HBel2.out⟩
              case measure => simp [intOf]; omega
        · obtain rfl : x = d' + 1 := by omega
          go_wp2
          go_roundw
          case rel => exact ⟨j + 1, W0.heap.size, by omega, by go_num, rfl, hsz0, HR2.out.congr (fun y hy => by rw [tt_congr (MX_end (by omega))]), HBel1.out⟩
          case measure => simp [intOf]; omega
    · obtain rfl : j = U - 2 := by omega
      have c1 := hrow.cell (i := d') (by omega)
      have HTt := Lib.hid (tt_flip (May d' vf vg (U - 2) d'))
      generalize tt (May d' vf vg (U - 2) d') = bb at *
      clear hrow hbel
      go_wp2
      go_ret2
      exact ⟨by rw [← HTt.out]; rfl, below_then HB2.out HBel.out⟩

set_option maxRecDepth 100000 in
set_option maxHeartbeats 1000000 in
/-- Complete, whatever the code of steps. -/
theorem rcomplete_any (U Bk : Int) (K : Nat → Nat) (n m : Nat) (f g : Nat → Nat) (v u : Value) (w : World) (hv : Rd w .u32 v n f) (hu : Rd w .u32 u m g) (hf : ∀ j, j < n → f j < B) (hg : ∀ j, j < m → g j < B) :
    Calls Try.prog 20 #[stV U Bk K v u] w fun e w' => e = .returned (.tuple #[.bool (coP U Bk n f m g), .int .i64 (spE U Bk n f m g)]) ∧ Below w.heap.size w w' := by
  by_cases hs : VSt U Bk n f m g
  · obtain ⟨d, rfl, _⟩ := vst_facts hs hf hg
    obtain ⟨U', rfl⟩ := Int.eq_ofNat_of_zero_le (show 0 ≤ U by have := hs.1; omega)
    refine (rcomplete_good U' d n m K f g v u w hv hu hf hg hs).mono ?_
    rintro e w' ⟨rfl, hb⟩
    refine ⟨?_, hb⟩
    rw [spE_yes hs]
    unfold coP
    rw [tt_congr (show (VSt (U' : Int) (d : Int) n f m g ∧ ¬ May (d : Int).toNat (val f n) (val g m) ((U' : Int) - 2).toNat (d : Int).toNat) ↔ ¬ May d (val f n) (val g m) (U' - 2) d from ?_)]
    rw [Int.toNat_natCast, show ((U' : Int) - 2).toNat = U' - 2 by omega]
    exact ⟨fun h => h.2, fun h => ⟨hs, h⟩⟩
  · have hal := (Below.refl _ w).alloc (Nat.le_refl _) (.cells #[.int .i64 U, .int .i64 Bk, .int .u8 (K 0), .int .u8 (K 1), .int .u8 (K 2), .int .u8 (K 3), .int .u8 (K 4), .int .u8 (K 5), .int .u8 (K 6), .int .u8 (K 7), .int .u8 (K 8), .int .u8 (K 9), .int .u8 (K 10), .int .u8 (K 11), .int .u8 (K 12), .int .u8 (K 13), .int .u8 (K 14), .int .u8 (K 15), v, u] 51)
    have HCk := Lib.hid (rvalidsteps_any U Bk K n m f g v u _ (hv.below hal) (hu.below hal) hf hg)
    have HA := Lib.hid hal
    have HS := Lib.hid (st_row w U Bk K v u 51)
    have hE : Hid (spE U Bk n f m g = 70) := spE_no hs
    have hP : Hid (coP U Bk n f m g = false) := tt_neg (fun h => hs h.1)
    obtain ⟨A, n', c, rfl⟩ : ∃ A n c, v = .slice A n c := by obtain ⟨A, c, h, _⟩ := hv; exact ⟨_, _, _, h⟩
    obtain ⟨A2, m', c2, rfl⟩ : ∃ A n c, u = .slice A n c := by obtain ⟨A, c, h, _⟩ := hu; exact ⟨_, _, _, h⟩
    rw [tt_neg hs] at HCk
    clear hv hu hf hg hal
    clear hs
    go_enter Try.func20, Try.ntmps20
    go_wp2_with (refine wp_load_whole rfl 51 _ rfl w.heap.size rfl 51 20 _ _ _ HS.out rfl (st_cs _ _ _ _ _) Try.underlying51 rfl st_size ?_)
    refine HCk.out.mono ?_
    rintro e w1 ⟨rfl, hB1⟩
    have HB1 := Lib.hid (below_then HA.out hB1)
    clear hB1
    go_wp2
    go_ret2
    exact ⟨by rw [hE.out, hP.out]; rfl, HB1.out⟩
end Go.Proofs.Ytmbokpfgnicboaa
