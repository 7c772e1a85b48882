import Derived.Test.YtmbokpfgnicboaaGreatV6
set_option linter.unusedVariables false
set_option linter.unusedSimpArgs false
/- The walk of the law CodeSymmetric. -/
namespace Go.Proofs.YtmbokpfgnicboaaGreat
open Go.RowKit Go.Hd Go.Sort _root_.Hd
set_option exponentiation.threshold 2000

theorem sym_sum {S R A : Nat} (hA : 0 < A) (h : S + R = A) : S / Nat.gcd S A * (A / Nat.gcd R A) + R / Nat.gcd R A * (A / Nat.gcd S A) = A / Nat.gcd S A * (A / Nat.gcd R A) := by
  have h1 : 0 < Nat.gcd S A := Nat.gcd_pos_of_pos_right _ hA
  have h2 : 0 < Nat.gcd R A := Nat.gcd_pos_of_pos_right _ hA
  have e1 := Nat.div_mul_cancel (Nat.gcd_dvd_left S A)
  have e2 := Nat.div_mul_cancel (Nat.gcd_dvd_right S A)
  have e3 := Nat.div_mul_cancel (Nat.gcd_dvd_left R A)
  have e4 := Nat.div_mul_cancel (Nat.gcd_dvd_right R A)
  generalize S / Nat.gcd S A = p at *
  generalize A / Nat.gcd S A = q at *
  generalize R / Nat.gcd R A = r at *
  generalize A / Nat.gcd R A = t at *
  generalize Nat.gcd S A = x at *
  generalize Nat.gcd R A = y at *
  refine Nat.eq_of_mul_eq_mul_left (Nat.mul_pos h1 h2) ?_
  have d1 : x * y * (p * t) = S * A := by
    calc x * y * (p * t) = (p * x) * (t * y) := by ac_rfl
      _ = S * A := by rw [e1, e4]
  have d2 : x * y * (r * q) = R * A := by
    calc x * y * (r * q) = (r * y) * (q * x) := by ac_rfl
      _ = R * A := by rw [e3, e2]
  have d3 : x * y * (q * t) = A * A := by
    calc x * y * (q * t) = (q * x) * (t * y) := by ac_rfl
      _ = A * A := by rw [e2, e4]
  rw [Nat.mul_add, d1, d2, d3, ← Nat.add_mul, h]
theorem tlA_le {d : Int} (h : d ≤ 64) : tlA d ≤ 2 ^ 128 := Nat.le_trans (choose_le _ _) (Nat.pow_le_pow_right (by omega) (by omega))
theorem mul_lim128 {a b : Nat} (ha : a ≤ 2 ^ 128) (hb : b ≤ 2 ^ 128) : a * b < Lim := lt_lim (k := 256) (by rw [show (2 : Nat) ^ 256 = 2 ^ 128 * 2 ^ 128 from rfl]; exact Nat.mul_le_mul ha hb) (by omega)

/-- Both tails of a number of marked places, added. -/
theorem addTl {d k x : Int} (h : TlOk d k x) (h' : TlOk d k (k - x - 1)) (v u v' u' : Value) (w : World) (hv : Nt w v (tlN d k x)) (hu : Nt w u (tlD d k x)) (hv' : Nt w v' (tlN d k (k - x - 1))) (hu' : Nt w u' (tlD d k (k - x - 1))) :
    Calls Tryz.prog 61 #[.agg #[v, u], .agg #[v', u']] w (Fr2Post 1 1 w) := by
  obtain ⟨_, e1, e2⟩ := tl_ok h
  obtain ⟨_, e3, e4⟩ := tl_ok h'
  rw [e1] at hv
  rw [e2] at hu
  rw [e3] at hv'
  rw [e4] at hu'
  have hA0 := tlA_pos (d := d)
  have hA := tlA_le h.2.1
  have hS := Nat.le_trans (tlS_le h) hA
  have hS' := Nat.le_trans (tlS_le h') hA
  have hsum : tlS d k x + tlS d k (k - x - 1) = tlA d := by
    obtain ⟨a1, a2, a3, a4, a5, a6⟩ := h
    have := tails_add (k := k.toNat) (d := d.toNat) (x := (x + 1).toNat) (by omega) (by omega)
    unfold tlS tlA
    rw [show (k - x - 1 + 1).toNat = k.toNat + 1 - (x + 1).toNat by omega]
    exact this
  generalize tlS d k x = S at *
  generalize tlS d k (k - x - 1) = R at *
  generalize tlA d = A at *
  have g1 : 0 < Nat.gcd S A := Nat.gcd_pos_of_pos_right _ hA0
  have g2 : 0 < Nat.gcd R A := Nat.gcd_pos_of_pos_right _ hA0
  have l1 : S / Nat.gcd S A ≤ 2 ^ 128 := Nat.le_trans (Nat.div_le_self _ _) hS
  have l2 : A / Nat.gcd S A ≤ 2 ^ 128 := Nat.le_trans (Nat.div_le_self _ _) hA
  have l3 : R / Nat.gcd R A ≤ 2 ^ 128 := Nat.le_trans (Nat.div_le_self _ _) hS'
  have l4 : A / Nat.gcd R A ≤ 2 ^ 128 := Nat.le_trans (Nat.div_le_self _ _) hA
  have p2 : 0 < A / Nat.gcd S A := Nat.div_pos (Nat.le_of_dvd hA0 (Nat.gcd_dvd_right _ _)) g1
  have p4 : 0 < A / Nat.gcd R A := Nat.div_pos (Nat.le_of_dvd hA0 (Nat.gcd_dvd_right _ _)) g2
  have lim : ∀ {a : Nat}, a ≤ 2 ^ 128 → a < Lim := fun h => lt_lim h (by omega)
  have hs := sym_sum hA0 hsum
  have h := addFr_nt _ _ _ _ v u v' u' w hv hu hv' hu' (lim l1) (lim l2) (lim l3) (lim l4) p2 p4 (Nat.gcd_div_gcd_div_gcd_of_pos_right hA0) (Nat.gcd_div_gcd_div_gcd_of_pos_right hA0) (mul_lim128 l1 l4) (mul_lim128 l3 l2) (by rw [hs]; exact mul_lim128 l2 l4) (mul_lim128 l2 l4)
  rw [hs, Nat.gcd_self, Nat.div_self (Nat.mul_pos p2 p4)] at h
  exact h

set_option maxRecDepth 100000 in
set_option maxHeartbeats 4000000 in
theorem law15 (d k x : Int) (w : World) :
    Calls Tryz.prog 15 #[.int .i64 d, .int .i64 k, .int .i64 x] w fun e w' => e = .returned (.bool true) ∧ Below w.heap.size w w' := by
  have HB := Lib.hid (Below.refl w.heap.size w)
  have HT := Lib.hid (fun W => tail_any d k x W)
  by_cases h : TlOk d k x
  · have h' : TlOk d k (k - x - 1) := by
      obtain ⟨a1, a2, a3, a4, a5, a6⟩ := h
      exact ⟨by omega, by omega, by omega, by omega, by omega, by omega⟩
    have HT2 := Lib.hid (fun W => tail_any d k (k - x - 1) W)
    rw [(tl_ok h).1] at HT
    rw [(tl_ok h').1] at HT2
    have HAd := Lib.hid (fun v u v' u' W => addTl h h' v u v' u' W)
    have HIs := Lib.hid (fun W v u (hv : Nt W v 1) (hu : Nt W u 1) => is_any 1 1 1 1 0 v u W hv hu (by omega) (by omega) (by omega))
    obtain ⟨a1, a2, a3, a4, a5, a6⟩ := h
    clear h'
    go_enter Tryz.func15, Tryz.ntmps15
    go_wp2_with fail
    refine (alive_any _).mono ?_
    rintro e w1 ⟨rfl, hB⟩
    replace HB := Lib.hid (below_then HB.out hB); clear hB
    go_wp2_with fail
    refine (HT.out _).mono ?_
    rintro e w2 ⟨v2, u2, rfl, hN, hM, hB⟩
    replace HB := Lib.hid (below_then HB.out hB); clear hB
    have hal := (Below.refl _ w2).alloc (Nat.le_refl _) (.cells #[v2, u2] 27)
    have HN1 := Lib.hid (hN.below hal)
    have HM1 := Lib.hid (hM.below hal)
    have HR1 := Lib.hid (row2 w2 v2 u2 27)
    replace HB := Lib.hid (below_then HB.out hal); clear hal
    obtain ⟨A4, n4, c4, rfl⟩ := hN.shape
    obtain ⟨A5, n5, c5, rfl⟩ := hM.shape
    clear hN hM
    go_wp2_with fail
    refine (HT2.out _).mono ?_
    rintro e w3 ⟨v3, u3, rfl, hN, hM, hB⟩
    replace HB := Lib.hid (below_then HB.out hB); replace HR1 := Lib.hid (HR1.out.of_block (hB.block _ HR1.out.lt)); replace HN1 := Lib.hid (HN1.out.below hB); replace HM1 := Lib.hid (HM1.out.below hB); clear hB
    have hal := (Below.refl _ w3).alloc (Nat.le_refl _) (.cells #[v3, u3] 27)
    have HN2 := Lib.hid (hN.below hal)
    have HM2 := Lib.hid (hM.below hal)
    have HR2 := Lib.hid (row2 w3 v3 u3 27)
    replace HB := Lib.hid (below_then HB.out hal); replace HR1 := Lib.hid (HR1.out.of_block (hal.block _ HR1.out.lt)); replace HN1 := Lib.hid (HN1.out.below hal); replace HM1 := Lib.hid (HM1.out.below hal); clear hal
    obtain ⟨A6, n6, c6, rfl⟩ := hN.shape
    obtain ⟨A7, n7, c7, rfl⟩ := hM.shape
    clear hN hM
    have q0 := fr_c0 HR1.out
    have q1 := fr_c1 HR1.out
    have r0 := fr_c0 HR2.out
    have r1 := fr_c1 HR2.out
    go_wp2_with fail
    refine (HAd.out _ _ _ _ _ HN1.out HM1.out HN2.out HM2.out).mono ?_
    rintro e w4 ⟨v4, u4, rfl, hN, hM, hB⟩
    replace HB := Lib.hid (below_then HB.out hB); clear hB
    have hal := (Below.refl _ w4).alloc (Nat.le_refl _) (.cells #[v4, u4] 27)
    have HN3 := Lib.hid (hN.below hal)
    have HM3 := Lib.hid (hM.below hal)
    have HR3 := Lib.hid (row2 w4 v4 u4 27)
    replace HB := Lib.hid (below_then HB.out hal); clear hal
    obtain ⟨A8, n8, c8, rfl⟩ := hN.shape
    obtain ⟨A9, n9, c9, rfl⟩ := hM.shape
    clear hN hM
    have s0 := fr_c0 HR3.out
    have s1 := fr_c1 HR3.out
    go_wp2_with fail
    refine (HIs.out _ _ _ HN3.out HM3.out).mono ?_
    rintro e w5 ⟨rfl, hB⟩
    replace HB := Lib.hid (below_then HB.out hB); clear hB
    rw [tt_pos ⟨by first | rfl | trivial, by decide, by decide⟩]
    go_wp2_with fail
    go_ret
    exact ⟨rfl, HB.out⟩
  · have he : tlE d k x = 2 := by unfold tlE; rw [tt_neg h]; rfl
    rw [he] at HT
    generalize tlN d k x = tn at *
    generalize tlD d k x = td at *
    unfold TlOk at h
    clear he
    by_cases h0 : d < 1
    · clear h
      go_enter Tryz.func15, Tryz.ntmps15
      go_wp2_with fail
      refine (alive_any _).mono ?_
      rintro e w1 ⟨rfl, hB⟩
      replace HB := Lib.hid (below_then HB.out hB); clear hB
      go_wp2_with fail
      refine (HT.out _).mono ?_
      rintro e w2 ⟨v2, u2, rfl, hN, hM, hB⟩
      replace HB := Lib.hid (below_then HB.out hB); clear hB
      have hal := (Below.refl _ w2).alloc (Nat.le_refl _) (.cells #[v2, u2] 27)
      replace HB := Lib.hid (below_then HB.out hal); clear hal
      obtain ⟨A4, n4, c4, rfl⟩ := hN.shape
      obtain ⟨A5, n5, c5, rfl⟩ := hM.shape
      clear hN hM
      go_wp2_with fail
      go_ret
      exact ⟨rfl, HB.out⟩
    · skip
      by_cases h1 : 64 < d
      · clear h
        go_enter Tryz.func15, Tryz.ntmps15
        go_wp2_with fail
        refine (alive_any _).mono ?_
        rintro e w1 ⟨rfl, hB⟩
        replace HB := Lib.hid (below_then HB.out hB); clear hB
        go_wp2_with fail
        refine (HT.out _).mono ?_
        rintro e w2 ⟨v2, u2, rfl, hN, hM, hB⟩
        replace HB := Lib.hid (below_then HB.out hB); clear hB
        have hal := (Below.refl _ w2).alloc (Nat.le_refl _) (.cells #[v2, u2] 27)
        replace HB := Lib.hid (below_then HB.out hal); clear hal
        obtain ⟨A4, n4, c4, rfl⟩ := hN.shape
        obtain ⟨A5, n5, c5, rfl⟩ := hM.shape
        clear hN hM
        go_wp2_with fail
        go_ret
        exact ⟨rfl, HB.out⟩
      · skip
        by_cases h2 : k < 0
        · clear h
          go_enter Tryz.func15, Tryz.ntmps15
          go_wp2_with fail
          refine (alive_any _).mono ?_
          rintro e w1 ⟨rfl, hB⟩
          replace HB := Lib.hid (below_then HB.out hB); clear hB
          go_wp2_with fail
          refine (HT.out _).mono ?_
          rintro e w2 ⟨v2, u2, rfl, hN, hM, hB⟩
          replace HB := Lib.hid (below_then HB.out hB); clear hB
          have hal := (Below.refl _ w2).alloc (Nat.le_refl _) (.cells #[v2, u2] 27)
          replace HB := Lib.hid (below_then HB.out hal); clear hal
          obtain ⟨A4, n4, c4, rfl⟩ := hN.shape
          obtain ⟨A5, n5, c5, rfl⟩ := hM.shape
          clear hN hM
          go_wp2_with fail
          go_ret
          exact ⟨rfl, HB.out⟩
        · skip
          by_cases h3 : 2 * d < k
          · clear h
            go_enter Tryz.func15, Tryz.ntmps15
            go_wp2_with fail
            refine (alive_any _).mono ?_
            rintro e w1 ⟨rfl, hB⟩
            replace HB := Lib.hid (below_then HB.out hB); clear hB
            go_wp2_with fail
            refine (HT.out _).mono ?_
            rintro e w2 ⟨v2, u2, rfl, hN, hM, hB⟩
            replace HB := Lib.hid (below_then HB.out hB); clear hB
            have hal := (Below.refl _ w2).alloc (Nat.le_refl _) (.cells #[v2, u2] 27)
            replace HB := Lib.hid (below_then HB.out hal); clear hal
            obtain ⟨A4, n4, c4, rfl⟩ := hN.shape
            obtain ⟨A5, n5, c5, rfl⟩ := hM.shape
            clear hN hM
            go_wp2_with fail
            go_ret
            exact ⟨rfl, HB.out⟩
          · skip
            by_cases h4 : x < -1
            · clear h
              go_enter Tryz.func15, Tryz.ntmps15
              go_wp2_with fail
              refine (alive_any _).mono ?_
              rintro e w1 ⟨rfl, hB⟩
              replace HB := Lib.hid (below_then HB.out hB); clear hB
              go_wp2_with fail
              refine (HT.out _).mono ?_
              rintro e w2 ⟨v2, u2, rfl, hN, hM, hB⟩
              replace HB := Lib.hid (below_then HB.out hB); clear hB
              have hal := (Below.refl _ w2).alloc (Nat.le_refl _) (.cells #[v2, u2] 27)
              replace HB := Lib.hid (below_then HB.out hal); clear hal
              obtain ⟨A4, n4, c4, rfl⟩ := hN.shape
              obtain ⟨A5, n5, c5, rfl⟩ := hM.shape
              clear hN hM
              go_wp2_with fail
              go_ret
              exact ⟨rfl, HB.out⟩
            · skip
              have h5 : k < x := by omega
              clear h
              go_enter Tryz.func15, Tryz.ntmps15
              go_wp2_with fail
              refine (alive_any _).mono ?_
              rintro e w1 ⟨rfl, hB⟩
              replace HB := Lib.hid (below_then HB.out hB); clear hB
              go_wp2_with fail
              refine (HT.out _).mono ?_
              rintro e w2 ⟨v2, u2, rfl, hN, hM, hB⟩
              replace HB := Lib.hid (below_then HB.out hB); clear hB
              have hal := (Below.refl _ w2).alloc (Nat.le_refl _) (.cells #[v2, u2] 27)
              replace HB := Lib.hid (below_then HB.out hal); clear hal
              obtain ⟨A4, n4, c4, rfl⟩ := hN.shape
              obtain ⟨A5, n5, c5, rfl⟩ := hM.shape
              clear hN hM
              go_wp2_with fail
              go_ret
              exact ⟨rfl, HB.out⟩
end Go.Proofs.YtmbokpfgnicboaaGreat
