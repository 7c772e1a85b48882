import Derived.Test.YtmbokpfgnicboaaGreatRn
import Derived.Test.YtmbokpfgnicboaaGreatP14
set_option linter.unusedVariables false
set_option linter.unusedSimpArgs false
/- The walks of the reference's package of codes: IsLimit, ValidSteps. -/
namespace Go.Proofs.YtmbokpfgnicboaaGreat
open Go.RowKit Go.Hd _root_.Hd

set_option maxRecDepth 100000 in
set_option maxHeartbeats 1000000 in
theorem rislimit_any (n m : Nat) (f g : Nat → Nat) (v u : Value) (w : World) (hv : Rd w .u32 v n f) (hu : Rd w .u32 u m g) (hf : ∀ j, j < n → f j < B) (hg : ∀ j, j < m → g j < B) :
    Calls Tryz.prog 32 #[.agg #[v, u]] w fun e w' => e = .returned (.bool (tt (VL n f m g))) ∧ Below w.heap.size w w' := by
  have hal := (Below.refl _ w).alloc (Nat.le_refl _) (.cells #[v, u] 27)
  have HCk := Lib.hid (rvalidfrac_any n m f g v u _ (hv.below hal) (hu.below hal) hf hg)
  have HA := Lib.hid hal
  have HR := Lib.hid (row2 w v u 27)
  have hln := hv.len_le
  have hlm := hu.len_le
  have HV := Lib.hid hv
  have HU := Lib.hid hu
  have HF := Lib.hid hf
  have HG := Lib.hid hg
  obtain ⟨A, c, rfl, _, _, hv3⟩ := hv
  obtain ⟨A2, c2, rfl, _, _, hu3⟩ := hu
  clear hv3 hu3 hf hg hal
  have c0 : (w.alloc (.cells #[.slice A n c, .slice A2 m c2] 27)).cell? ⟨w.heap.size, 0, none⟩ = some (.slice A n c) := HR.out.cell (i := 0) (by omega)
  have c1 : (w.alloc (.cells #[.slice A n c, .slice A2 m c2] 27)).cell? ⟨w.heap.size, 1, none⟩ = some (.slice A2 m c2) := HR.out.cell (i := 1) (by omega)
  by_cases hVF : VF n f m g
  · rw [tt_pos hVF] at HCk
    obtain ⟨cf, cg, lf, lg⟩ := vf_canon hVF HF.out HG.out
    have HVF := Lib.hid hVF
    have HCmp := Lib.hid (fun W (h : Below (w.alloc (.cells #[.slice A n c, .slice A2 m c2] 27)).heap.size (w.alloc (.cells #[.slice A n c, .slice A2 m c2] 27)) W) => rorder_nt (val f n) (val g m) (.slice A n c) (.slice A2 m c2) W (Nt.below ⟨n, f, HV.out, cf, rfl⟩ (below_then HA.out h)) (Nt.below ⟨m, g, HU.out, cg, rfl⟩ (below_then HA.out h)))
    clear hVF cf cg lf lg
    by_cases hn4 : 4 < n
    · have hE : Hid (tt (VL n f m g) = false) := tt_neg (fun h => by have := h.2.1; omega)
      go_enter Tryz.func32, Tryz.ntmps32
      go_wp2_with fail
      refine HCk.out.mono ?_
      rintro e w1 ⟨rfl, hB1⟩
      have HB1 := Lib.hid (below_then HA.out hB1)
      have c0 := cell_below hB1 c0
      have c1 := cell_below hB1 c1
      clear hB1
      go_wp2
      go_ret
      exact ⟨by rw [hE.out]; rfl, HB1.out⟩
    · by_cases hm4 : 4 < m
      · have hE : Hid (tt (VL n f m g) = false) := tt_neg (fun h => by have := h.2.2.1; omega)
        go_enter Tryz.func32, Tryz.ntmps32
        go_wp2_with fail
        refine HCk.out.mono ?_
        rintro e w1 ⟨rfl, hB1⟩
        have HB1 := Lib.hid (below_then HA.out hB1)
        have c0 := cell_below hB1 c0
        have c1 := cell_below hB1 c1
        clear hB1
        go_wp2
        go_ret
        exact ⟨by rw [hE.out]; rfl, HB1.out⟩
      · have hE : Hid (decide (ord (val f n) (val g m) < 0) = tt (VL n f m g)) := by
          show _ = _
          by_cases h : val f n < val g m
          · rw [tt_pos ⟨HVF.out, by omega, by omega, h⟩, decide_eq_true (ord_neg.2 h)]
          · rw [tt_neg (fun k => h k.2.2.2), decide_eq_false (fun k => h (ord_neg.1 k))]
        go_enter Tryz.func32, Tryz.ntmps32
        go_wp2_with fail
        refine HCk.out.mono ?_
        rintro e w1 ⟨rfl, hB1⟩
        have HB1 := Lib.hid (below_then HA.out hB1)
        have HC1 := Lib.hid (HCmp.out _ hB1)
        have c0 := cell_below hB1 c0
        have c1 := cell_below hB1 c1
        clear hB1
        go_wp2_with fail
        refine HC1.out.mono ?_
        rintro e w2 ⟨rfl, rfl⟩
        go_wp2
        go_ret
        exact ⟨by rw [← hE.out]; rfl, HB1.out⟩
  · rw [tt_neg hVF] at HCk
    have hE : Hid (tt (VL n f m g) = false) := tt_neg (fun h => hVF h.1)
    clear hVF
    go_enter Tryz.func32, Tryz.ntmps32
    go_wp2_with fail
    refine HCk.out.mono ?_
    rintro e w1 ⟨rfl, hB1⟩
    have HB1 := Lib.hid (below_then HA.out hB1)
    clear hB1
    go_wp2
    go_ret
    exact ⟨by rw [hE.out]; rfl, HB1.out⟩

set_option maxRecDepth 100000 in
set_option maxHeartbeats 1000000 in
theorem rvalidsteps_any (U Bk : Int) (K : Nat → Nat) (n m : Nat) (f g : Nat → Nat) (v u : Value) (w : World) (hv : Rd w .u32 v n f) (hu : Rd w .u32 u m g) (hf : ∀ j, j < n → f j < B) (hg : ∀ j, j < m → g j < B) :
    Calls Tryz.prog 53 #[stV U Bk K v u] w fun e w' => e = .returned (.bool (tt (VSt U Bk n f m g))) ∧ Below w.heap.size w w' := by
  have hal := (Below.refl _ w).alloc (Nat.le_refl _) (.cells #[.int .i64 U, .int .i64 Bk, .int .u8 (K 0), .int .u8 (K 1), .int .u8 (K 2), .int .u8 (K 3), .int .u8 (K 4), .int .u8 (K 5), .int .u8 (K 6), .int .u8 (K 7), .int .u8 (K 8), .int .u8 (K 9), .int .u8 (K 10), .int .u8 (K 11), .int .u8 (K 12), .int .u8 (K 13), .int .u8 (K 14), .int .u8 (K 15), v, u] 29)
  have HL := Lib.hid (rislimit_any n m f g v u _ (hv.below hal) (hu.below hal) hf hg)
  have HA := Lib.hid hal
  have rs := st_row w U Bk K v u 29
  obtain ⟨A, n', c, rfl⟩ : ∃ A n c, v = .slice A n c := by obtain ⟨A, c, h, _⟩ := hv; exact ⟨_, _, _, h⟩
  obtain ⟨A2, m', c2, rfl⟩ : ∃ A n c, u = .slice A n c := by obtain ⟨A, c, h, _⟩ := hu; exact ⟨_, _, _, h⟩
  have c0 := rs.cell (i := 0) (by omega)
  have c1 := rs.cell (i := 1) (by omega)
  have c18 := rs.cell (i := 18) (by omega)
  have c19 := rs.cell (i := 19) (by omega)
  simp only [stF, if_true, show ¬ (1 = 0) by omega, show ¬ (18 = 0) by omega, show ¬ (18 = 1) by omega, show ¬ (18 < 18) by omega, show ¬ (19 = 0) by omega, show ¬ (19 = 1) by omega, show ¬ (19 < 18) by omega, show ¬ (19 = 18) by omega, if_false] at c0 c1 c18 c19
  clear rs hv hu hf hg hal
  by_cases hb : 2 ≤ U ∧ U ≤ 16 ∧ 1 ≤ Bk ∧ Bk ≤ 64
  · obtain ⟨h1, h2, h3, h4⟩ := hb
    cases hc : tt (VL n f m g) with
    | true =>
      have ht : Hid (tt (VSt U Bk n f m g) = true) := tt_pos ⟨h1, h2, h3, h4, tt_iff.1 hc⟩
      rw [hc] at HL
      clear hc
      go_enter Tryz.func53, Tryz.ntmps53
      go_wp2_with fail
      refine HL.out.mono ?_
      rintro e w1 ⟨rfl, hB⟩
      have HB := Lib.hid (below_then HA.out hB)
      clear hB
      go_wp2
      go_ret
      exact ⟨by rw [ht.out]; rfl, HB.out⟩
    | false =>
      have ht : Hid (tt (VSt U Bk n f m g) = false) := tt_neg (fun h => (tt_not.1 hc) h.2.2.2.2)
      rw [hc] at HL
      clear hc
      go_enter Tryz.func53, Tryz.ntmps53
      go_wp2_with fail
      refine HL.out.mono ?_
      rintro e w1 ⟨rfl, hB⟩
      have HB := Lib.hid (below_then HA.out hB)
      clear hB
      go_wp2
      go_ret
      exact ⟨by rw [ht.out]; rfl, HB.out⟩
  · have ht : Hid (tt (VSt U Bk n f m g) = false) := tt_neg (fun h => hb ⟨h.1, h.2.1, h.2.2.1, h.2.2.2.1⟩)
    clear HL c18 c19
    by_cases h1 : U < 2
    · clear hb
      go_enter Tryz.func53, Tryz.ntmps53
      go_wp2
      go_ret
      exact ⟨by rw [ht.out]; rfl, HA.out⟩
    · by_cases h2 : 16 < U
      · clear hb
        go_enter Tryz.func53, Tryz.ntmps53
        go_wp2
        go_ret
        exact ⟨by rw [ht.out]; rfl, HA.out⟩
      · by_cases h3 : Bk < 1
        · clear hb
          go_enter Tryz.func53, Tryz.ntmps53
          go_wp2
          go_ret
          exact ⟨by rw [ht.out]; rfl, HA.out⟩
        · have h4 : 64 < Bk := by omega
          clear hb
          go_enter Tryz.func53, Tryz.ntmps53
          go_wp2
          go_ret
          exact ⟨by rw [ht.out]; rfl, HA.out⟩
end Go.Proofs.YtmbokpfgnicboaaGreat

/- The walks of the reference's package of codes: within, Choose. -/
namespace Go.Proofs.YtmbokpfgnicboaaGreat
open Go.RowKit Go.Hd _root_.Hd
set_option exponentiation.threshold 2000

set_option maxRecDepth 100000 in
set_option maxHeartbeats 1000000 in
theorem rwithin_nt (a b m n : Nat) (v u lv lu : Value) (w : World) (hv : Nt w v a) (hu : Nt w u b) (hlv : Nt w lv m) (hlu : Nt w lu n) (ha : a < Huge) (hb : b < Huge) (hm : m < Huge) (hn : n < Huge) :
    Calls Tryz.prog 137 #[v, u, .agg #[lv, lu]] w fun e w' => e = .returned (.bool (inside a b m n)) ∧ Below w.heap.size w w' := by
  have hal := (Below.refl _ w).alloc (Nat.le_refl _) (.cells #[lv, lu] 27)
  have HA := Lib.hid hal
  have HR := Lib.hid (row2 w lv lu 27)
  have HM1 := Lib.hid (fun W (h : Below w.heap.size w W) => rtimes_nt a n v lu W (hv.below h) (hlu.below h) ha hn)
  have HM2 := Lib.hid (fun W (h : Below w.heap.size w W) => rtimes_nt m b lv u W (hlv.below h) (hu.below h) hm hb)
  have HCm := Lib.hid (fun W p q (hp : Nt W p (a * n)) (hq : Nt W q (m * b)) => rorder_nt (a * n) (m * b) p q W hp hq)
  obtain ⟨A, nn, c, rfl⟩ := hv.shape
  obtain ⟨A2, n2, c2, rfl⟩ := hu.shape
  obtain ⟨A3, n3, c3, rfl⟩ := hlv.shape
  obtain ⟨A4, n4, c4, rfl⟩ := hlu.shape
  have hE : Hid (decide (ord (a * n) (m * b) ≤ 0) = inside a b m n) := by
    show _ = _
    unfold inside
    by_cases h : a * n ≤ m * b
    · rw [decide_eq_true h, decide_eq_true (ord_nonpos.2 h)]
    · rw [decide_eq_false h, decide_eq_false (fun k => h (ord_nonpos.1 k))]
  clear hv hu hlv hlu ha hb hm hn hal
  generalize a * n = x at *
  generalize m * b = y at *
  have c0 : (w.alloc (.cells #[.slice A3 n3 c3, .slice A4 n4 c4] 27)).cell? ⟨w.heap.size, 0, none⟩ = some (.slice A3 n3 c3) := HR.out.cell (i := 0) (by omega)
  have c1 : (w.alloc (.cells #[.slice A3 n3 c3, .slice A4 n4 c4] 27)).cell? ⟨w.heap.size, 1, none⟩ = some (.slice A4 n4 c4) := HR.out.cell (i := 1) (by omega)
  go_enter Tryz.func137, Tryz.ntmps137
  go_wp2_with fail
  generalize hW0 : w.alloc (.cells #[.slice A3 n3 c3, .slice A4 n4 c4] 27) = W0 at *
  go_upto_region 1 with fail
  go_cut [6] (fun s6 wx => s6 = .bool (inside a b m n) ∧ Below w.heap.size w wx)
  case first =>
    go_region_held3 (fun w' => w'.cell? ⟨w.heap.size, 0, none⟩ = some (.slice A3 n3 c3) ∧ w'.cell? ⟨w.heap.size, 1, none⟩ = some (.slice A4 n4 c4)) (first | go_keep | exact ⟨cell_below hD.out c0, cell_below hD.out c1⟩)
      (first
        | (go_at_call_of 135 (Value.slice A nn c); refine (HM1.out _ (by first | exact below_then HA.out hD.out | exact HA.out.drew)).mono ?_; rintro e wa ⟨p, rfl, hp, hBa⟩; obtain ⟨Ap, np, cp, rfl⟩ := hp.shape; have hD := Lib.hid (below_then (w := W0) (by first | exact hD.out | exact (Below.refl _ _).drew) hBa); have Hp := Lib.hid hp; (try have Hq := Lib.hid (Hq.out.below hBa)); clear hp hBa)
        | (go_at_call_of 135 (Value.slice A3 n3 c3); refine (HM2.out _ (by first | exact below_then HA.out hD.out | exact HA.out.drew)).mono ?_; rintro e wb ⟨q, rfl, hq, hBb⟩; obtain ⟨Aq, nq, cq, rfl⟩ := hq.shape; have hD := Lib.hid (below_then (w := W0) (by first | exact hD.out | exact (Below.refl _ _).drew) hBb); have Hq := Lib.hid hq; (try have Hp := Lib.hid (Hp.out.below hBb)); clear hq hBb)
        | (go_at_call 81; refine (HCm.out _ _ _ Hp.out Hq.out).mono ?_; rintro e wz ⟨rfl, rfl⟩))
    all_goals
      go_wp2_with fail
      go_meet
      case rel => exact ⟨by rw [← hE.out], below_then HA.out hD.out⟩
  case rest =>
    obtain ⟨rfl, hb⟩ := hcut
    have HB := Lib.hid hb
    clear hb
    go_wp2
    go_ret
    exact ⟨rfl, HB.out⟩

theorem lim_huge {a : Nat} (h : a < Lim) : a < Huge := huge_of (lim_big h)
theorem choose_up (a i : Nat) : chs a i * (a - i) / (i + 1) = chs a (i + 1) := by
  rw [← choose_next, Nat.mul_div_cancel _ (Nat.succ_pos _)]

set_option maxRecDepth 100000 in
set_option maxHeartbeats 1000000 in
/-- How many ways to choose, 0 outside. -/
theorem rchoose_nt (a : Nat) (b : Int) (w : World) (ha : a ≤ 128) (hb1 : -1000000 ≤ b) (hb2 : b ≤ 1000000) : Calls Tryz.prog 156 #[.int .i64 a, .int .i64 b] w (NtPost (chsI a b) w) := by
  by_cases h1 : b < 0
  · have HE : Hid (chsI a b = 0) := chsI_out (.inl h1)
    go_enter Tryz.func156, Tryz.ntmps156
    go_wp2
    go_ret
    exact ⟨_, rfl, by rw [HE.out]; exact Nt.nil _, Below.refl _ _⟩
  · by_cases h2 : (a : Int) < b
    · have HE : Hid (chsI a b = 0) := chsI_out (.inr h2)
      go_enter Tryz.func156, Tryz.ntmps156
      go_wp2
      go_ret
      exact ⟨_, rfl, by rw [HE.out]; exact Nt.nil _, Below.refl _ _⟩
    · obtain ⟨c, rfl⟩ := Int.eq_ofNat_of_zero_le (show 0 ≤ b by omega)
      rw [chsI_nat]
      have hca : c ≤ a := by omega
      have HOf := Lib.hid (fun (x : Nat) (hx : x < 1000) W => rof_any x W (by omega))
      have HTm := Lib.hid (fun (i y : Nat) (hy : y ≤ 128) W p q (hp : Nt W p (chs a i)) (hq : Nt W q y) => rtimes_nt (chs a i) y p q W hp hq (lim_huge (choose_lim ha _)) (lim_huge (small_lim (by omega))))
      have HPa := Lib.hid (fun (i y : Nat) (hy : y ≤ 128) (hi : i < 128) W p q (hp : Nt W p (chs a i * y)) (hq : Nt W q (i + 1)) => rparted_nt (chs a i * y) (i + 1) p q W hp hq (lim_big (choose_mul_lim ha hy _)) (by omega) (lim_big (small_lim (by omega))))
      clear h1 h2
      go_enter Tryz.func156, Tryz.ntmps156
      go_wp2_with fail
      refine (HOf.out 1 (by omega) _).mono ?_
      rintro e w1 ⟨v1, rfl, hN1, hB1⟩
      have HN1 := Lib.hid hN1
      have HB1 := Lib.hid hB1
      clear hN1 hB1
      go_wp2_with fail
      go_loopw [5, 6] (fun s5 s6 wr => ∃ i : Nat, i ≤ c ∧ s6 = .int .i64 i ∧ Hid (Nt wr s5 (chs a i)) ∧ Below w.heap.size w wr) (fun _ s6 _ => c - (intOf s6).toNat)
      case atStart => exact ⟨0, Nat.zero_le _, rfl, by rw [choose_zero]; exact HN1.out, HB1.out⟩
      case round =>
        obtain ⟨i, hi, rfl, hN, hbel⟩ := hrel
        have HBel := Lib.hid hbel
        obtain ⟨A5, n5, c5, rfl⟩ := hN.out.shape
        clear hbel
        by_cases hlt : i < c
        · obtain ⟨y, hy⟩ : ∃ y, y = a - i := ⟨_, rfl⟩
          have hy1 : ((a : Int) - (i : Int)) = (y : Int) := by omega
          have hy2 : y ≤ 128 := by omega
          have HStep : Hid (chs a i * y / (i + 1) = chs a (i + 1)) := by show _ = _; rw [hy]; exact choose_up a i
          have hi1 : ((i : Int) + 1) = ((i + 1 : Nat) : Int) := by omega
          have HO2 := Lib.hid (HOf.out (i + 1) (by omega))
          rw [← hi1] at HO2
          clear hy hi1
          go_wp2_with fail
          refine (HOf.out y (by omega) _).mono ?_
          rintro e w2 ⟨v2, rfl, hN2, hB2⟩
          have HB2 := Lib.hid (below_then HBel.out hB2)
          have HT2 := Lib.hid (HTm.out i y hy2 _ _ _ (hN.out.below hB2) hN2)
          obtain ⟨A6, n6, c6, rfl⟩ := hN2.shape
          clear hN2 hB2
          go_wp2_with fail
          refine HT2.out.mono ?_
          rintro e w3 ⟨v3, rfl, hN3, hB3⟩
          have HB3 := Lib.hid (below_then HB2.out hB3)
          have HN3 := Lib.hid hN3
          obtain ⟨A7, n7, c7, rfl⟩ := hN3.shape
          clear hN3 hB3
          go_wp2_with fail
          refine (HO2.out _).mono ?_
          rintro e w4 ⟨v4, rfl, hN4, hB4⟩
          have HB4 := Lib.hid (below_then HB3.out hB4)
          have HP4 := Lib.hid (HPa.out i y hy2 (by omega) _ _ _ (HN3.out.below hB4) hN4)
          obtain ⟨A8, n8, c8, rfl⟩ := hN4.shape
          clear hN4 hB4
          go_wp2_with fail
          refine HP4.out.mono ?_
          rintro e w5 ⟨q5, r5, rfl, hN5, _, hB5⟩
          have HB5 := Lib.hid (below_then HB4.out hB5)
          rw [HStep.out] at hN5
          have HN5 := Lib.hid hN5
          clear hN5 hB5
          go_wp2
          go_roundw
          case rel => exact ⟨i + 1, by omega, by go_num, HN5.out, HB5.out⟩
          case measure => simp [intOf]; omega
        · obtain rfl : i = c := by omega
          go_wp2
          go_ret
          exact ⟨_, rfl, hN.out, HBel.out⟩
end Go.Proofs.YtmbokpfgnicboaaGreat

/- The walks of the reference's package of codes: Divisions, Tail. -/
namespace Go.Proofs.YtmbokpfgnicboaaGreat
open Go.RowKit Go.Hd _root_.Hd
set_option exponentiation.threshold 2000

theorem sums_huge {d k x : Nat} (hd : d ≤ 64) (hk : k ≤ 2 * d) (hx : x ≤ k + 1) : sum (T d k) x < Big := lim_big (lt_lim (sums_128 hd hk hx) (by omega))

end Go.Proofs.YtmbokpfgnicboaaGreat

/- The walks of the reference's package of codes: Tail. -/
namespace Go.Proofs.YtmbokpfgnicboaaGreat
open Go.RowKit Go.Hd _root_.Hd
set_option exponentiation.threshold 2000



end Go.Proofs.YtmbokpfgnicboaaGreat