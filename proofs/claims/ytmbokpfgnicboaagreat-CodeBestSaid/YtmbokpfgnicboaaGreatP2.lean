import Derived.Test.YtmbokpfgnicboaaGreatP1
import Derived.Test.YtmbokpfgnicboaaGreatPlain
import Derived.Test.YtmbokpfgnicboaaGreatWhole
set_option linter.unusedVariables false
set_option linter.unusedSimpArgs false
/- The walks of package number: long division, for a divisor of two digits or more. -/
namespace Go.Proofs.YtmbokpfgnicboaaGreat
open Go.RowKit Go.Hd _root_.Hd

theorem canon_len {q : Nat → Nat} {k m b s : Nat} {g : Nat → Nat} (hq : Canon q k) (cg : Canon g m) (hb : val g m = b) (hv : val q k = b * 2 ^ s) (hm : 2 ≤ m) (ht : g (m - 1) * 2 ^ s < B) : k = m := by
  obtain ⟨t, rfl⟩ : ∃ t, m = t + 1 := ⟨m - 1, by omega⟩
  have h1 := cg.lower (by omega)
  simp only [Nat.add_sub_cancel] at h1 ht
  have hp := Nat.two_pow_pos s
  have h2 : b * 2 ^ s < B ^ (t + 1) := by
    rw [← hb, val_succ]
    have h3 : val g t < B ^ t := val_lt fun j hj => cg.lt j (by omega)
    have h4 : (val g t + g t * B ^ t) * 2 ^ s < (g t * 2 ^ s + 2 ^ s) * B ^ t := by
      have h5 : val g t * 2 ^ s < B ^ t * 2 ^ s := Nat.mul_lt_mul_of_pos_right h3 hp
      have h6 : g t * B ^ t * 2 ^ s = g t * 2 ^ s * B ^ t := by rw [Nat.mul_assoc, Nat.mul_comm (B ^ t), ← Nat.mul_assoc]
      rw [Nat.add_mul, Nat.add_mul, h6, Nat.mul_comm (2 ^ s) (B ^ t)]
      omega
    have h7 : g t * 2 ^ s + 2 ^ s ≤ B := by
      have h8 : s < 32 := by
        rcases Nat.lt_or_ge s 32 with h | h
        · exact h
        · have : 2 ^ 32 ≤ 2 ^ s := Nat.pow_le_pow_right (by omega) h
          have h9 : 1 ≤ g t := by have := cg.top (by omega); simp only [Nat.add_sub_cancel] at this; omega
          have : 1 * 2 ^ s ≤ g t * 2 ^ s := Nat.mul_le_mul_right _ h9
          unfold B at ht; omega
      rw [B_split h8] at ht ⊢
      have h9 : g t < 2 ^ (32 - s) := Nat.lt_of_mul_lt_mul_right ht
      have h10 : (g t + 1) * 2 ^ s ≤ 2 ^ (32 - s) * 2 ^ s := Nat.mul_le_mul_right _ h9
      rw [Nat.add_mul, Nat.one_mul] at h10
      exact h10
    have h8 : (g t * 2 ^ s + 2 ^ s) * B ^ t ≤ B * B ^ t := Nat.mul_le_mul_right _ h7
    rw [Nat.pow_succ, Nat.mul_comm (B ^ t)]
    omega
  have h3 : B ^ t ≤ b * 2 ^ s := by
    have : b * 1 ≤ b * 2 ^ s := Nat.mul_le_mul_left _ hp
    omega
  have h4 := (hq.len_le_iff (t + 1)).2 (by rw [hv]; exact h2)
  have h5 : ¬ k ≤ t := fun h => by have := (hq.len_le_iff t).1 h; omega
  omega

theorem join64 {h l : Nat} (hh : h < 4294967296) (hl : l < 4294967296) : bits .or .u64 ((h : Int) * 4294967296) (l : Int) = ((h * 4294967296 + l : Nat) : Int) := by
  have e1 : (h : Int) * 4294967296 = ((h * 4294967296 : Nat) : Int) := by omega
  have := Nat.two_pow_add_eq_or_of_lt (i := 32) (b := l) hl h
  rw [e1, u64_or_nat _ _ (by omega) (by omega), show h * 4294967296 = 2 ^ 32 * h by omega, ← this]
theorem start_lt {n m s a b : Nat} {f g p : Nat → Nat} (cf : Canon f n) (cg : Canon g m) (ea : val f n = a) (eb : val g m = b) (hmn : m ≤ n) (hm : 2 ≤ m) (hp : ∀ j, j < n + 1 → p j < B) (hv : val p (n + 1) = a * 2 ^ s) : val (fun i => p (n + 1 - m + i)) m < b * 2 ^ s := by
  have h1 := cf.upper
  have h2 := cg.lower (by omega)
  have h3 := val_top (f := p) (k := n + 1 - m) (d := m) (fun j hj => hp j (by omega))
  rw [show n + 1 - m + m = n + 1 by omega, hv] at h3
  rw [← h3]
  have hps := Nat.two_pow_pos s
  refine Nat.div_lt_of_lt_mul ?_
  have h4 : a * 2 ^ s < B ^ n * 2 ^ s := Nat.mul_lt_mul_of_pos_right (by omega) hps
  have h5 : B ^ (n + 1 - m) * (B ^ (m - 1) * 2 ^ s) ≤ B ^ (n + 1 - m) * (b * 2 ^ s) := Nat.mul_le_mul_left _ (Nat.mul_le_mul_right _ (by omega))
  rw [← Nat.mul_assoc, ← Nat.pow_add, show n + 1 - m + (m - 1) = n by omega] at h5
  omega

set_option maxRecDepth 100000 in
set_option maxHeartbeats 2000000 in
theorem parted_great (a b n m : Nat) (f g : Nat → Nat) (v u : Value) (w : World) (hv : Rd w .u32 v n f) (hu : Rd w .u32 u m g) (cf : Canon f n) (cg : Canon g m) (ea : val f n = a) (eb : val g m = b) (hba : b ≤ a) (hm : 2 ≤ m) (hn : n ≤ 1000) :
    Calls Tryz.prog 149 #[v, u] w (PartedPost a b w) := by
  have hmn : m ≤ n := by
    rcases Nat.lt_or_ge n m with h | h
    · have := cf.len_lt cg h; omega
    · exact h
  have hal := ((Below.refl _ w).alloc (Nat.le_refl _) (.cells #[v] 25)).alloc (by simp) (.cells #[u] 25)
  have HO := Lib.hid (order_nt a b v u _ (Nt.below ⟨n, f, hv, cf, ea⟩ hal) (Nt.below ⟨m, g, hu, cg, eb⟩ hal))
  have ho0 : 0 ≤ ord a b := by unfold ord; rw [if_neg (by omega)]; split <;> omega
  have htop : 0 < g (m - 1) := by have := cg.top (by omega); omega
  have htB : g (m - 1) < B := cg.lt _ (by omega)
  obtain ⟨hs, hs1, hs2, _⟩ := lz_facts htop htB
  have HLz := Lib.hid (fun W => lz_any (g (m - 1)) W htop htB)
  obtain ⟨s, hsdef⟩ : ∃ s, s = lz (g (m - 1)) := ⟨_, rfl⟩
  rw [← hsdef] at hs hs1 hs2 HLz
  have HV := Lib.hid hv
  have HU := Lib.hid hu
  have HA := Lib.hid hal
  have HCF := Lib.hid cf
  have HCG := Lib.hid cg
  have HEA := Lib.hid ea
  have HEB := Lib.hid eb
  have HBA := Lib.hid hba
  have HS1 := Lib.hid hs1
  obtain ⟨A, c, rfl, _, hcm, hv3⟩ := hv
  obtain ⟨A2, c2, rfl, _, hcm2, hu3⟩ := hu
  obtain ⟨b2, off2, rfl, hu4⟩ := hu3 (by omega)
  have hgc := hu4 (m - 1) (by omega)
  clear hv3 hu3 hu4 hal cf cg ea eb hba htop hs1 hs2 hsdef
  unfold B at htB
  go_enter Tryz.func149, Tryz.ntmps149
  go_wp2_with fail
  refine HO.out.mono ?_
  rintro e w1 ⟨rfl, hb1⟩
  have hc1 : w1.cell? ⟨w.heap.size, 0, none⟩ = some (.slice A n c) := cell_below hb1 (cell_below ((Below.refl _ _).alloc (Nat.le_refl _) _) (cell_new w _ _).1)
  have hc2 : w1.cell? ⟨w.heap.size + 1, 0, none⟩ = some (.slice (some ⟨b2, off2, none⟩) m c2) := cell_below hb1 (by have := (cell_new (w.alloc (.cells #[.slice A n c] 25)) (.slice (some ⟨b2, off2, none⟩) m c2) 25).1; rw [World.size_alloc] at this; exact this)
  have HB1 := Lib.hid (below_then HA.out hb1)
  have hgc1 := cell_below HB1.out hgc
  have HV1 := Lib.hid (HV.out.below HB1.out)
  have HU1 := Lib.hid (HU.out.below HB1.out)
  clear hb1 hgc
  go_wp2_with fail
  refine (HLz.out _).mono ?_
  rintro e w2 ⟨rfl, rfl⟩
  go_upto_region 11 with fail
  have HSa := Lib.hid (fun W (h : Below w1.heap.size w1 W) => shifted_any n s f _ W (HV1.out.below h) HCF.out.lt (by omega) hs)
  have HSb := Lib.hid (fun W (h : Below w1.heap.size w1 W) => shifted_any m s g _ W (HU1.out.below h) HCG.out.lt (by omega) hs)
  go_cut [10, 11] (fun s10 s11 wx => ∃ (bu bv : Nat) (p q : Nat → Nat), s10 = .slice (some ⟨bu, 0, none⟩) (n + 1) (n + 1) ∧ s11 = .slice (some ⟨bv, 0, none⟩) m (m + 1) ∧ bu ≠ bv ∧ w1.heap.size ≤ bu ∧ wx.rowIs bu 158 (n + 1) (fun j => .int .u32 (p j : Nat)) ∧ wx.rowIs bv 158 (m + 1) (fun j => .int .u32 (q j : Nat)) ∧
    Hid (∀ j, j < n + 1 → p j < B) ∧ Hid (Canon q m) ∧ Hid (val p (n + 1) = val f n * 2 ^ s) ∧ Hid (val q m = val g m * 2 ^ s) ∧ Below w1.heap.size w1 wx)
  case first =>
    go_region_held3 (fun w' => w'.cell? ⟨w.heap.size, 0, none⟩ = some (.slice A n c) ∧ w'.cell? ⟨w.heap.size + 1, 0, none⟩ = some (.slice (some ⟨b2, off2, none⟩) m c2)) (first | go_keep | exact ⟨cell_below hD.out hc1, cell_below hD.out hc2⟩)
      (first
        | (go_at_call_of 176 (Value.slice A n c); refine (HSa.out _ (by first | exact hD.out | exact (Below.refl _ _).drew)).mono ?_; rintro e wa ⟨bu, p, rfl, hbu, hru, hpB, hpv, hBa⟩; have hD := Lib.hid (below_then (w := w1) (by first | exact hD.out | exact (Below.refl _ _).drew) hBa); have Hru := Lib.hid hru; have HpB := Lib.hid hpB; have Hpv := Lib.hid hpv; (try have Hne : Hid (bu ≠ bv) := (Nat.ne_of_lt (Nat.lt_of_lt_of_le Hrv.out.lt hbu)).symm); (try have Hrv := Lib.hid (Hrv.out.of_block (hBa.block _ Hrv.out.lt))); have Hbu := Lib.hid hbu; clear hru hpB hpv hBa hbu)
        | (go_at_call_of 176 (Value.slice (some ⟨b2, off2, none⟩) m c2); refine (HSb.out _ (by first | exact hD.out | exact (Below.refl _ _).drew)).mono ?_; rintro e wb ⟨bv, q, rfl, hbv, hrv, hqB, hqv, hBb⟩; have hD := Lib.hid (below_then (w := w1) (by first | exact hD.out | exact (Below.refl _ _).drew) hBb); have Hrv := Lib.hid hrv; have HqB := Lib.hid hqB; have Hqv := Lib.hid hqv; (try have Hne : Hid (bu ≠ bv) := Nat.ne_of_lt (Nat.lt_of_lt_of_le Hru.out.lt hbv)); (try have Hru := Lib.hid (Hru.out.of_block (hBb.block _ Hru.out.lt))); have Hbv := Lib.hid hbv; clear hrv hqB hqv hBb hbv)
        | (go_at_call 152; refine (trim_at (m + 1) (m + 1) q bv 0 _ (rd_of_row Hrv.out (by omega)) HqB.out).mono ?_; rintro e wc ⟨⟨k, rfl, hk, hqc, hqk⟩, rfl⟩; have Hqc := Lib.hid hqc; have Hqk := Lib.hid hqk; clear hqc hqk))
    all_goals
      go_wp2_with fail
      obtain rfl : k = m := canon_len Hqc.out HCG.out rfl (Hqk.out.trans Hqv.out) hm HS1.out
      go_meet
      case rel =>
        exact ⟨bu, bv, p, q, rfl, rfl, Hne.out, by have := Hbu.out; have := hD.out.size; first | omega | (simp at *; omega), Hru.out, Hrv.out, HpB.out, Hqc.out, Hpv.out, Hqk.out.trans Hqv.out, hD.out⟩
  case rest =>
    obtain ⟨bu, bv, p, q, rfl, rfl, hne, hbu, hru, hrv, HpB, HqC, Hpv, Hqv, hbc⟩ := hcut
    have HRu := Lib.hid hru
    have HRv := Lib.hid hrv
    have HBc := Lib.hid (below_then HB1.out hbc)
    have ht1 := hrv.cell (i := m - 1) (by omega)
    have ht2 := hrv.cell (i := m - 2) (by omega)
    have l1 : q (m - 1) < 4294967296 := HqC.out.lt _ (by omega)
    have l2 : q (m - 2) < 4294967296 := HqC.out.lt _ (by omega)
    have i1 : (0 : Int) ≤ (m : Int) - 1 := by omega
    have i2 : (0 : Int) ≤ (m : Int) - 2 := by omega
    have w1' : IntKind.i64.wrap ((m : Int) - 1) = (m : Int) - 1 := by rw [IntKind.wrap_i64]; omega
    have w2' : IntKind.i64.wrap ((m : Int) - 2) = (m : Int) - 2 := by rw [IntKind.wrap_i64]; omega
    have w3 : IntKind.u64.wrap (q (m - 1) : Int) = (q (m - 1) : Int) := by rw [IntKind.wrap_u64]; omega
    have w4 : IntKind.u64.wrap (q (m - 2) : Int) = (q (m - 2) : Int) := by rw [IntKind.wrap_u64]; omega
    clear hru hrv hbc
    go_wp2_with fail
    go_quiet (fail)
    clear w1' w2' w3 w4 i1 i2
    have hmk := run_make_row' (P := Tryz.prog) 25 158 (.int .u32 0) 4 Tryz.underlying25 infoU32 rfl .i64 .i64 (n + 1 - m) (by omega) (by omega)
    rw [show ((n + 1 - m : Nat) : Int) = (n : Int) + 1 - m by omega] at hmk
    go_wp2_with fail
    have HRu0 := Lib.hid HRu.out
    have HRv0 := Lib.hid HRv.out
    have HDs : Hid (DivAt n m p q p (fun _ => 0) (n + 1 - m)) := DivAt.start hmn HpB.out (by rw [Hqv.out, HEB.out]; exact start_lt HCF.out HCG.out HEA.out HEB.out hmn hm HpB.out (by rw [Hpv.out, HEA.out]))
    go_loopw [15] (fun i wr => ∃ (j : Nat) (pp oo : Nat → Nat), j ≤ n + 1 - m ∧ i = .int .i64 ((j : Int) - 1) ∧ wr.rowIs bu 158 (n + 1) (fun j => .int .u32 (pp j : Nat)) ∧ wr.rowIs bv 158 (m + 1) (fun j => .int .u32 (q j : Nat)) ∧ wr.rowIs wc.heap.size 158 (n + 1 - m) (fun j => .int .u32 (oo j : Nat)) ∧ Hid (DivAt n m p q pp oo j) ∧ Below w.heap.size w wr)
      (fun i _ => (intOf i + 1).toNat)
    case atStart =>
      refine ⟨n + 1 - m, p, fun _ => 0, Nat.le_refl _, rfl, (HRu.out.of_block rfl).alloc _, (HRv.out.of_block rfl).alloc _, ?_, HDs.out, (below_drewN HBc.out _).alloc ?_ _⟩
      · exact World.rowIs_made _ _ _ _
      · exact HBc.out.size
    case round =>
      obtain ⟨j, pp, oo, hj, rfl, hru, hrv, hro, HD, hbel⟩ := hrel
      obtain ⟨wo, hwo⟩ : ∃ wo : World, wo = wr := ⟨_, rfl⟩
      rw [← hwo] at hru hrv hro hbel ⊢
      clear hwo
      have HRu := Lib.hid hru
      have HRv := Lib.hid hrv
      have HRo := Lib.hid hro
      have HBel := Lib.hid hbel
      have hbuZ : bu < wc.heap.size := HRu0.out.lt
      have hbvZ : bv < wc.heap.size := HRv0.out.lt
      have hwZ : w.heap.size ≤ wc.heap.size := HBc.out.size
      have hwbu : w.heap.size ≤ bu := Nat.le_trans HB1.out.size hbu
      clear HRu0 HRv0 HBc
      generalize wc.heap.size = Z at *
      rcases j with _ | t
      · obtain ⟨hq1, hq2⟩ := HD.out.done (by omega)
        have hp2 := Nat.two_pow_pos s
        rw [Hpv.out, Hqv.out, HEA.out, HEB.out] at hq1 hq2
        rw [(div_shift a b (2 ^ s) hp2).1] at hq1
        have hq3 : val pp (n + 1) / 2 ^ s = a % b := by rw [hq2]; exact (div_shift a b (2 ^ s) hp2).2
        have HQ1 := Lib.hid hq1
        have HQ3 := Lib.hid hq3
        have HRdQ := Lib.hid (rd_of_row HRo.out (by omega))
        have HRdU := Lib.hid (rd_of_row HRu.out (by omega))
        have he : (((0 : Nat) : Int) - 1) = -1 := by omega
        rw [he]
        clear hru hrv hro hbel he hq1 hq2 hq3 hp2
        go_wp2_with fail
        refine (trim_at (n + 1 - m) (n + 1 - m) oo Z 0 _ HRdQ.out HD.out.olt).mono ?_
        rintro e w3 ⟨⟨k3, rfl, hk3, hc3, hv3⟩, rfl⟩
        have HN3 : Hid (Nt wo (.slice (some ⟨Z, 0, none⟩) k3 (n + 1 - m)) (val oo (n + 1 - m))) := ⟨k3, oo, rd_le HRdQ.out hk3 hk3 (by omega), hc3, hv3⟩
        clear hc3 hv3 hk3
        go_wp2_with fail
        refine (trim_at (n + 1) (n + 1) pp bu 0 _ HRdU.out HD.out.plt).mono ?_
        rintro e w4 ⟨⟨k, rfl, hk, hkc, hkv⟩, rfl⟩
        have hRk : Rd wo .u32 (.slice (some ⟨bu, 0, none⟩) k (n + 1)) k pp := ⟨_, _, rfl, by omega, by unfold maxLen; omega, fun _ => ⟨bu, 0, rfl, fun j hj => by rw [Nat.zero_add]; exact HRu.out.cell (by omega)⟩⟩
        have HUn := Lib.hid (unshifted_any k s pp _ wo hRk hkc.lt (by omega) hs)
        rw [hkv, HQ3.out] at HUn
        clear hkc hkv hRk
        go_wp2_with fail
        refine HUn.out.mono ?_
        rintro e w5 ⟨v5, rfl, hN5, hB5⟩
        have HN5 := Lib.hid hN5
        have HB5 := Lib.hid hB5
        have HN3' := Lib.hid (HN3.out.below hB5)
        clear hN5 hB5
        go_wp2
        go_ret2
        refine ⟨_, _, rfl, ?_, HN5.out, below_then HBel.out HB5.out, ⟨_, _, _, rfl, .inr ⟨Z, 0, rfl, hwZ⟩⟩⟩
        rw [← HQ1.out]
        exact HN3'.out
      · have he : (((t + 1 : Nat) : Int) - 1) = (t : Int) := by omega
        rw [he]
        have k0 := hru.cell (i := t + m) (by omega)
        have k1 := hru.cell (i := t + (m - 1)) (by omega)
        have k2 := hru.cell (i := t + (m - 2)) (by omega)
        have b0 : pp (t + m) < 4294967296 := HD.out.plt _ (by omega)
        have b1 : pp (t + (m - 1)) < 4294967296 := HD.out.plt _ (by omega)
        have b2' : pp (t + (m - 2)) < 4294967296 := HD.out.plt _ (by omega)
        clear hru hrv hro hbel he
        go_wp2_with fail
        go_step3
        go_wp2_with fail
        rw [show t + m + 1 - t = m + 1 by omega]
        have i0 : (0 : Int) ≤ (m : Int) := by omega
        have i1 : (0 : Int) ≤ (m : Int) - 1 := by omega
        have w1' : IntKind.i64.wrap ((m : Int) - 1) = (m : Int) - 1 := by rw [IntKind.wrap_i64]; omega
        go_quiet (fail)
        clear i0 i1 w1'
        obtain ⟨nq0, hnq0⟩ : ∃ k, k = nq := ⟨_, rfl⟩
        rw [← hnq0]
        clear hnq0
        rw [join64 b0 b1]
        have HHd := Lib.hid (P_head HD.out.plt HqC.out.lt hm (by omega : t + m < n + 1))
        have HUV := Lib.hid (HD.out.part_lt (by omega : t + m < n + 1))
        have HTL := Lib.hid (HD.out.top_le HqC.out.lt hm)
        have htop0 : 0 < q (m - 1) := by have := HqC.out.top (by omega); omega
        have HVp := Lib.hid (HHd.out.vpos htop0)
        obtain ⟨hi, hhi⟩ : ∃ hi, hi = pp (t + m) * 4294967296 + pp (t + (m - 1)) := ⟨_, rfl⟩
        obtain ⟨U, hU⟩ : ∃ U, U = P pp t m := ⟨_, rfl⟩
        obtain ⟨V, hV⟩ : ∃ V, V = val q m := ⟨_, rfl⟩
        have HUd := Lib.hid hU
        have HVd := Lib.hid hV
        have HHi := Lib.hid hhi
        have hhB : hi < 18446744073709551616 := by omega
        have hhi2 : pp (t + m) * B + pp (t + (m - 1)) = hi := by rw [hhi]; rfl
        rw [← hU, ← hV, hhi2] at HHd
        rw [← hU, ← hV] at HUV
        rw [← hV] at HVp
        rw [← hhi]
        have hhl : hi < q (m - 1) * B + B := by
          have h1 := HTL.out
          have h2 : pp (t + m) * 4294967296 ≤ q (m - 1) * 4294967296 := Nat.mul_le_mul_right _ h1
          rw [hhi]; unfold B; omega
        have HHl := Lib.hid hhl
        clear hU hV hhi hhi2 hhl
        have hne : ((q (m - 1) : Int) != 0) = true := by simp; omega
        have hz : ¬ ((q (m - 1) : Int) = 0) := by omega
        have HEst : Hid (Est U V (q (m - 1)) hi (hi / q (m - 1)) (hi % q (m - 1))) := Est.start HHd.out htop0 b2' l1
        have e1 : (hi : Int) / (q (m - 1) : Int) = ((hi / q (m - 1) : Nat) : Int) := by norm_cast
        have e2 : (hi : Int) % (q (m - 1) : Int) = ((hi % q (m - 1) : Nat) : Int) := by norm_cast
        have hx0 : hi / q (m - 1) ≤ hi := Nat.div_le_self _ _
        have hr0 : hi % q (m - 1) < 4294967296 := HEst.out.lt
        generalize hi / q (m - 1) = x0 at *
        generalize hi % q (m - 1) = r0 at *
        go_wp2_with fail
        go_quiet (fail)
        try rw [e2]
        clear e1 e2 hne hz
        have HRu := Lib.hid (show ((wo.drewN nq0).drewN nq).rowIs _ _ _ _ from HRu.out.of_block rfl)
        have HRv := Lib.hid (show ((wo.drewN nq0).drewN nq).rowIs _ _ _ _ from HRv.out.of_block rfl)
        have HRo := Lib.hid (show ((wo.drewN nq0).drewN nq).rowIs _ _ _ _ from HRo.out.of_block rfl)
        have HBel := Lib.hid (below_drewN (below_drewN HBel.out nq0) nq)
        have k2 : ((wo.drewN nq0).drewN nq).cell? ⟨bu, t + (m - 2), none⟩ = some (.int .u32 (pp (t + (m - 2)) : Nat)) := k2
        clear k0 k1
        generalize (wo.drewN nq0).drewN nq = wq at *
        have i0 : (0 : Int) ≤ (m : Int) - 2 := by omega
        go_wp2_with fail
        go_step3
        go_upto_block 4 with fail
        go_cut [18, 19] (fun s18 s19 wx => ∃ x : Nat, s18 = .int .u64 x ∧ Hid (Took U V x) ∧ wx = wq)
        case first =>
          go_wp2_with fail
          go_loop [18, 19] (fun s18 s19 => ∃ x r : Nat, s18 = .int .u64 x ∧ s19 = .int .u64 r ∧ Hid (Est U V (q (m - 1)) hi x r) ∧ x ≤ hi) (fun s18 _ => (intOf s18).toNat)
          case atStart => exact ⟨x0, r0, rfl, rfl, HEst.out, hx0⟩
          case round =>
            obtain ⟨x, r, rfl, rfl, HE, hxh⟩ := hrel
            have hr : r < 4294967296 := HE.out.lt
            clear HEst hr0 hx0
            by_cases hx : x < 4294967296
            · have hxz : ((x : Int) / 4294967296 == 0) = true := by rw [beq_iff_eq]; omega
              obtain ⟨S, hS⟩ : ∃ S, S = x * q (m - 2) := ⟨_, rfl⟩
              obtain ⟨R, hR⟩ : ∃ R, R = r * 4294967296 + pp (t + (m - 2)) := ⟨_, rfl⟩
              have hSi : (x : Int) * (q (m - 2) : Int) = (S : Int) := by rw [hS, Int.natCast_mul]
              have hRi : bits .or .u64 ((r : Int) * 4294967296) (pp (t + (m - 2)) : Int) = (R : Int) := by rw [join64 hr b2', hR]
              have hSB : S < 18446744073709551616 := by rw [hS]; exact Nat.lt_of_le_of_lt (Nat.mul_le_mul (Nat.le_of_lt_succ (m := x) (n := 4294967295) hx) (Nat.le_of_lt_succ (m := q (m - 2)) (n := 4294967295) l2)) (by decide)
              have HS := Lib.hid hS
              have HR := Lib.hid hR
              clear hS hR
              by_cases ht : S ≤ R
              · have HT : Hid (Took U V x) := HE.out.took HHd.out htop0 hx (by rw [← HS.out]; have := HR.out; unfold B; omega)
                go_wp2_with fail
                go_meet
                case rel => exact ⟨x, rfl, HT.out, rfl⟩
              · obtain ⟨g1, g2, g3⟩ := HE.out.less HHd.out htop0 HUV.out (.inr (by rw [← HS.out]; have := HR.out; unfold B; omega))
                have G2 := Lib.hid g2
                have G3 := Lib.hid g3
                clear g2 g3
                by_cases hro : r + q (m - 1) < 4294967296
                · have hq2 : (((r : Int) + (q (m - 1) : Int)) / 4294967296 != 0) = false := by rw [bne_eq_false_iff_eq]; omega
                  go_wp2_with fail
                  go_round
                  case rel => exact ⟨x - 1, r + q (m - 1), by congr 1; omega, by congr 1, ⟨G2.out, G3.out, hro⟩, by omega⟩
                  case measure => first | (simp [intOf]; done) | (simp [intOf]; omega)
                · have hq2 : (((r : Int) + (q (m - 1) : Int)) / 4294967296 != 0) = true := by rw [bne_iff_ne]; omega
                  have HT : Hid (Took U V (x - 1)) := Est.over HHd.out htop0 l2 HHl.out G2.out G3.out (by unfold B; omega)
                  go_wp2_with fail
                  go_meet
                  case rel => exact ⟨x - 1, by congr 1; omega, HT.out, rfl⟩
            · have hxz : ((x : Int) / 4294967296 == 0) = false := by rw [beq_eq_false_iff_ne]; omega
              obtain ⟨g1, g2, g3⟩ := HE.out.less HHd.out htop0 HUV.out (.inl (by unfold B; omega))
              have G2 := Lib.hid g2
              have G3 := Lib.hid g3
              clear g2 g3
              by_cases hro : r + q (m - 1) < 4294967296
              · have hq2 : (((r : Int) + (q (m - 1) : Int)) / 4294967296 != 0) = false := by rw [bne_eq_false_iff_eq]; omega
                go_wp2_with fail
                go_round
                case rel => exact ⟨x - 1, r + q (m - 1), by congr 1; omega, by congr 1, ⟨G2.out, G3.out, hro⟩, by omega⟩
                case measure => first | (simp [intOf]; done) | (simp [intOf]; omega)
              · have hq2 : (((r : Int) + (q (m - 1) : Int)) / 4294967296 != 0) = true := by rw [bne_iff_ne]; omega
                have HT : Hid (Took U V (x - 1)) := Est.over HHd.out htop0 l2 HHl.out G2.out G3.out (by unfold B; omega)
                go_wp2_with fail
                go_meet
                case rel => exact ⟨x - 1, by congr 1; omega, HT.out, rfl⟩
        case rest =>
          obtain ⟨x, rfl, HTk, rfl⟩ := hcut
          have hxB : x < B := HTk.out.2.2
          have hxB' : x < 4294967296 := hxB
          have HRdV : Hid (RdO bu wc (.slice (some ⟨bv, 0, none⟩) m (m + 1)) m q) := ⟨_, _, rfl, by omega, by unfold maxLen; omega, fun _ => ⟨bv, 0, rfl, fun e => hne e.symm, fun j hj => by rw [Nat.zero_add]; exact HRv.out.cell (by omega)⟩⟩
          have HSub := Lib.hid (subtract_any bu t (m + 1) (n + 1) (n + 1 - t) m x pp q _ wc HRu.out HD.out.plt (by omega) (by omega) (by omega) (by omega) HRdV.out HqC.out.lt (by omega) hxB)
          clear k2 i0
          go_wp2_with fail
          refine HSub.out.mono ?_
          rintro e wd ⟨o', bo, hbo, rfl, hro', ho'B, ho'o, ho'v, hgr⟩
          have HRu' := Lib.hid hro'
          have HoB := Lib.hid ho'B
          have Hoo := Lib.hid ho'o
          have Hov := Lib.hid ho'v
          have HRv' := Lib.hid (HRv.out.of_block (hgr.block bv HRv.out.lt (by simpa using fun e => hne e.symm)))
          have HRo' := Lib.hid (HRo.out.of_block (hgr.block Z HRo.out.lt (by simp; omega)))
          have HBel' := Lib.hid (HBel.out.trans (below_grown hgr (hwbu) HRu.out.lt))
          have HRdV' := Lib.hid (HRdV.out.grown hgr)
          clear hro' ho'B ho'o ho'v hgr
          rcases Nat.lt_or_ge bo 1 with hb | hb
          · obtain rfl : bo = 0 := by omega
            rw [show tt ((0 : Nat) = 1) = false from tt_neg (by omega)]
            have hqr : x = U / V ∧ val (fun i => o' (t + i)) (m + 1) = U % V := round_right (M := B ^ (m + 1)) HVp.out (by have := Hov.out; rw [HUd.out, HVd.out]; exact this) rfl rfl HTk.out.1
            have HX := Lib.hid hqr.1
            have HO2 := Lib.hid hqr.2
            clear hqr
            have cz := HRo'.out.cell (i := t) (by omega)
            have fz := HRo'.out.frozen t
            go_wp2_with fail
            rw [Exit.noGoto_normal]
            go_wp2_with fail
            go_roundw
            case rel =>
              refine ⟨t, o', upd oo t (U / V), by omega, rfl, HRu'.out.setOther (by show bu ≠ Z; omega) _, HRv'.out.setOther (by show bv ≠ Z; omega) _, rowIs_upd HRo'.out t _ _ (by have := HX.out; unfold B at hxB; omega), ?_, HBel'.out.setCell (p := ⟨Z, t, none⟩) hwZ _⟩
              have h1 := DivAt.next HD.out (by omega) (by rw [← HVd.out]; exact HVp.out) HqC.out.upper HoB.out Hoo.out (by rw [← HUd.out, ← HVd.out]; exact HO2.out)
              rw [← HUd.out, ← HVd.out] at h1
              exact h1
            case measure => first | (simp [intOf]; done) | (simp [intOf]; omega)
          · obtain rfl : bo = 1 := by omega
            rw [show tt ((1 : Nat) = 1) = true from tt_pos rfl]
            have HGb := Lib.hid (giveBack_any bu t (m + 1) (n + 1) (n + 1 - t) m o' q _ wd HRu'.out HoB.out (by omega) (by omega) (by omega) (by omega) HRdV'.out HqC.out.lt (by omega))
            have hx1 : 1 ≤ x := by
              rcases Nat.lt_or_ge x 1 with h | h
              · have h0 := Hov.out
                obtain rfl : x = 0 := by omega
                have h1 : val (fun i => o' (t + i)) (m + 1) < B ^ (m + 1) := val_lt fun j hj => HoB.out _ (by omega)
                omega
              · exact h
            go_wp2_with fail
            refine HGb.out.mono ?_
            rintro e we ⟨o2, c0, ⟨vr, rfl⟩, hro2, ho2B, ho2o, ho2v, hgr2⟩
            have hqr : x = U / V + 1 ∧ val (fun i => o2 (t + i)) (m + 1) = U % V := by
              refine round_back (M := B ^ (m + 1)) HVp.out (by have := Hov.out; rw [HUd.out, HVd.out]; rw [Nat.one_mul] at this; exact this) (val_lt fun j hj => HoB.out _ (by omega)) ?_ (by rw [HVd.out]; exact ho2v) (val_lt fun j hj => ho2B _ (by omega)) rfl HTk.out.2.1
              rw [HVd.out, Nat.pow_succ]
              have h1 := HqC.out.upper
              have h2 : B ^ m * 1 ≤ B ^ m * B := Nat.mul_le_mul_left _ B_pos
              omega
            have HX := Lib.hid hqr.1
            have HO2 := Lib.hid hqr.2
            have HRu2 := Lib.hid hro2
            have Ho2B := Lib.hid ho2B
            have Ho2o := Lib.hid ho2o
            have HRv2 := Lib.hid (HRv'.out.of_block (hgr2.block bv HRv'.out.lt (by simpa using fun e => hne e.symm)))
            have HRo2 := Lib.hid (HRo'.out.of_block (hgr2.block Z HRo'.out.lt (by simp; omega)))
            have HBel2 := Lib.hid (HBel'.out.trans (below_grown hgr2 (hwbu) HRu'.out.lt))
            clear hqr hro2 ho2B ho2o ho2v hgr2
            have cz := HRo2.out.cell (i := t) (by omega)
            have fz := HRo2.out.frozen t
            go_wp2_with fail
            rw [Exit.noGoto_normal]
            go_wp2_with fail
            go_roundw
            case rel =>
              refine ⟨t, o2, upd oo t (U / V), by omega, rfl, HRu2.out.setOther (by show bu ≠ Z; omega) _, HRv2.out.setOther (by show bv ≠ Z; omega) _, rowIs_upd HRo2.out t _ _ (by have := HX.out; unfold B at hxB; omega), ?_, HBel2.out.setCell (p := ⟨Z, t, none⟩) hwZ _⟩
              have h1 := DivAt.next HD.out (by omega) (by rw [← HVd.out]; exact HVp.out) HqC.out.upper Ho2B.out (fun i hi => (Ho2o.out i hi).trans (Hoo.out i hi)) (by rw [← HUd.out, ← HVd.out]; exact HO2.out)
              rw [← HUd.out, ← HVd.out] at h1
              exact h1
            case measure => first | (simp [intOf]; done) | (simp [intOf]; omega)
end Go.Proofs.YtmbokpfgnicboaaGreat
