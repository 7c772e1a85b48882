import Derived.Test.YtmbokpfgnicboaaGreatRo
set_option linter.unusedVariables false
set_option linter.unusedSimpArgs false
/- The walks of the reference's package of codes: ThresholdOf. -/
namespace Go.Proofs.YtmbokpfgnicboaaGreat
open Go.RowKit Go.Hd _root_.Hd
set_option exponentiation.threshold 2000

set_option maxRecDepth 100000 in
set_option maxHeartbeats 4000000 in
/-- The threshold for k marked places. -/
theorem rthresholdof_any (U : Int) (d k m n : Nat) (K : Nat → Nat) (v u : Value) (w : World) (hv : Nt w v m) (hu : Nt w u n) (hd : d ≤ 64) (hk : k ≤ 2 * d) (hm : m < B ^ 4) (hn : n < B ^ 4) :
    Calls Tryz.prog 125 #[stV U (d : Int) K v u, .int .i64 k] w fun e w' => e = .returned (.int .i64 (thr d m n k)) ∧ Below w.heap.size w w' := by
  have hal := (Below.refl _ w).alloc (Nat.le_refl _) (.cells #[.int .i64 U, .int .i64 (d : Int), .int .u8 (K 0), .int .u8 (K 1), .int .u8 (K 2), .int .u8 (K 3), .int .u8 (K 4), .int .u8 (K 5), .int .u8 (K 6), .int .u8 (K 7), .int .u8 (K 8), .int .u8 (K 9), .int .u8 (K 10), .int .u8 (K 11), .int .u8 (K 12), .int .u8 (K 13), .int .u8 (K 14), .int .u8 (K 15), v, u] 29)
  have HA := Lib.hid hal
  have HS := Lib.hid (st_row w U (d : Int) K v u 29)
  have HV := Lib.hid hv
  have HU := Lib.hid hu
  obtain ⟨y, hy⟩ : ∃ y, y = 2 * d - k := ⟨_, rfl⟩
  have HCh := Lib.hid (fun W => rchoose_nt (2 * d) (d : Int) W (by omega) (by omega) (by omega))
  rw [show chsI (2 * d) (d : Int) = chs (2 * d) d from chsI_nat _ _, show ((2 * d : Nat) : Int) = 2 * (d : Int) by omega] at HCh
  have HC1 := Lib.hid (fun (i : Nat) (hi : i ≤ k) W => rchoose_nt k (i : Int) W (by omega) (by omega) (by omega))
  have HC2 := Lib.hid (fun (i : Nat) (hi : i ≤ k) (z : Int) (hz : z = (d : Int) - i) W => rchoose_nt y z W (by omega) (by omega) (by omega))
  have HTm := Lib.hid (fun (i : Nat) (z : Int) (hz : z = (d : Int) - i) W p q (hp : Nt W p (chsI k (i : Int))) (hq : Nt W q (chsI y z)) => rtimes_nt _ _ p q W hp hq (by rw [chsI_nat]; exact lim_huge (choose_lim (by omega) _)) (lim_huge (lt_lim (chsI_lim (by omega) _) (by omega))))
  have HTe := Lib.hid (fun (i : Nat) (z : Int) (hz : z = (d : Int) - i) => (by rw [chsI_nat, hy, hz]; exact T_eq d k i : chsI k (i : Int) * chsI y z = T d k i))
  have HPl := Lib.hid (fun (i : Nat) (hi : i ≤ k) W p q (hp : Nt W p (sum (T d k) i)) (hq : Nt W q (T d k i)) => rplus_nt (sum (T d k) i) (T d k i) p q W hp hq (huge_of (sums_huge hd hk (by omega))) (lim_huge (T_lim hd hk _)))
  have HIn := Lib.hid (fun (i : Nat) (hi : i ≤ k) W p q (hp : Nt W p (sum (T d k) (i + 1))) (hq : Nt W q (chs (2 * d) d)) (h : Below w.heap.size w W) => rwithin_nt (sum (T d k) (i + 1)) (chs (2 * d) d) m n p q v u W hp hq (hv.below h) (hu.below h) (huge_of (sums_huge hd hk (by omega))) (lim_huge (choose_lim (by omega) _)) (lim_huge (lim4 hm)) (lim_huge (lim4 hn)))
  have hyI : (2 * (d : Int) - (k : Int)) = (y : Int) := by omega
  have Hk := Lib.hid hk
  have Hd := Lib.hid hd
  obtain ⟨A1, n1, c1, rfl⟩ := hv.shape
  obtain ⟨A2, n2, c2, rfl⟩ := hu.shape
  have k1 : (w.alloc (.cells #[.int .i64 U, .int .i64 (d : Int), .int .u8 (K 0), .int .u8 (K 1), .int .u8 (K 2), .int .u8 (K 3), .int .u8 (K 4), .int .u8 (K 5), .int .u8 (K 6), .int .u8 (K 7), .int .u8 (K 8), .int .u8 (K 9), .int .u8 (K 10), .int .u8 (K 11), .int .u8 (K 12), .int .u8 (K 13), .int .u8 (K 14), .int .u8 (K 15), (.slice A1 n1 c1), (.slice A2 n2 c2)] 29)).cell? ⟨w.heap.size, 1, none⟩ = some (.int .i64 d) := HS.out.cell (i := 1) (by omega)
  clear hal hy hv hu
  generalize hW0 : w.alloc (.cells #[.int .i64 U, .int .i64 (d : Int), .int .u8 (K 0), .int .u8 (K 1), .int .u8 (K 2), .int .u8 (K 3), .int .u8 (K 4), .int .u8 (K 5), .int .u8 (K 6), .int .u8 (K 7), .int .u8 (K 8), .int .u8 (K 9), .int .u8 (K 10), .int .u8 (K 11), .int .u8 (K 12), .int .u8 (K 13), .int .u8 (K 14), .int .u8 (K 15), (.slice A1 n1 c1), (.slice A2 n2 c2)] 29) = W0 at *
  go_enter Tryz.func125, Tryz.ntmps125
  go_wp2_with fail
  refine (HCh.out _).mono ?_
  rintro e w1 ⟨v1, rfl, hN1, hB1⟩
  have HN1 := Lib.hid hN1
  have HB1 := Lib.hid hB1
  obtain ⟨A5, n5, c5, rfl⟩ := hN1.shape
  have k1 := cell_below hB1 k1
  have HS1 := Lib.hid (HS.out.of_block (hB1.block _ HS.out.lt))
  clear hN1 hB1
  go_wp2_with fail
  go_loopw [6, 7] (fun s6 s7 wr => ∃ j : Nat, j ≤ k + 1 ∧ s7 = .int .i64 ((j : Int) - 1) ∧ Hid (Nt wr s6 (sum (T d k) j)) ∧ Hid (∀ i, i < j → okT d m n k i = true) ∧ Below w1.heap.size w1 wr) (fun _ s7 _ => k + 1 - (intOf s7 + 1).toNat)
  case atStart => exact ⟨0, Nat.zero_le _, rfl, Nt.nil _, fun i hi => by omega, Below.refl _ _⟩
  case round =>
    obtain ⟨j, hj, rfl, hN, hok, hbel⟩ := hrel
    obtain ⟨W2, rfl⟩ : ∃ W2 : World, W2 = wr := ⟨_, rfl⟩
    have HBel := Lib.hid hbel
    have HSr := Lib.hid (HS1.out.of_block (hbel.block _ HS1.out.lt))
    have k1 := cell_below hbel k1
    obtain ⟨A6, n6, c6, rfl⟩ := hN.out.shape
    obtain ⟨xx, hxx⟩ : ∃ xx : Int, xx = (j : Int) - 1 := ⟨_, rfl⟩
    rw [← hxx]
    by_cases hlt : j ≤ k
    · obtain ⟨z, hz⟩ : ∃ z : Int, z = (d : Int) - j := ⟨_, rfl⟩
      obtain ⟨z1, hz1⟩ : ∃ z1 : Int, z1 = (d : Int) - xx := ⟨_, rfl⟩
      have g1 : IntKind.i64.wrap (xx + 1) = (j : Int) := by rw [IntKind.wrap_i64]; omega
      have g2 : IntKind.i64.wrap (2 * (d : Int)) = 2 * (d : Int) := by rw [IntKind.wrap_i64]; omega
      have g3 : IntKind.i64.wrap (2 * (d : Int) - (k : Int)) = (y : Int) := by rw [IntKind.wrap_i64]; omega
      have g4 : IntKind.i64.wrap ((d : Int) - xx) = z1 := by rw [IntKind.wrap_i64]; omega
      have g5 : IntKind.i64.wrap (z1 - 1) = z := by rw [IntKind.wrap_i64]; omega
      have g6 : IntKind.i64.wrap (y : Int) = (y : Int) := by rw [IntKind.wrap_i64]; omega
      have hlt2 : xx < (k : Int) := by omega
      have HT1 := Lib.hid (HC1.out j hlt)
      have HT2 := Lib.hid (HC2.out j hlt z hz)
      have HTm2 := Lib.hid (HTm.out j z hz)
      have HTe2 := Lib.hid (HTe.out j z hz)
      have HXX := Lib.hid hxx
      clear hbel hz hz1 hxx
      go_upto_region 5 with fail
      go_cut [6] (fun s6 wx => Hid (Nt wx s6 (sum (T d k) (j + 1))) ∧ Below W2.heap.size W2 wx)
      case first =>
        go_region_held3 (fun w' => w'.cell? ⟨w.heap.size, 1, none⟩ = some (.int .i64 d)) (first | go_keep | exact cell_below hD.out k1)
          (first
            | (go_at_call_of 156 (Value.int .i64 (k : Int)); refine (HT1.out _).mono ?_; rintro e wa ⟨p, rfl, hp, hBa⟩; obtain ⟨Ap, np, cp, rfl⟩ := hp.shape; have hD := Lib.hid (below_then (w := W2) (by first | exact hD.out | exact (Below.refl _ _).drew) hBa); have Hp := Lib.hid hp; (try have Hq := Lib.hid (Hq.out.below hBa)); clear hp hBa)
            | (go_at_call_of 156 (Value.int .i64 (y : Int)); refine (HT2.out _).mono ?_; rintro e wb ⟨q, rfl, hq, hBb⟩; obtain ⟨Aq, nq, cq, rfl⟩ := hq.shape; have hD := Lib.hid (below_then (w := W2) (by first | exact hD.out | exact (Below.refl _ _).drew) hBb); have Hq := Lib.hid hq; (try have Hp := Lib.hid (Hp.out.below hBb)); clear hq hBb)
            | (go_at_call 135; refine (HTm2.out _ _ _ Hp.out Hq.out).mono ?_; rintro e wc ⟨r, rfl, hr, hBc⟩; rw [HTe2.out] at hr; obtain ⟨Ar, nr, cr, rfl⟩ := hr.shape; have hD := Lib.hid (below_then hD.out hBc); have Hr := Lib.hid hr; clear hr hBc)
            | (go_at_call 92; refine (HPl.out j hlt _ _ _ (hN.out.below hD.out) Hr.out).mono ?_; rintro e wd ⟨r2, rfl, hr2, hBd, _⟩; obtain ⟨Ar2, nr2, cr2, rfl⟩ := hr2.shape; have hD := Lib.hid (below_then hD.out hBd); have Hr2 := Lib.hid hr2; clear hr2 hBd))
        all_goals
          go_wp2_with fail
          go_meet
          case rel => exact ⟨Hr2.out, hD.out⟩
      case rest =>
        obtain ⟨hNs, hbc⟩ := hcut
        have HBc := Lib.hid (HBel.out.trans (hbc.mono HBel.out.size))
        have HSc := Lib.hid (HSr.out.of_block (hbc.block _ HSr.out.lt))
        have HNs := Lib.hid hNs.out
        have q18 : wc.cell? ⟨w.heap.size, 18, none⟩ = some (.slice A1 n1 c1) := HSc.out.cell (i := 18) (by omega)
        have q19 : wc.cell? ⟨w.heap.size, 19, none⟩ = some (.slice A2 n2 c2) := HSc.out.cell (i := 19) (by omega)
        have HIn2 := Lib.hid (HIn.out j hlt wc _ _ HNs.out (HN1.out.below HBc.out) (below_then HA.out (below_then HB1.out HBc.out)))
        obtain ⟨A7, n7, c7, rfl⟩ := HNs.out.shape
        rw [← okT_eq] at HIn2
        clear hNs hbc g1 g2 g3 g4 g5 g6 k1
        cases hc : okT d m n k j with
        | true =>
          rw [hc] at HIn2
          have HOk : Hid (∀ i, i < j + 1 → okT d m n k i = true) := fun i hi => by
            rcases Nat.lt_or_ge i j with h | h
            · exact hok.out i h
            · obtain rfl : i = j := by omega
              exact hc
          clear hc
          go_wp2_with fail
          refine HIn2.out.mono ?_
          rintro e w5 ⟨rfl, hB5⟩
          have HB5 := Lib.hid (below_then HBc.out hB5)
          have HN5 := Lib.hid (HNs.out.below hB5)
          have hx2 : -2 ≤ xx ∧ xx ≤ 1000 := by have := HXX.out; omega
          clear hB5
          go_wp2
          go_roundw
          case rel => exact ⟨j + 1, by omega, by have := HXX.out; congr 1; omega, HN5.out, HOk.out, HB5.out⟩
          case measure =>
            have := HXX.out
            simp [intOf]; omega
        | false =>
          rw [hc] at HIn2
          have HT : Hid (thr d m n k = xx) := by
            have := HXX.out
            show _ = _
            unfold thr
            rw [good_of (by omega) hok.out (fun _ => hc)]
            omega
          clear hc
          go_wp2_with fail
          refine HIn2.out.mono ?_
          rintro e w5 ⟨rfl, hB5⟩
          have HB5 := Lib.hid (below_then HBc.out hB5)
          clear hB5
          go_wp2
          go_ret
          exact ⟨by rw [HT.out]; rfl, below_then HA.out (below_then HB1.out HB5.out)⟩
    · obtain rfl : j = k + 1 := by omega
      have HT : Hid (thr d m n k = xx) := by
        show _ = _
        unfold thr
        rw [good_of (Nat.le_refl _) hok.out (fun h => by omega), hxx]
      have hxk : xx = (k : Int) := by omega
      subst hxk
      clear hbel hxx
      go_wp2
      go_ret
      exact ⟨by rw [HT.out]; rfl, below_then HA.out (below_then HB1.out HBel.out)⟩
end Go.Proofs.YtmbokpfgnicboaaGreat

/- The walks of the reference's package of codes: Threshold. -/
namespace Go.Proofs.YtmbokpfgnicboaaGreat
open Go.RowKit Go.Hd _root_.Hd
set_option exponentiation.threshold 2000

end Go.Proofs.YtmbokpfgnicboaaGreat

/- The walks of the reference's package of codes: Thresholds. -/
namespace Go.Proofs.YtmbokpfgnicboaaGreat
open Go.RowKit Go.Hd _root_.Hd
set_option exponentiation.threshold 2000

theorem infoInt' : (Tryz.prog.info? 3).map (fun i => (i.zero, i.size, i.bytes)) = some (some (.int .i64 0), 1, 8) := by kernel_rfl
theorem infoBool' : (Tryz.prog.info? 4).map (fun i => (i.zero, i.size, i.bytes)) = some (some (.bool false), 1, 1) := by kernel_rfl

end Go.Proofs.YtmbokpfgnicboaaGreat

/- The walks of the reference's package of codes: Complete. -/
namespace Go.Proofs.YtmbokpfgnicboaaGreat
open Go.RowKit Go.Hd _root_.Hd
set_option exponentiation.threshold 2000

/-- The weights of the next block, from those before v. -/
def MX (d m n c v w : Nat) : Prop := ∃ x, x < v ∧ May d m n c x ∧ thr d m n (x + w) < (x : Int)
/-- And from v itself, up to i. -/
def MY (d m n c v i w : Nat) : Prop := MX d m n c v w ∨ (w < i ∧ May d m n c v ∧ thr d m n (v + w) < (v : Int))
theorem MX_zero {d m n c w : Nat} : ¬ MX d m n c 0 w := fun ⟨x, hx, _⟩ => absurd hx (by omega)
theorem MX_end {d m n c w : Nat} (hw : w ≤ d) : MX d m n c (d + 1) w ↔ May d m n (c + 1) w :=
  ⟨fun ⟨x, h1, h2, h3⟩ => ⟨hw, x, by omega, h2, h3⟩, fun ⟨_, x, h1, h2, h3⟩ => ⟨x, by omega, h2, h3⟩⟩
theorem MY_zero {d m n c v w : Nat} : MX d m n c v w ↔ MY d m n c v 0 w := ⟨Or.inl, fun h => h.resolve_right (fun h => absurd h.1 (by omega))⟩
theorem MY_end {d m n c v w : Nat} (hw : w ≤ d) : MY d m n c v (d + 1) w ↔ MX d m n c (v + 1) w := by
  constructor
  · rintro (⟨x, h1, h2, h3⟩ | ⟨h1, h2, h3⟩)
    · exact ⟨x, by omega, h2, h3⟩
    · exact ⟨v, by omega, h2, h3⟩
  · rintro ⟨x, h1, h2, h3⟩
    by_cases e : x = v
    · subst e
      exact Or.inr ⟨by omega, h2, h3⟩
    · exact Or.inl ⟨x, by omega, h2, h3⟩
theorem MY_other {d m n c v i w : Nat} (h : w ≠ i) : MY d m n c v i w ↔ MY d m n c v (i + 1) w := by
  constructor
  · rintro (h1 | ⟨h1, h2⟩)
    · exact Or.inl h1
    · exact Or.inr ⟨by omega, h2⟩
  · rintro (h1 | ⟨h1, h2⟩)
    · exact Or.inl h1
    · exact Or.inr ⟨by omega, h2⟩
theorem MY_at {d m n c v i : Nat} : MY d m n c v (i + 1) i ↔ (MX d m n c v i ∨ (May d m n c v ∧ thr d m n (v + i) < (v : Int))) := by
  constructor
  · rintro (h1 | ⟨_, h2⟩)
    · exact Or.inl h1
    · exact Or.inr h2
  · rintro (h1 | h2)
    · exact Or.inl h1
    · exact Or.inr ⟨by omega, h2⟩
theorem MY_here {d m n c v i : Nat} : MY d m n c v i i ↔ MX d m n c v i := ⟨fun h => h.resolve_right (fun h => absurd h.1 (by omega)), Or.inl⟩

theorem rowB_set {wr : World} {b N i : Nat} {t : TypeId} {P Q : Nat → Prop} (h : wr.rowIs b t N (fun j => .bool (tt (P j)))) (x : Bool) (hx : x = tt (Q i)) (ho : ∀ j, j ≠ i → (P j ↔ Q j)) : (wr.setCell ⟨b, i, none⟩ (.bool x)).rowIs b t N (fun j => .bool (tt (Q j))) :=
  (h.set i _).congr fun j hj => by
    by_cases e : j = i
    · subst e
      rw [if_pos rfl, hx]
    · rw [if_neg e, tt_congr (ho j e)]

theorem row_made_set (w : World) (z x : Value) (n i : Nat) (t : TypeId) : (w.alloc (.cells ((madeCells #[z] n).setIfInBounds i x) t)).rowIs w.heap.size t n (fun j => if j = i then x else z) := by
  have h := World.rowIs_alloc w ((madeCells #[z] n).setIfInBounds i x) t (fun j => if j = i then x else z) (fun j hj => by
    rw [Array.size_setIfInBounds, size_madeCells] at hj
    rw [Array.getElem?_setIfInBounds]
    by_cases e : i = j
    · subst e
      rw [if_pos rfl, if_pos (by rw [size_madeCells]; exact hj), if_pos rfl]
    · rw [if_neg e, if_neg (fun h => e h.symm)]
      simp [madeCells, hj, Nat.mod_one])
  rw [Array.size_setIfInBounds, size_madeCells] at h
  exact h



end Go.Proofs.YtmbokpfgnicboaaGreat