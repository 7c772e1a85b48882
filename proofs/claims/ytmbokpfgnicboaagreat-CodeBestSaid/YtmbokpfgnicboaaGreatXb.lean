import Derived.Test.YtmbokpfgnicboaaGreatXa
import Derived.Deep.DeepCutAuto
import Derived.Deep.MidRow
set_option linter.unusedVariables false
set_option linter.unusedSimpArgs false
/- The walks of package code: the bound. -/
namespace Go.Proofs.YtmbokpfgnicboaaGreat
open Go.RowKit Go.Hd Go.Sort _root_.Hd
set_option exponentiation.threshold 2000

theorem lim_448 {x y : Nat} (h : x ≤ 2 ^ 320) (hy : y < B ^ 4) : x * y < Lim := by
  refine lt_lim (k := 448) ?_ (by omega)
  have h1 : x * y ≤ 2 ^ 320 * 2 ^ 128 := Nat.mul_le_mul h (Nat.le_of_lt (by rw [Bpow_two] at hy; exact hy))
  rwa [← Nat.pow_add] at h1
theorem tl_le {c : Int → Nat} {t : Nat} (hs : wsum c 2048 = t) (z : Int) : tl c 2048 z ≤ t := by
  rw [← hs]
  exact wsum_le fun s _ _ => by
    split
    · exact Nat.le_refl _
    · exact Nat.zero_le _

set_option maxRecDepth 100000 in
set_option maxHeartbeats 4000000 in
theorem bound_any (b N t m n : Nat) (c : Int → Nat) (av lv lu : Value) (w : World) (h : SprIs w b N c av t) (hlv : Nt w lv m) (hlu : Nt w lu n) (ht : t ≤ 2 ^ 320) (ht0 : 0 < t) (hm : m < B ^ 4) (hn : n < B ^ 4) (hmn : m < n) :
    Calls Tryz.prog 83 #[.agg #[.map (some b), av], .agg #[lv, lu]] w fun e w' => ∃ z : Int, e = .returned (.int .i64 z) ∧ Bnd c 2048 t m n z ∧ -2048 ≤ z ∧ z ≤ 2049 ∧ Below w.heap.size w w' := by
  have HSp := Lib.hid h
  have HReach := Lib.hid (fun W z (hb : Below w.heap.size w W) => reach_any b N t c av z W (h.below hb) ht)
  have HWith := Lib.hid (fun W v z (hb : Below w.heap.size w W) (hv : Nt W v (tl c 2048 z)) => within_nt (tl c 2048 z) t m n v av lv lu W hv (h.all.below hb) (hlv.below hb) (hlu.below hb) (lim_327 (by have := tl_le h.sum z; omega)) (lim_327 (by omega)) (lim4 hm) (lim4 hn) (lim_448 (Nat.le_trans (tl_le h.sum z) ht) hn) (by rw [Nat.mul_comm]; exact lim_448 ht hm))
  obtain ⟨F, hF, hFc⟩ := h.map
  have HF := Lib.hid hF
  have HFc := Lib.hid hFc
  have HSum := Lib.hid h.sum
  have HOut := Lib.hid h.out
  have HMn := Lib.hid hmn
  obtain ⟨Aa, na, ca, rfl⟩ := h.all.shape
  obtain ⟨Al, nl, cl, rfl⟩ := hlv.shape
  obtain ⟨Au, nu, cu, rfl⟩ := hlu.shape
  have HB0 : Hid (Below w.heap.size w ((w.alloc (.cells #[.map (some b), .slice Aa na ca] 126)).alloc (.cells #[.slice Al nl cl, .slice Au nu cu] 27))) := ((Below.refl _ _).alloc (Nat.le_refl _) _).alloc (by simp) _
  have HR1 : Hid (((w.alloc (.cells #[.map (some b), .slice Aa na ca] 126)).alloc (.cells #[.slice Al nl cl, .slice Au nu cu] 27)).rowIs w.heap.size 126 2 (fun i => if i = 0 then .map (some b) else .slice Aa na ca)) := (row2 _ _ _ _).alloc _
  have HR2 : Hid (((w.alloc (.cells #[.map (some b), .slice Aa na ca] 126)).alloc (.cells #[.slice Al nl cl, .slice Au nu cu] 27)).rowIs (w.heap.size + 1) 27 2 (fun i => if i = 0 then .slice Al nl cl else .slice Au nu cu)) := by
    have h := row2 (w.alloc (.cells #[.map (some b), .slice Aa na ca] 126)) (.slice Al nl cl) (.slice Au nu cu) 27
    rw [World.size_alloc] at h
    exact h
  have hbw : b < w.heap.size := hF.lt
  have hbw1 : b < w.heap.size + 1 := by omega
  clear hF hFc h hlv hlu hmn
  go_enter Tryz.func83, Tryz.ntmps83
  go_wp2_with (first
    | (at_range; refine wpList_range_mi rfl _ 124 rfl 3 25 Tryz.underlying3 Tryz.underlying124 (.slice none 0 0) (zeroNat _) b _ _ rfl (HF.out.below HB0.out) ?_; intro w1 cnt hrg hg1 hs1)
    | go_in)
  go_frame
  have hsz0 : ((w.alloc (.cells #[.map (some b), .slice Aa na ca] 126)).alloc (.cells #[.slice Al nl cl, .slice Au nu cu] 27)).heap.size = w.heap.size + 2 := by simp
  rw [hsz0] at hrg hs1 ⊢
  have HR1a := Lib.hid (HR1.out.of_block (hg1.block _ (by rw [hsz0]; omega) (by simp)))
  have HR2a := Lib.hid (HR2.out.of_block (hg1.block _ (by rw [hsz0]; omega) (by simp)))
  have HB1 := Lib.hid (HB0.out.grown hg1 (by rw [hsz0]; omega) (fun j hj => by cases hj))
  clear hg1 hsz0 HR1 HR2 HB0
  go_loopw [5, 6] (fun s5 s6 wr => ∃ (left : Int → Bool) (cnt' : Nat) (lo hi : Int), MapRng wr Tryz.prog 3 b (w.heap.size + 2) N F left cnt' ∧ s5 = .int .i64 lo ∧ s6 = .int .i64 hi ∧ -2048 ≤ lo ∧ lo ≤ 0 ∧ 0 ≤ hi ∧ hi ≤ 2048 ∧ Hid (∀ x, c x ≠ 0 → left x = false → lo ≤ x ∧ x ≤ hi) ∧ Below (w.heap.size + 2) w1 wr) (fun _ _ wr => wr.rangeLeft b (w.heap.size + 2))
  case atStart =>
    refine ⟨_, cnt, 0, 0, hrg, rfl, rfl, by omega, by omega, by omega, by omega, fun x hx hl => ?_, Below.refl _ _⟩
    obtain ⟨v, e, _⟩ := (HFc.out x).2 hx
    rw [e] at hl
    cases hl
  case round =>
    obtain ⟨left, cnt5, lo, hi, hrg5, rfl, rfl, hlo, hlo0, hhi0, hhi, hall, hbel5⟩ := hrel
    obtain ⟨W5, rfl⟩ : ∃ W5 : World, W5 = wr := ⟨_, rfl⟩
    have HBel5 := Lib.hid hbel5
    clear hbel5
    go_wp2_with (first
      | (at_next; refine wpList_next_mi rfl _ rfl 3 Tryz.underlying3 b (w.heap.size + 2) _ _ _ _ rfl hrg5 ?_ ?_)
      | go_in)
    · intro hdone
      have HA : Hid (∀ x, c x ≠ 0 → lo ≤ x ∧ x ≤ hi) := fun x hx => by
        have := HOut.out x hx
        exact hall.out x hx (hdone x (wf_of (by omega) (by omega)))
      have HLo : Hid (¬ bdW c 2048 t m n lo) := bdW_low (fun s hs => by
        rcases Nat.eq_zero_or_pos (c s) with h | h
        · exact h
        · have := (HA.out s (by omega)).1; omega) HSum.out ht0 HMn.out
      have HHi : Hid (bdW c 2048 t m n (hi + 1)) := bdW_high (fun s hs => by
        rcases Nat.eq_zero_or_pos (c s) with h | h
        · exact h
        · have := (HA.out s (by omega)).2; omega)
      have HR1b := Lib.hid (HR1a.out.of_block (HBel5.out.block _ (by omega)))
      have HR2b := Lib.hid (HR2a.out.of_block (HBel5.out.block _ (by omega)))
      have HBw := Lib.hid (HB1.out.trans (HBel5.out.mono (by omega)))
      clear hdone hall hrg5
      go_wp2_with fail
      go_loopw [5, 6] (fun s5 s6 wr => ∃ lo hi : Int, s5 = .int .i64 lo ∧ s6 = .int .i64 hi ∧ -2048 ≤ lo ∧ hi ≤ 2049 ∧ lo < hi ∧ Hid (¬ bdW c 2048 t m n lo) ∧ Hid (bdW c 2048 t m n hi) ∧ Below W5.heap.size W5 wr) (fun s5 s6 _ => (intOf s6 - intOf s5).toNat)
      case atStart => exact ⟨lo, hi + 1, rfl, rfl, hlo, by omega, by omega, HLo.out, HHi.out, Below.refl _ _⟩
      case round =>
        clear hlo hlo0 hhi0 hhi HLo HHi HA
        obtain ⟨lo, hi, rfl, rfl, hlo, hhi, hlh, HLo, HHi, hbel⟩ := hrel
        obtain ⟨W6, rfl⟩ : ∃ W6 : World, W6 = wr := ⟨_, rfl⟩
        have HB6 := Lib.hid (below_then HBw.out hbel)
        have HBel := Lib.hid hbel
        by_cases hlt : 1 < hi - lo
        · have HR1c := Lib.hid (HR1b.out.of_block (hbel.block _ HR1b.out.lt))
          have HR2c := Lib.hid (HR2b.out.of_block (hbel.block _ HR2b.out.lt))
          have q0 : W6.cell? ⟨w.heap.size, 0, none⟩ = some (.map (some b)) := HR1c.out.cell (i := 0) (by omega)
          have q1 : W6.cell? ⟨w.heap.size, 1, none⟩ = some (.slice Aa na ca) := HR1c.out.cell (i := 1) (by omega)
          have q2 : W6.cell? ⟨w.heap.size + 1, 0, none⟩ = some (.slice Al nl cl) := HR2c.out.cell (i := 0) (by omega)
          have q3 : W6.cell? ⟨w.heap.size + 1, 1, none⟩ = some (.slice Au nu cu) := HR2c.out.cell (i := 1) (by omega)
          obtain ⟨z, hz⟩ : ∃ z, (lo + hi) / 2 = z := ⟨_, rfl⟩
          have hz1 : lo < z := by omega
          have hz2 : z < hi := by omega
          have HW0 : Hid (Below w.heap.size w W6.drew) := HB6.out.drew
          by_cases hw : bdW c 2048 t m n z
          · have HWz := Lib.hid hw
            have hin : inside (tl c 2048 z) t m n = true := decide_eq_true hw
            clear hbel hw
            go_wp2_with fail
            go_region_held3 (fun w' => w'.cell? ⟨w.heap.size, 0, none⟩ = some (.map (some b)) ∧ w'.cell? ⟨w.heap.size, 1, none⟩ = some (.slice Aa na ca) ∧ w'.cell? ⟨w.heap.size + 1, 0, none⟩ = some (.slice Al nl cl) ∧ w'.cell? ⟨w.heap.size + 1, 1, none⟩ = some (.slice Au nu cu)) (first | go_keep | exact ⟨cell_below hD.out q0, cell_below hD.out q1, cell_below hD.out q2, cell_below hD.out q3⟩)
              (first
                | (go_at_call 87; refine (HReach.out _ _ HW0.out).mono ?_; rintro e wa ⟨pv, rfl, hpv, hBa⟩; obtain ⟨Ap, np, cp, rfl⟩ := hpv.shape; have hD := Lib.hid (below_then (w := W6) (Below.refl _ _).drew hBa); have hD2 := Lib.hid (below_then HB6.out hD.out); have Hp := Lib.hid hpv; clear hpv hBa)
                | (go_at_call 131; refine (HWith.out _ _ _ hD2.out Hp.out).mono ?_; rintro e wb ⟨rfl, hBb⟩; have hD := Lib.hid (below_then hD.out hBb); clear hBb))
            all_goals
              go_wp2_with fail
              go_roundw
              case rel => exact ⟨lo, z, rfl, rfl, hlo, by omega, hz1, HLo.out, HWz.out, below_then HBel.out hD.out⟩
              case measure => simp [intOf]; omega
          · have HWz : Hid (¬ bdW c 2048 t m n z) := hw
            have hin : inside (tl c 2048 z) t m n = false := decide_eq_false hw
            clear hbel hw
            go_wp2_with fail
            go_region_held3 (fun w' => w'.cell? ⟨w.heap.size, 0, none⟩ = some (.map (some b)) ∧ w'.cell? ⟨w.heap.size, 1, none⟩ = some (.slice Aa na ca) ∧ w'.cell? ⟨w.heap.size + 1, 0, none⟩ = some (.slice Al nl cl) ∧ w'.cell? ⟨w.heap.size + 1, 1, none⟩ = some (.slice Au nu cu)) (first | go_keep | exact ⟨cell_below hD.out q0, cell_below hD.out q1, cell_below hD.out q2, cell_below hD.out q3⟩)
              (first
                | (go_at_call 87; refine (HReach.out _ _ HW0.out).mono ?_; rintro e wa ⟨pv, rfl, hpv, hBa⟩; obtain ⟨Ap, np, cp, rfl⟩ := hpv.shape; have hD := Lib.hid (below_then (w := W6) (Below.refl _ _).drew hBa); have hD2 := Lib.hid (below_then HB6.out hD.out); have Hp := Lib.hid hpv; clear hpv hBa)
                | (go_at_call 131; refine (HWith.out _ _ _ hD2.out Hp.out).mono ?_; rintro e wb ⟨rfl, hBb⟩; have hD := Lib.hid (below_then hD.out hBb); clear hBb))
            all_goals
              go_wp2_with fail
              go_roundw
              case rel => exact ⟨z, hi, rfl, rfl, by omega, hhi, hz2, HWz.out, HHi.out, below_then HBel.out hD.out⟩
              case measure => simp [intOf]; omega
        · have hz : hi - lo ≤ 1 := by omega
          clear hbel
          go_wp2_with fail
          go_ret
          have e : lo = hi - 1 := by omega
          exact ⟨hi, rfl, ⟨HHi.out, e ▸ HLo.out⟩, by omega, by omega, HB6.out⟩
    · intro x c6 w6 cnt6 hwx hlx hFx hrg6 hlt6 hg6 hs6 hen
      have hx0 : c x ≠ 0 := fun h => by have := (HFc.out x).1 h; rw [this] at hFx; cases hFx
      obtain ⟨v6, e6, hN6⟩ := (HFc.out x).2 hx0
      obtain rfl : v6 = c6 := by rw [e6] at hFx; cases hFx; rfl
      obtain ⟨hxa, hxb⟩ := HOut.out x hx0
      obtain ⟨L6, hL6'⟩ : ∃ L : Int → Bool, L = fun z => left z && !decide (z = x) := ⟨_, rfl⟩
      rw [← hL6'] at hrg6
      have hr5 : w.heap.size + 2 < W5.heap.size := hrg5.lt.1
      have HB6 := Lib.hid (HBel5.out.grown hg6 (by omega) (fun j hj => by cases hj; omega))
      have HAl : Hid (∀ y, c y ≠ 0 → L6 y = false → min lo x ≤ y ∧ y ≤ max hi x) := fun y hy hl => by
        rw [hL6'] at hl
        by_cases e : y = x
        · subst e; omega
        · have := hall.out y hy (by simpa [e] using hl)
          omega
      have hrl := hrg5.left_eq
      have HR6 := Lib.hid hrg6
      have Hlt6 := Lib.hid hlt6
      have Hrl := Lib.hid hrl
      clear hrg5 hg6 hN6 hrl hL6' hlx hFx e6 hwx hlt6 hrg6 hx0 hall
      go_wp2_with fail
      go_roundw
      case rel => exact ⟨L6, cnt6, min lo x, max hi x, HR6.out, rfl, rfl, by omega, by omega, by omega, by omega, HAl.out, HB6.out⟩
      case measure => rw [HR6.out.left_eq, Hrl.out]; exact Hlt6.out
end Go.Proofs.YtmbokpfgnicboaaGreat

/- The walks of package code: chances, Chance, Bound. -/
namespace Go.Proofs.YtmbokpfgnicboaaGreat
open Go.RowKit Go.Hd Go.Sort _root_.Hd
set_option exponentiation.threshold 2000

theorem bs_pow {Bs n : Nat} (hB : Bs ≤ 32) (hn : n ≤ 64) : Bs ^ n ≤ 2 ^ 320 := by
  refine Nat.le_trans (Nat.pow_le_pow_left hB n) ?_
  rw [show (32 : Nat) = 2 ^ 5 from rfl, ← Nat.pow_mul]
  exact Nat.pow_le_pow_right (by omega) (by omega)
/-- The counts of the scores; all of them. -/
def scC (Bs : Int) (n : Nat) (a : Nat → Int) (Y : Nat → Nat) : Int → Nat := cn Bs.toNat (fun j => (a j).toNat) Y n
def scA (Bs : Int) (n : Nat) : Nat := Bs.toNat ^ n
/-- A valid code of scores and a copy for it. -/
def ScOk (U Bs : Int) (n : Nat) (a : Nat → Int) (N : Nat) (Y : Nat → Nat) : Prop := VS U Bs n a ∧ IsC N Y n
noncomputable def chE (U Bs : Int) (n : Nat) (a : Nat → Int) (N : Nat) (Y : Nat → Nat) : Int := if tt (VS U Bs n a) then (if tt (IsC N Y n) then 0 else 71) else 70
theorem chE_ok {U Bs : Int} {n N : Nat} {a : Nat → Int} {Y : Nat → Nat} (h : ScOk U Bs n a N Y) : chE U Bs n a N Y = 0 := by unfold chE; rw [tt_pos h.1, if_pos rfl, tt_pos h.2, if_pos rfl]
theorem chE_no {U Bs : Int} {n N : Nat} {a : Nat → Int} {Y : Nat → Nat} (h : ¬ ScOk U Bs n a N Y) : chE U Bs n a N Y = 70 ∨ chE U Bs n a N Y = 71 := by
  unfold chE
  by_cases h1 : VS U Bs n a
  · rw [tt_pos h1, if_pos rfl, tt_neg (fun h2 => h ⟨h1, h2⟩), if_neg (by simp)]; exact Or.inr rfl
  · rw [tt_neg h1, if_neg (by simp)]; exact Or.inl rfl
theorem vs_bounds {U Bs : Int} {n : Nat} {a : Nat → Int} (h : VS U Bs n a) : n ≤ 64 ∧ 2 ≤ Bs.toNat ∧ Bs.toNat ≤ 32 ∧ (Bs.toNat : Int) = Bs ∧ (∀ j, j < n → 1 ≤ (a j).toNat ∧ (a j).toNat < Bs.toNat) ∧ (∀ j, j < n → (((a j).toNat : Nat) : Int) = a j) := by
  obtain ⟨⟨h1, h2, h3, h4, h5, h6⟩, h7⟩ := h
  exact ⟨h6, by omega, by omega, by omega, fun j hj => by have := h7 j hj; omega, fun j hj => by have := h7 j hj; omega⟩
theorem scC_sum {U Bs : Int} {n : Nat} {a : Nat → Int} (h : VS U Bs n a) (Y : Nat → Nat) : wsum (scC Bs n a Y) 2048 = scA Bs n := by
  obtain ⟨h1, h2, h3, _, h5, _⟩ := vs_bounds h
  exact spr_all (p0 := q0 Bs.toNat (fun j => (a j).toNat) Y) (p1 := q1 Bs.toNat (fun j => (a j).toNat) Y) (c0 := f0 Bs.toNat (fun j => (a j).toNat)) (c1 := fun j => (a j).toNat) (h := 32) (n := n) (b := Bs.toNat) (fun i hi => by
    have b1 := pt_32 (x := 0) (y := Y i) h3 (h5 i hi).1 (h5 i hi).2
    have b2 := pt_32 (x := 1) (y := Y i) h3 (h5 i hi).1 (h5 i hi).2
    exact ⟨b1.1, b1.2, b2.1, b2.2⟩) (fun i hi => by have := h5 i hi; show Bs.toNat - (a i).toNat + (a i).toNat = _; omega) (by omega) n (Nat.le_refl _)
theorem scC_out {U Bs : Int} {n : Nat} {a : Nat → Int} (h : VS U Bs n a) (Y : Nat → Nat) (s : Int) (hs : scC Bs n a Y s ≠ 0) : -2048 ≤ s ∧ s ≤ 2048 := by
  obtain ⟨h1, h2, h3, _, h5, _⟩ := vs_bounds h
  exact cn_out h3 h5 (Nat.le_refl _) h1 hs
theorem scA_pos {U Bs : Int} {n : Nat} {a : Nat → Int} (h : VS U Bs n a) : 0 < scA Bs n := by
  obtain ⟨h1, h2, h3, _⟩ := vs_bounds h
  exact Nat.pow_pos (by omega)
theorem scA_le {U Bs : Int} {n : Nat} {a : Nat → Int} (h : VS U Bs n a) : scA Bs n ≤ 2 ^ 320 := by
  obtain ⟨h1, h2, h3, _⟩ := vs_bounds h
  exact bs_pow h3 h1

set_option maxRecDepth 100000 in
set_option maxHeartbeats 1000000 in
theorem chances_good (U Bs : Int) (v : Value) (K : Nat → Nat) (n : Nat) (a : Nat → Int) (N : Nat) (Y : Nat → Nat) (ys : Value) (w : World) (h : RdV w v n (fun j => .int .i64 (a j))) (hy : Rd w .u8 ys N Y) (hy6 : ∀ j, j < N → Y j < 256) (hok : ScOk U Bs n a N Y) :
    Calls Tryz.prog 82 #[scV U Bs v K, ys] w fun e w' => ∃ b av, e = .returned (.tuple #[.agg #[.map (some b), av], .int .i64 0]) ∧ SprIs w' b 8194 (scC Bs n a Y) av (scA Bs n) ∧ Below w.heap.size w w' := by
  have HOk := Lib.hid hok
  obtain ⟨hn, hB2, hB, hBs, hab, hat⟩ := vs_bounds hok.1
  have HV := Lib.hid h
  have HYs := Lib.hid hy
  have HC := Lib.hid (fun W (hb : Below w.heap.size w W) => checkScores_any U Bs v K n a W (h.below hb))
  rw [scE_yes hok.1] at HC
  have HI := Lib.hid (fun W (hb : Below w.heap.size w W) => isCopy_any N Y ys n W (hy.below hb) hy6)
  rw [tt_pos hok.2] at HI
  have HSp : Hid (∀ W, Below w.heap.size w W → Calls Tryz.prog 130 #[scV U Bs v K, ys] W fun e w' => ∃ b av, e = .returned (.agg #[.map (some b), av]) ∧ CM w' b 8194 (scC Bs n a Y) ∧ Nt w' av (scA Bs n) ∧ Below W.heap.size W w') := fun W hb => by
    have hN : N = n := hok.2.1
    have := spreadOf_any U Bs.toNat v K n (fun j => (a j).toNat) Y ys W (rdV_congr (h.below hb) (fun j hj => by rw [hat j hj])) (by have := hy.below hb; rw [hN] at this; exact this) hn hB2 hB hab (fun j hj => hok.2.2 j (by rw [hN]; exact hj))
    rw [hBs] at this
    exact this
  have HS := Lib.hid (sc_row w U Bs v K 46)
  have HB0 : Hid (Below w.heap.size w ((w.alloc (.cells #[.int .i64 U, .int .i64 Bs, v, .int .u8 (K 0), .int .u8 (K 1), .int .u8 (K 2), .int .u8 (K 3), .int .u8 (K 4), .int .u8 (K 5), .int .u8 (K 6), .int .u8 (K 7), .int .u8 (K 8), .int .u8 (K 9), .int .u8 (K 10), .int .u8 (K 11), .int .u8 (K 12), .int .u8 (K 13), .int .u8 (K 14), .int .u8 (K 15)] 46)).alloc (.cells #[.map none, .slice none 0 0] 126))) := ((Below.refl _ _).alloc (Nat.le_refl _) _).alloc (by simp) _
  have HS0 : Hid (((w.alloc (.cells #[.int .i64 U, .int .i64 Bs, v, .int .u8 (K 0), .int .u8 (K 1), .int .u8 (K 2), .int .u8 (K 3), .int .u8 (K 4), .int .u8 (K 5), .int .u8 (K 6), .int .u8 (K 7), .int .u8 (K 8), .int .u8 (K 9), .int .u8 (K 10), .int .u8 (K 11), .int .u8 (K 12), .int .u8 (K 13), .int .u8 (K 14), .int .u8 (K 15)] 46)).alloc (.cells #[.map none, .slice none 0 0] 126)).rowIs w.heap.size 46 19 (scF U Bs v K)) := HS.out.alloc _
  have HR0 : Hid (((w.alloc (.cells #[.int .i64 U, .int .i64 Bs, v, .int .u8 (K 0), .int .u8 (K 1), .int .u8 (K 2), .int .u8 (K 3), .int .u8 (K 4), .int .u8 (K 5), .int .u8 (K 6), .int .u8 (K 7), .int .u8 (K 8), .int .u8 (K 9), .int .u8 (K 10), .int .u8 (K 11), .int .u8 (K 12), .int .u8 (K 13), .int .u8 (K 14), .int .u8 (K 15)] 46)).alloc (.cells #[.map none, .slice none 0 0] 126)).rowIs (w.heap.size + 1) 126 2 (fun i => if i = 0 then .map none else .slice none 0 0)) := by
    have h := row2 (w.alloc (.cells #[.int .i64 U, .int .i64 Bs, v, .int .u8 (K 0), .int .u8 (K 1), .int .u8 (K 2), .int .u8 (K 3), .int .u8 (K 4), .int .u8 (K 5), .int .u8 (K 6), .int .u8 (K 7), .int .u8 (K 8), .int .u8 (K 9), .int .u8 (K 10), .int .u8 (K 11), .int .u8 (K 12), .int .u8 (K 13), .int .u8 (K 14), .int .u8 (K 15)] 46)) (.map none) (.slice none 0 0) 126
    rw [World.size_alloc] at h
    exact h
  obtain ⟨A, cap, rfl, _, _, h3⟩ := h
  obtain ⟨A2, cap2, rfl, _, _, h4⟩ := hy
  clear h3 h4 hy6 hok hab hat hBs HS
  go_enter Tryz.func82, Tryz.ntmps82
  go_wp2_with (refine wp_load_whole rfl 46 _ rfl w.heap.size rfl 46 19 _ _ _ HS0.out rfl (sc_cs _ _ _ _) Tryz.underlying46 rfl sc_size ?_)
  refine (HC.out _ HB0.out).mono ?_
  rintro e w1 ⟨rfl, hb1⟩
  have HS1 := Lib.hid (HS0.out.of_block (hb1.block _ HS0.out.lt))
  have HR1 := Lib.hid (HR0.out.of_block (hb1.block _ HR0.out.lt))
  have HB1 := Lib.hid (below_then HB0.out hb1)
  have c2 := HS1.out.cell (i := 2) (by omega)
  dsimp only [scF] at c2
  clear hb1
  go_wp2_with fail
  refine (HI.out _ HB1.out).mono ?_
  rintro e w2 ⟨rfl, hb2⟩
  have HS2 := Lib.hid (HS1.out.of_block (hb2.block _ HS1.out.lt))
  have HR2 := Lib.hid (HR1.out.of_block (hb2.block _ HR1.out.lt))
  have HB2 := Lib.hid (below_then HB1.out hb2)
  clear hb2 c2
  go_wp2_with (refine wp_load_whole rfl 46 _ rfl w.heap.size rfl 46 19 _ _ _ HS2.out rfl (sc_cs _ _ _ _) Tryz.underlying46 rfl sc_size ?_)
  refine (HSp.out _ HB2.out).mono ?_
  rintro e w3 ⟨b, av, rfl, hcm, hav, hb3⟩
  have HCm := Lib.hid hcm
  have HAv := Lib.hid hav
  obtain ⟨Aa, na, ca, rfl⟩ := hav.shape
  have HR3 := Lib.hid (HR2.out.of_block (hb3.block _ HR2.out.lt))
  have HB3 := Lib.hid (below_then HB2.out hb3)
  have r0 : w3.cell? ⟨w.heap.size + 1, 0, none⟩ = some (.map none) := HR3.out.cell (i := 0) (by omega)
  have r1 : w3.cell? ⟨w.heap.size + 1, 1, none⟩ = some (.slice none 0 0) := HR3.out.cell (i := 1) (by omega)
  have z0 := HR3.out.frozen 0
  have z1 := HR3.out.frozen 1
  clear hcm hav hb3
  go_wp2_with fail
  refine bodyPost_ret (v := .tuple #[.agg #[.map (some b), .slice Aa na ca], .int .i64 0]) ?_ rfl ⟨_, _, rfl, ⟨?_, ?_, ?_, ?_⟩, ?_⟩
  · simp [results, Tryz.f82, go_sem, r0, r1]
  · exact cm_over HCm.out r0 r1 _ _
  · exact nt_over_ms HAv.out r0 r1 _ _
  · exact scC_sum HOk.out.1 Y
  · exact scC_out HOk.out.1 Y
  · exact (HB3.out.setCell (p := ⟨w.heap.size + 1, 0, none⟩) (Nat.le_succ _) _).setCell (p := ⟨w.heap.size + 1, 1, none⟩) (Nat.le_succ _) _

set_option maxRecDepth 100000 in
set_option maxHeartbeats 1000000 in
theorem chances_bad (U Bs : Int) (v : Value) (K : Nat → Nat) (n : Nat) (a : Nat → Int) (N : Nat) (Y : Nat → Nat) (ys : Value) (w : World) (h : RdV w v n (fun j => .int .i64 (a j))) (hy : Rd w .u8 ys N Y) (hy6 : ∀ j, j < N → Y j < 256) (hok : ¬ ScOk U Bs n a N Y) :
    Calls Tryz.prog 82 #[scV U Bs v K, ys] w fun e w' => e = .returned (.tuple #[.agg #[.map none, .slice none 0 0], .int .i64 (chE U Bs n a N Y)]) ∧ Below w.heap.size w w' := by
  have HC := Lib.hid (fun W (hb : Below w.heap.size w W) => checkScores_any U Bs v K n a W (h.below hb))
  have HI := Lib.hid (fun W (hb : Below w.heap.size w W) => isCopy_any N Y ys n W (hy.below hb) hy6)
  have HS := Lib.hid (sc_row w U Bs v K 46)
  have HB0 : Hid (Below w.heap.size w ((w.alloc (.cells #[.int .i64 U, .int .i64 Bs, v, .int .u8 (K 0), .int .u8 (K 1), .int .u8 (K 2), .int .u8 (K 3), .int .u8 (K 4), .int .u8 (K 5), .int .u8 (K 6), .int .u8 (K 7), .int .u8 (K 8), .int .u8 (K 9), .int .u8 (K 10), .int .u8 (K 11), .int .u8 (K 12), .int .u8 (K 13), .int .u8 (K 14), .int .u8 (K 15)] 46)).alloc (.cells #[.map none, .slice none 0 0] 126))) := ((Below.refl _ _).alloc (Nat.le_refl _) _).alloc (by simp) _
  have HS0 : Hid (((w.alloc (.cells #[.int .i64 U, .int .i64 Bs, v, .int .u8 (K 0), .int .u8 (K 1), .int .u8 (K 2), .int .u8 (K 3), .int .u8 (K 4), .int .u8 (K 5), .int .u8 (K 6), .int .u8 (K 7), .int .u8 (K 8), .int .u8 (K 9), .int .u8 (K 10), .int .u8 (K 11), .int .u8 (K 12), .int .u8 (K 13), .int .u8 (K 14), .int .u8 (K 15)] 46)).alloc (.cells #[.map none, .slice none 0 0] 126)).rowIs w.heap.size 46 19 (scF U Bs v K)) := HS.out.alloc _
  have HR0 : Hid (((w.alloc (.cells #[.int .i64 U, .int .i64 Bs, v, .int .u8 (K 0), .int .u8 (K 1), .int .u8 (K 2), .int .u8 (K 3), .int .u8 (K 4), .int .u8 (K 5), .int .u8 (K 6), .int .u8 (K 7), .int .u8 (K 8), .int .u8 (K 9), .int .u8 (K 10), .int .u8 (K 11), .int .u8 (K 12), .int .u8 (K 13), .int .u8 (K 14), .int .u8 (K 15)] 46)).alloc (.cells #[.map none, .slice none 0 0] 126)).rowIs (w.heap.size + 1) 126 2 (fun i => if i = 0 then .map none else .slice none 0 0)) := by
    have h := row2 (w.alloc (.cells #[.int .i64 U, .int .i64 Bs, v, .int .u8 (K 0), .int .u8 (K 1), .int .u8 (K 2), .int .u8 (K 3), .int .u8 (K 4), .int .u8 (K 5), .int .u8 (K 6), .int .u8 (K 7), .int .u8 (K 8), .int .u8 (K 9), .int .u8 (K 10), .int .u8 (K 11), .int .u8 (K 12), .int .u8 (K 13), .int .u8 (K 14), .int .u8 (K 15)] 46)) (.map none) (.slice none 0 0) 126
    rw [World.size_alloc] at h
    exact h
  obtain ⟨A, cap, rfl, _, _, h3⟩ := h
  obtain ⟨A2, cap2, rfl, _, _, h4⟩ := hy
  clear h3 h4 hy6 HS
  by_cases hv : VS U Bs n a
  · have hc : ¬ IsC N Y n := fun hc => hok ⟨hv, hc⟩
    have HE : Hid (chE U Bs n a N Y = 71) := by show _ = _; unfold chE; rw [tt_pos hv, if_pos rfl, tt_neg hc]; rfl
    rw [scE_yes hv] at HC
    rw [tt_neg hc] at HI
    clear hv hc hok
    go_enter Tryz.func82, Tryz.ntmps82
    go_wp2_with (refine wp_load_whole rfl 46 _ rfl w.heap.size rfl 46 19 _ _ _ HS0.out rfl (sc_cs _ _ _ _) Tryz.underlying46 rfl sc_size ?_)
    refine (HC.out _ HB0.out).mono ?_
    rintro e w1 ⟨rfl, hb1⟩
    have HS1 := Lib.hid (HS0.out.of_block (hb1.block _ HS0.out.lt))
    have HR1 := Lib.hid (HR0.out.of_block (hb1.block _ HR0.out.lt))
    have HB1 := Lib.hid (below_then HB0.out hb1)
    have c2 := HS1.out.cell (i := 2) (by omega)
    dsimp only [scF] at c2
    clear hb1
    go_wp2_with fail
    refine (HI.out _ HB1.out).mono ?_
    rintro e w2 ⟨rfl, hb2⟩
    have HR2 := Lib.hid (HR1.out.of_block (hb2.block _ HR1.out.lt))
    have HB2 := Lib.hid (below_then HB1.out hb2)
    have r0 : w2.cell? ⟨w.heap.size + 1, 0, none⟩ = some (.map none) := HR2.out.cell (i := 0) (by omega)
    have r1 : w2.cell? ⟨w.heap.size + 1, 1, none⟩ = some (.slice none 0 0) := HR2.out.cell (i := 1) (by omega)
    have z0 := HR2.out.frozen 0
    have z1 := HR2.out.frozen 1
    clear hb2 c2
    go_wp2_with fail
    refine bodyPost_ret (v := .tuple #[.agg #[.map none, .slice none 0 0], .int .i64 71]) ?_ rfl ⟨by rw [HE.out], ?_⟩
    · simp [results, Tryz.f82, go_sem, r0, r1]
    · exact (HB2.out.setCell (p := ⟨w.heap.size + 1, 0, none⟩) (Nat.le_succ _) _).setCell (p := ⟨w.heap.size + 1, 1, none⟩) (Nat.le_succ _) _
  · have HE : Hid (chE U Bs n a N Y = 70) := by show _ = _; unfold chE; rw [tt_neg hv]; rfl
    rw [scE_no hv] at HC
    clear hv hok
    go_enter Tryz.func82, Tryz.ntmps82
    go_wp2_with (refine wp_load_whole rfl 46 _ rfl w.heap.size rfl 46 19 _ _ _ HS0.out rfl (sc_cs _ _ _ _) Tryz.underlying46 rfl sc_size ?_)
    refine (HC.out _ HB0.out).mono ?_
    rintro e w1 ⟨rfl, hb1⟩
    have HR1 := Lib.hid (HR0.out.of_block (hb1.block _ HR0.out.lt))
    have HB1 := Lib.hid (below_then HB0.out hb1)
    have r0 : w1.cell? ⟨w.heap.size + 1, 0, none⟩ = some (.map none) := HR1.out.cell (i := 0) (by omega)
    have r1 : w1.cell? ⟨w.heap.size + 1, 1, none⟩ = some (.slice none 0 0) := HR1.out.cell (i := 1) (by omega)
    have z0 := HR1.out.frozen 0
    have z1 := HR1.out.frozen 1
    clear hb1
    go_wp2_with fail
    refine bodyPost_ret (v := .tuple #[.agg #[.map none, .slice none 0 0], .int .i64 70]) ?_ rfl ⟨by rw [HE.out], ?_⟩
    · simp [results, Tryz.f82, go_sem, r0, r1]
    · exact (HB1.out.setCell (p := ⟨w.heap.size + 1, 0, none⟩) (Nat.le_succ _) _).setCell (p := ⟨w.heap.size + 1, 1, none⟩) (Nat.le_succ _) _
end Go.Proofs.YtmbokpfgnicboaaGreat

/- The walks of package code: Chance, Bound. -/
namespace Go.Proofs.YtmbokpfgnicboaaGreat
open Go.RowKit Go.Hd Go.Sort _root_.Hd
set_option exponentiation.threshold 2000

/-- What Chance answers: the sum from z on, all, both without what they share. -/
noncomputable def chG (U Bs : Int) (n : Nat) (a : Nat → Int) (N : Nat) (Y : Nat → Nat) (z : Int) : Nat := Nat.gcd (tl (scC Bs n a Y) 2048 z) (scA Bs n)
noncomputable def chM (U Bs : Int) (n : Nat) (a : Nat → Int) (N : Nat) (Y : Nat → Nat) (z : Int) : Nat := if tt (ScOk U Bs n a N Y) then tl (scC Bs n a Y) 2048 z / chG U Bs n a N Y z else 0
noncomputable def chD (U Bs : Int) (n : Nat) (a : Nat → Int) (N : Nat) (Y : Nat → Nat) (z : Int) : Nat := if tt (ScOk U Bs n a N Y) then scA Bs n / chG U Bs n a N Y z else 0

set_option maxRecDepth 100000 in
set_option maxHeartbeats 1000000 in
theorem chanceE_any (U Bs : Int) (v : Value) (K : Nat → Nat) (n : Nat) (a : Nat → Int) (N : Nat) (Y : Nat → Nat) (ys : Value) (z : Int) (w : World) (h : RdV w v n (fun j => .int .i64 (a j))) (hy : Rd w .u8 ys N Y) (hy6 : ∀ j, j < N → Y j < 256) :
    Calls Tryz.prog 36 #[scV U Bs v K, ys, .int .i64 z] w (FrEPost (chE U Bs n a N Y) (chM U Bs n a N Y z) (chD U Bs n a N Y z) w) := by
  have HS := Lib.hid (sc_row w U Bs v K 46)
  have HB0 : Hid (Below w.heap.size w ((w.alloc (.cells #[.int .i64 U, .int .i64 Bs, v, .int .u8 (K 0), .int .u8 (K 1), .int .u8 (K 2), .int .u8 (K 3), .int .u8 (K 4), .int .u8 (K 5), .int .u8 (K 6), .int .u8 (K 7), .int .u8 (K 8), .int .u8 (K 9), .int .u8 (K 10), .int .u8 (K 11), .int .u8 (K 12), .int .u8 (K 13), .int .u8 (K 14), .int .u8 (K 15)] 46)).alloc (.cells #[.slice none 0 0, .slice none 0 0] 27))) := ((Below.refl _ _).alloc (Nat.le_refl _) _).alloc (by simp) _
  have HS0 : Hid (((w.alloc (.cells #[.int .i64 U, .int .i64 Bs, v, .int .u8 (K 0), .int .u8 (K 1), .int .u8 (K 2), .int .u8 (K 3), .int .u8 (K 4), .int .u8 (K 5), .int .u8 (K 6), .int .u8 (K 7), .int .u8 (K 8), .int .u8 (K 9), .int .u8 (K 10), .int .u8 (K 11), .int .u8 (K 12), .int .u8 (K 13), .int .u8 (K 14), .int .u8 (K 15)] 46)).alloc (.cells #[.slice none 0 0, .slice none 0 0] 27)).rowIs w.heap.size 46 19 (scF U Bs v K)) := HS.out.alloc _
  have HR0 : Hid (((w.alloc (.cells #[.int .i64 U, .int .i64 Bs, v, .int .u8 (K 0), .int .u8 (K 1), .int .u8 (K 2), .int .u8 (K 3), .int .u8 (K 4), .int .u8 (K 5), .int .u8 (K 6), .int .u8 (K 7), .int .u8 (K 8), .int .u8 (K 9), .int .u8 (K 10), .int .u8 (K 11), .int .u8 (K 12), .int .u8 (K 13), .int .u8 (K 14), .int .u8 (K 15)] 46)).alloc (.cells #[.slice none 0 0, .slice none 0 0] 27)).rowIs (w.heap.size + 1) 27 2 (fun i => if i = 0 then .slice none 0 0 else .slice none 0 0)) := by
    have h := row2 (w.alloc (.cells #[.int .i64 U, .int .i64 Bs, v, .int .u8 (K 0), .int .u8 (K 1), .int .u8 (K 2), .int .u8 (K 3), .int .u8 (K 4), .int .u8 (K 5), .int .u8 (K 6), .int .u8 (K 7), .int .u8 (K 8), .int .u8 (K 9), .int .u8 (K 10), .int .u8 (K 11), .int .u8 (K 12), .int .u8 (K 13), .int .u8 (K 14), .int .u8 (K 15)] 46)) (.slice none 0 0) (.slice none 0 0) 27
    rw [World.size_alloc] at h
    exact h
  by_cases hok : ScOk U Bs n a N Y
  · have HG := Lib.hid (fun W (hb : Below w.heap.size w W) => chances_good U Bs v K n a N Y ys W (h.below hb) (hy.below hb) hy6 hok)
    have HE : Hid (chE U Bs n a N Y = 0) := chE_ok hok
    have HM : Hid (chM U Bs n a N Y z = tl (scC Bs n a Y) 2048 z / Nat.gcd (tl (scC Bs n a Y) 2048 z) (scA Bs n)) := by show _ = _; unfold chM; rw [tt_pos hok]; rfl
    have HD : Hid (chD U Bs n a N Y z = scA Bs n / Nat.gcd (tl (scC Bs n a Y) 2048 z) (scA Bs n)) := by show _ = _; unfold chD; rw [tt_pos hok]; rfl
    have HA0 := Lib.hid (scA_pos hok.1)
    have HA1 := Lib.hid (scA_le hok.1)
    have HT := Lib.hid (tl_le (scC_sum hok.1 Y) z)
    obtain ⟨A, cap, rfl, _, _, h3⟩ := h
    obtain ⟨A2, cap2, rfl, _, _, h4⟩ := hy
    clear h3 h4 hy6 hok HS
    generalize scC Bs n a Y = c at *
    generalize scA Bs n = t at *
    go_enter Tryz.func36, Tryz.ntmps36
    go_wp2_with (refine wp_load_whole rfl 46 _ rfl w.heap.size rfl 46 19 _ _ _ HS0.out rfl (sc_cs _ _ _ _) Tryz.underlying46 rfl sc_size ?_)
    refine (HG.out _ HB0.out).mono ?_
    rintro e w1 ⟨b, av, rfl, hsp, hb1⟩
    obtain ⟨Aa, na, ca, rfl⟩ := hsp.all.shape
    have HR1 := Lib.hid (HR0.out.of_block (hb1.block _ HR0.out.lt))
    have HB1 := Lib.hid (below_then HB0.out hb1)
    have HB2 : Hid (Below w.heap.size w (w1.alloc (.cells #[.map (some b), .slice Aa na ca] 126))) := HB1.out.alloc HB1.out.size _
    have HSp2 : Hid (SprIs (w1.alloc (.cells #[.map (some b), .slice Aa na ca] 126)) b 8194 c (.slice Aa na ca) t) := hsp.below ((Below.refl _ _).alloc (Nat.le_refl _) _)
    have HR2 : Hid ((w1.alloc (.cells #[.map (some b), .slice Aa na ca] 126)).rowIs (w.heap.size + 1) 27 2 (fun i => if i = 0 then .slice none 0 0 else .slice none 0 0)) := HR1.out.alloc _
    have HQ2 : Hid ((w1.alloc (.cells #[.map (some b), .slice Aa na ca] 126)).rowIs w1.heap.size 126 2 (fun i => if i = 0 then .map (some b) else .slice Aa na ca)) := row2 _ _ _ _
    have hlt1 : w.heap.size + 1 < w1.heap.size := HR1.out.lt
    clear hsp hb1
    go_wp2_with fail
    generalize hW2 : w1.alloc (.cells #[.map (some b), .slice Aa na ca] 126) = W2 at *
    have q0 : W2.cell? ⟨w1.heap.size, 0, none⟩ = some (.map (some b)) := HQ2.out.cell (i := 0) (by omega)
    have q1 : W2.cell? ⟨w1.heap.size, 1, none⟩ = some (.slice Aa na ca) := HQ2.out.cell (i := 1) (by omega)
    have HReach := Lib.hid (fun W (hb : Below W2.heap.size W2 W) => reach_any b 8194 t c (.slice Aa na ca) z W (HSp2.out.below hb) HA1.out)
    have HRat := Lib.hid (fun W p (hb : Below W2.heap.size W2 W) (hp : Nt W p (tl c 2048 z)) => ratio_nt (tl c 2048 z) t p (.slice Aa na ca) W hp (HSp2.out.all.below hb) (lim_327 (by have := HT.out; have := HA1.out; omega)) (lim_327 (by have := HA1.out; omega)) HA0.out)
    have HD0 : Hid (Below W2.heap.size W2 W2.drew) := (Below.refl _ _).drew
    have hgn : w1.heap.size ≠ w.heap.size + 1 := by omega
    clear hW2
    go_upto_region 4 with fail
    go_cut [6, 7] (fun s6 s7 wx => s6 = .pointer (some ⟨w.heap.size + 1, 0, none⟩) ∧ s7 = .int .i64 0 ∧ ∃ p q wm, Hid (Nt wm p (tl c 2048 z / Nat.gcd (tl c 2048 z) t)) ∧ Hid (Nt wm q (t / Nat.gcd (tl c 2048 z) t)) ∧ Hid (Below W2.heap.size W2 wm) ∧ wx = (wm.setCell ⟨w.heap.size + 1, 0, none⟩ p).setCell ⟨w.heap.size + 1, 1, none⟩ q)
    case first =>
      go_region_held3 (fun w' => w'.cell? ⟨w1.heap.size, 0, none⟩ = some (.map (some b)) ∧ w'.cell? ⟨w1.heap.size, 1, none⟩ = some (.slice Aa na ca)) (first | go_keep | exact ⟨cell_below hD.out q0, cell_below hD.out q1⟩ | exact ⟨by rw [World.cell?_setCell_far (h := hgn.symm), World.cell?_setCell_far (h := hgn.symm)]; exact cell_below hD.out q0, by rw [World.cell?_setCell_far (h := hgn.symm), World.cell?_setCell_far (h := hgn.symm)]; exact cell_below hD.out q1⟩)
        (first
          | (go_at_call 87; refine (HReach.out _ HD0.out).mono ?_; rintro e wa ⟨pv, rfl, hpv, hBa⟩; obtain ⟨Ap, np, cp, rfl⟩ := hpv.shape; have hD := Lib.hid (below_then HD0.out hBa); have Hp := Lib.hid hpv; clear hpv hBa)
          | (go_at_call 59; refine (HRat.out _ _ hD.out Hp.out).mono ?_; rintro e wb ⟨v4, u4, rfl, hN4, hM4, hB4⟩; obtain ⟨A4, n4, c4, rfl⟩ := hN4.shape; obtain ⟨A5, n5, c5, rfl⟩ := hM4.shape; have hD := Lib.hid (below_then hD.out hB4); have HN4 := Lib.hid hN4; have HM4 := Lib.hid hM4; have r0 : wb.cell? ⟨w.heap.size + 1, 0, none⟩ = some (.slice none 0 0) := (HR2.out.of_block (hD.out.block _ HR2.out.lt)).cell (i := 0) (by omega); have r1 : wb.cell? ⟨w.heap.size + 1, 1, none⟩ = some (.slice none 0 0) := (HR2.out.of_block (hD.out.block _ HR2.out.lt)).cell (i := 1) (by omega); have z0 := (HR2.out.of_block (hD.out.block _ HR2.out.lt)).frozen 0; have z1 := (HR2.out.of_block (hD.out.block _ HR2.out.lt)).frozen 1; clear hN4 hM4 hB4))
      all_goals
        go_wp2_with fail
        go_meet
        case rel => exact ⟨rfl, rfl, _, _, _, HN4.out, HM4.out, hD.out, rfl⟩
    case rest =>
      obtain ⟨rfl, rfl, p, q, wm, hp, hq, hbm, rfl⟩ := hcut
      obtain ⟨A4, n4, c4, rfl⟩ := hp.out.shape
      obtain ⟨A5, n5, c5, rfl⟩ := hq.out.shape
      have HR3 := Lib.hid (HR2.out.of_block (hbm.out.block _ HR2.out.lt))
      have r0 : wm.cell? ⟨w.heap.size + 1, 0, none⟩ = some (.slice none 0 0) := HR3.out.cell (i := 0) (by omega)
      have r1 : wm.cell? ⟨w.heap.size + 1, 1, none⟩ = some (.slice none 0 0) := HR3.out.cell (i := 1) (by omega)
      go_wp2_with fail
      refine bodyPost_ret (v := .tuple #[.agg #[.slice A4 n4 c4, .slice A5 n5 c5], .int .i64 0]) ?_ rfl ⟨_, _, by rw [HE.out], ?_, ?_, ?_⟩
      · simp [results, Tryz.f36, go_sem, r0, r1]
      · exact nt_b (nt_over2 hp.out r0 r1 (by omega) _ _) HM.out.symm
      · exact nt_b (nt_over2 hq.out r0 r1 (by omega) _ _) HD.out.symm
      · exact ((below_then HB2.out hbm.out).setCell (p := ⟨w.heap.size + 1, 0, none⟩) (Nat.le_succ _) _).setCell (p := ⟨w.heap.size + 1, 1, none⟩) (Nat.le_succ _) _
  · have HG := Lib.hid (fun W (hb : Below w.heap.size w W) => chances_bad U Bs v K n a N Y ys W (h.below hb) (hy.below hb) hy6 hok)
    have HM : Hid (chM U Bs n a N Y z = 0) := by show _ = _; unfold chM; rw [tt_neg hok]; rfl
    have HD : Hid (chD U Bs n a N Y z = 0) := by show _ = _; unfold chD; rw [tt_neg hok]; rfl
    obtain ⟨E, hE⟩ : ∃ E, E = chE U Bs n a N Y := ⟨_, rfl⟩
    have hE0 : (E != 0) = true := by rw [bne_iff_ne, hE]; rcases chE_no hok with h | h <;> rw [h] <;> decide
    rw [← hE] at HG ⊢
    obtain ⟨A, cap, rfl, _, _, h3⟩ := h
    obtain ⟨A2, cap2, rfl, _, _, h4⟩ := hy
    clear h3 h4 hy6 hok HS hE
    go_enter Tryz.func36, Tryz.ntmps36
    go_wp2_with (refine wp_load_whole rfl 46 _ rfl w.heap.size rfl 46 19 _ _ _ HS0.out rfl (sc_cs _ _ _ _) Tryz.underlying46 rfl sc_size ?_)
    refine (HG.out _ HB0.out).mono ?_
    rintro e w1 ⟨rfl, hb1⟩
    have HR1 := Lib.hid (HR0.out.of_block (hb1.block _ HR0.out.lt))
    have HB1 := Lib.hid (below_then HB0.out hb1)
    have hlt1 : w.heap.size + 1 < w1.heap.size := HR1.out.lt
    have r0 : w1.cell? ⟨w.heap.size + 1, 0, none⟩ = some (.slice none 0 0) := HR1.out.cell (i := 0) (by omega)
    have r1 : w1.cell? ⟨w.heap.size + 1, 1, none⟩ = some (.slice none 0 0) := HR1.out.cell (i := 1) (by omega)
    have z0 := HR1.out.frozen 0
    have z1 := HR1.out.frozen 1
    clear hb1
    go_wp2_with fail
    refine bodyPost_ret (v := .tuple #[.agg #[.slice none 0 0, .slice none 0 0], .int .i64 E]) ?_ rfl ⟨_, _, rfl, nt_b (Nt.nil _) HM.out.symm, nt_b (Nt.nil _) HD.out.symm, ?_⟩
    · simp [results, Tryz.f36, go_sem, r0, r1, hlt1]
    · have hB1 := HB1.out
      have hs1 := hB1.size
      (repeat' (first | (with_reducible exact Below.refl _ _) | (with_reducible assumption) | (with_reducible refine Below.alloc ?_ ?_ _) | (with_reducible refine Below.drew ?_) | (with_reducible refine below_drewN ?_ _) | (with_reducible refine Below.setCell ?_ ?_ _) | omega | (simp only [Go.Hd.size_drewN, World.size_alloc, World.size_setCell, World.size_drew]; omega) | (simp; omega)))

/-- The bound; what Bound answers. -/
noncomputable def bdZ (c : Int → Nat) (t m n : Nat) : Int := @dite _ (∃ z, Bnd c 2048 t m n z) (Classical.propDecidable _) (fun h => Classical.choose h) (fun _ => 0)
theorem bdZ_eq {c : Int → Nat} {t m n : Nat} {z : Int} (h : Bnd c 2048 t m n z) : bdZ c t m n = z := by
  unfold bdZ
  rw [dif_pos ⟨z, h⟩]
  exact (Classical.choose_spec (⟨z, h⟩ : ∃ z, Bnd c 2048 t m n z)).unique h
noncomputable def boE (U Bs : Int) (n : Nat) (a : Nat → Int) (N : Nat) (Y : Nat → Nat) (n1 : Nat) (f : Nat → Nat) (m1 : Nat) (g : Nat → Nat) : Int := if tt (ScOk U Bs n a N Y) then (if tt (VL n1 f m1 g) then 0 else 2) else chE U Bs n a N Y
noncomputable def boZ (U Bs : Int) (n : Nat) (a : Nat → Int) (N : Nat) (Y : Nat → Nat) (n1 : Nat) (f : Nat → Nat) (m1 : Nat) (g : Nat → Nat) : Int := if tt (ScOk U Bs n a N Y ∧ VL n1 f m1 g) then bdZ (scC Bs n a Y) (scA Bs n) (val f n1) (val g m1) else 0
theorem boE_ok {U Bs : Int} {n N n1 m1 : Nat} {a : Nat → Int} {Y f g : Nat → Nat} (h : ScOk U Bs n a N Y) (hl : VL n1 f m1 g) : boE U Bs n a N Y n1 f m1 g = 0 := by unfold boE; rw [tt_pos h, if_pos rfl, tt_pos hl, if_pos rfl]
theorem boE_lim {U Bs : Int} {n N n1 m1 : Nat} {a : Nat → Int} {Y f g : Nat → Nat} (h : ScOk U Bs n a N Y) (hl : ¬ VL n1 f m1 g) : boE U Bs n a N Y n1 f m1 g = 2 := by unfold boE; rw [tt_pos h, if_pos rfl, tt_neg hl]; rfl
theorem boE_no {U Bs : Int} {n N n1 m1 : Nat} {a : Nat → Int} {Y f g : Nat → Nat} (h : ¬ ScOk U Bs n a N Y) : boE U Bs n a N Y n1 f m1 g = chE U Bs n a N Y := by unfold boE; rw [tt_neg h]; rfl
theorem boZ_ok {U Bs : Int} {n N n1 m1 : Nat} {a : Nat → Int} {Y f g : Nat → Nat} (h : ScOk U Bs n a N Y) (hl : VL n1 f m1 g) : boZ U Bs n a N Y n1 f m1 g = bdZ (scC Bs n a Y) (scA Bs n) (val f n1) (val g m1) := by unfold boZ; rw [tt_pos ⟨h, hl⟩]; rfl
theorem boZ_no {U Bs : Int} {n N n1 m1 : Nat} {a : Nat → Int} {Y f g : Nat → Nat} (h : ¬ (ScOk U Bs n a N Y ∧ VL n1 f m1 g)) : boZ U Bs n a N Y n1 f m1 g = 0 := by unfold boZ; rw [tt_neg h]; rfl
theorem vl_facts {n m : Nat} {f g : Nat → Nat} (h : VL n f m g) (hf : ∀ j, j < n → f j < B) (hg : ∀ j, j < m → g j < B) : Canon f n ∧ Canon g m ∧ val f n < B ^ 4 ∧ val g m < B ^ 4 ∧ val f n < val g m := by
  obtain ⟨h1, h2, h3, h4⟩ := h
  obtain ⟨c1, c2, _, _⟩ := vf_canon h1 hf hg
  exact ⟨c1, c2, Nat.lt_of_lt_of_le (val_lt hf) (Nat.pow_le_pow_right B_pos h2), Nat.lt_of_lt_of_le (val_lt hg) (Nat.pow_le_pow_right B_pos h3), h4⟩

set_option maxRecDepth 100000 in
set_option maxHeartbeats 1000000 in
theorem boundE_any (U Bs : Int) (v : Value) (K : Nat → Nat) (n : Nat) (a : Nat → Int) (N : Nat) (Y : Nat → Nat) (ys : Value) (n1 m1 : Nat) (f g : Nat → Nat) (lv lu : Value) (w : World) (h : RdV w v n (fun j => .int .i64 (a j))) (hy : Rd w .u8 ys N Y) (hy6 : ∀ j, j < N → Y j < 256) (hlv : Rd w .u32 lv n1 f) (hlu : Rd w .u32 lu m1 g) (hf : ∀ j, j < n1 → f j < B) (hg : ∀ j, j < m1 → g j < B) :
    Calls Tryz.prog 33 #[scV U Bs v K, ys, .agg #[lv, lu]] w fun e w' => e = .returned (.tuple #[.int .i64 (boZ U Bs n a N Y n1 f m1 g), .int .i64 (boE U Bs n a N Y n1 f m1 g)]) ∧ Below w.heap.size w w' := by
  have HS := Lib.hid (sc_row w U Bs v K 46)
  have HB0 : Hid (Below w.heap.size w ((w.alloc (.cells #[.int .i64 U, .int .i64 Bs, v, .int .u8 (K 0), .int .u8 (K 1), .int .u8 (K 2), .int .u8 (K 3), .int .u8 (K 4), .int .u8 (K 5), .int .u8 (K 6), .int .u8 (K 7), .int .u8 (K 8), .int .u8 (K 9), .int .u8 (K 10), .int .u8 (K 11), .int .u8 (K 12), .int .u8 (K 13), .int .u8 (K 14), .int .u8 (K 15)] 46)).alloc (.cells #[lv, lu] 27))) := ((Below.refl _ _).alloc (Nat.le_refl _) _).alloc (by simp) _
  have HS0 : Hid (((w.alloc (.cells #[.int .i64 U, .int .i64 Bs, v, .int .u8 (K 0), .int .u8 (K 1), .int .u8 (K 2), .int .u8 (K 3), .int .u8 (K 4), .int .u8 (K 5), .int .u8 (K 6), .int .u8 (K 7), .int .u8 (K 8), .int .u8 (K 9), .int .u8 (K 10), .int .u8 (K 11), .int .u8 (K 12), .int .u8 (K 13), .int .u8 (K 14), .int .u8 (K 15)] 46)).alloc (.cells #[lv, lu] 27)).rowIs w.heap.size 46 19 (scF U Bs v K)) := HS.out.alloc _
  have HR0 : Hid (((w.alloc (.cells #[.int .i64 U, .int .i64 Bs, v, .int .u8 (K 0), .int .u8 (K 1), .int .u8 (K 2), .int .u8 (K 3), .int .u8 (K 4), .int .u8 (K 5), .int .u8 (K 6), .int .u8 (K 7), .int .u8 (K 8), .int .u8 (K 9), .int .u8 (K 10), .int .u8 (K 11), .int .u8 (K 12), .int .u8 (K 13), .int .u8 (K 14), .int .u8 (K 15)] 46)).alloc (.cells #[lv, lu] 27)).rowIs (w.heap.size + 1) 27 2 (fun i => if i = 0 then lv else lu)) := by
    have h := row2 (w.alloc (.cells #[.int .i64 U, .int .i64 Bs, v, .int .u8 (K 0), .int .u8 (K 1), .int .u8 (K 2), .int .u8 (K 3), .int .u8 (K 4), .int .u8 (K 5), .int .u8 (K 6), .int .u8 (K 7), .int .u8 (K 8), .int .u8 (K 9), .int .u8 (K 10), .int .u8 (K 11), .int .u8 (K 12), .int .u8 (K 13), .int .u8 (K 14), .int .u8 (K 15)] 46)) lv lu 27
    rw [World.size_alloc] at h
    exact h
  have HIl := Lib.hid (fun W (hb : Below w.heap.size w W) => isLimit_any n1 m1 f g lv lu W (hlv.below hb) (hlu.below hb) hf hg)
  by_cases hok : ScOk U Bs n a N Y
  · have HG := Lib.hid (fun W (hb : Below w.heap.size w W) => chances_good U Bs v K n a N Y ys W (h.below hb) (hy.below hb) hy6 hok)
    by_cases hl : VL n1 f m1 g
    · rw [tt_pos hl] at HIl
      have HE : Hid (boE U Bs n a N Y n1 f m1 g = 0) := boE_ok hok hl
      have HZ : Hid (boZ U Bs n a N Y n1 f m1 g = bdZ (scC Bs n a Y) (scA Bs n) (val f n1) (val g m1)) := boZ_ok hok hl
      obtain ⟨c1, c2, l1, l2, l3⟩ := vl_facts hl hf hg
      have HNv := Lib.hid (show Nt w lv (val f n1) from ⟨n1, f, hlv, c1, rfl⟩)
      have HNu := Lib.hid (show Nt w lu (val g m1) from ⟨m1, g, hlu, c2, rfl⟩)
      have HBd := Lib.hid (fun W b av (hb : Below w.heap.size w W) (hs : SprIs W b 8194 (scC Bs n a Y) av (scA Bs n)) => bound_any b 8194 (scA Bs n) (val f n1) (val g m1) (scC Bs n a Y) av lv lu W hs (HNv.out.below hb) (HNu.out.below hb) (scA_le hok.1) (scA_pos hok.1) l1 l2 l3)
      obtain ⟨A, cap, rfl, _, _, h3⟩ := h
      obtain ⟨A2, cap2, rfl, _, _, h4⟩ := hy
      obtain ⟨Al, cl, rfl, _, _, h5⟩ := hlv
      obtain ⟨Au, cu, rfl, _, _, h6⟩ := hlu
      clear h3 h4 h5 h6 hy6 hok HS hl hf hg c1 c2 l1 l2 l3 HNv HNu
      generalize scC Bs n a Y = c at *
      generalize scA Bs n = t at *
      go_enter Tryz.func33, Tryz.ntmps33
      go_wp2_with (refine wp_load_whole rfl 46 _ rfl w.heap.size rfl 46 19 _ _ _ HS0.out rfl (sc_cs _ _ _ _) Tryz.underlying46 rfl sc_size ?_)
      refine (HG.out _ HB0.out).mono ?_
      rintro e w1 ⟨b, av, rfl, hsp, hb1⟩
      obtain ⟨Aa, na, ca, rfl⟩ := hsp.all.shape
      have HR1 := Lib.hid (HR0.out.of_block (hb1.block _ HR0.out.lt))
      have HB1 := Lib.hid (below_then HB0.out hb1)
      have HB2 : Hid (Below w.heap.size w (w1.alloc (.cells #[.map (some b), .slice Aa na ca] 126))) := HB1.out.alloc HB1.out.size _
      have HSp2 : Hid (SprIs (w1.alloc (.cells #[.map (some b), .slice Aa na ca] 126)) b 8194 c (.slice Aa na ca) t) := hsp.below ((Below.refl _ _).alloc (Nat.le_refl _) _)
      have HR2 : Hid ((w1.alloc (.cells #[.map (some b), .slice Aa na ca] 126)).rowIs (w.heap.size + 1) 27 2 (fun i => if i = 0 then .slice Al n1 cl else .slice Au m1 cu)) := HR1.out.alloc _
      have HQ2 : Hid ((w1.alloc (.cells #[.map (some b), .slice Aa na ca] 126)).rowIs w1.heap.size 126 2 (fun i => if i = 0 then .map (some b) else .slice Aa na ca)) := row2 _ _ _ _
      have hlt1 : w.heap.size + 1 < w1.heap.size := HR1.out.lt
      have q2 : w1.cell? ⟨w.heap.size + 1, 0, none⟩ = some (.slice Al n1 cl) := HR1.out.cell (i := 0) (by omega)
      have q3 : w1.cell? ⟨w.heap.size + 1, 1, none⟩ = some (.slice Au m1 cu) := HR1.out.cell (i := 1) (by omega)
      clear hsp hb1
      go_wp2_with fail
      refine (HIl.out _ HB2.out).mono ?_
      rintro e w3 ⟨rfl, hb3⟩
      have HB3 := Lib.hid (below_then HB2.out hb3)
      have HSp3 := Lib.hid (HSp2.out.below hb3)
      have HR3 := Lib.hid (HR2.out.of_block (hb3.block _ HR2.out.lt))
      have HQ3 := Lib.hid (HQ2.out.of_block (hb3.block _ HQ2.out.lt))
      have q0 : w3.cell? ⟨w1.heap.size, 0, none⟩ = some (.map (some b)) := HQ3.out.cell (i := 0) (by omega)
      have q1 : w3.cell? ⟨w1.heap.size, 1, none⟩ = some (.slice Aa na ca) := HQ3.out.cell (i := 1) (by omega)
      have q2 : w3.cell? ⟨w.heap.size + 1, 0, none⟩ = some (.slice Al n1 cl) := HR3.out.cell (i := 0) (by omega)
      have q3 : w3.cell? ⟨w.heap.size + 1, 1, none⟩ = some (.slice Au m1 cu) := HR3.out.cell (i := 1) (by omega)
      clear hb3
      go_wp2_with fail
      refine (HBd.out _ _ _ HB3.out HSp3.out).mono ?_
      rintro e w4 ⟨z, rfl, hz, _, _, hb4⟩
      have HZz : Hid (boZ U Bs n a N Y n1 f m1 g = z) := HZ.out.trans (bdZ_eq hz)
      have HB4 := Lib.hid (below_then HB3.out hb4)
      clear hb4 hz
      go_wp2_with fail
      go_ret2
      exact ⟨by rw [HE.out, HZz.out]; rfl, HB4.out⟩
    · rw [tt_neg hl] at HIl
      have HE : Hid (boE U Bs n a N Y n1 f m1 g = 2) := boE_lim hok hl
      have HZ : Hid (boZ U Bs n a N Y n1 f m1 g = 0) := boZ_no (fun h => hl h.2)
      obtain ⟨A, cap, rfl, _, _, h3⟩ := h
      obtain ⟨A2, cap2, rfl, _, _, h4⟩ := hy
      obtain ⟨Al, cl, rfl, _, _, h5⟩ := hlv
      obtain ⟨Au, cu, rfl, _, _, h6⟩ := hlu
      clear h3 h4 h5 h6 hy6 hok HS hl hf hg
      generalize scC Bs n a Y = c at *
      generalize scA Bs n = t at *
      go_enter Tryz.func33, Tryz.ntmps33
      go_wp2_with (refine wp_load_whole rfl 46 _ rfl w.heap.size rfl 46 19 _ _ _ HS0.out rfl (sc_cs _ _ _ _) Tryz.underlying46 rfl sc_size ?_)
      refine (HG.out _ HB0.out).mono ?_
      rintro e w1 ⟨b, av, rfl, hsp, hb1⟩
      obtain ⟨Aa, na, ca, rfl⟩ := hsp.all.shape
      have HR1 := Lib.hid (HR0.out.of_block (hb1.block _ HR0.out.lt))
      have HB1 := Lib.hid (below_then HB0.out hb1)
      have HB2 : Hid (Below w.heap.size w (w1.alloc (.cells #[.map (some b), .slice Aa na ca] 126))) := HB1.out.alloc HB1.out.size _
      have hlt1 : w.heap.size + 1 < w1.heap.size := HR1.out.lt
      have q2 : w1.cell? ⟨w.heap.size + 1, 0, none⟩ = some (.slice Al n1 cl) := HR1.out.cell (i := 0) (by omega)
      have q3 : w1.cell? ⟨w.heap.size + 1, 1, none⟩ = some (.slice Au m1 cu) := HR1.out.cell (i := 1) (by omega)
      clear hsp hb1
      go_wp2_with fail
      refine (HIl.out _ HB2.out).mono ?_
      rintro e w3 ⟨rfl, hb3⟩
      have HB3 := Lib.hid (below_then HB2.out hb3)
      clear hb3
      go_wp2_with fail
      go_ret2
      exact ⟨by rw [HE.out, HZ.out]; rfl, HB3.out⟩
  · have HG := Lib.hid (fun W (hb : Below w.heap.size w W) => chances_bad U Bs v K n a N Y ys W (h.below hb) (hy.below hb) hy6 hok)
    have HZ : Hid (boZ U Bs n a N Y n1 f m1 g = 0) := boZ_no (fun h => hok h.1)
    have HE : Hid (boE U Bs n a N Y n1 f m1 g = chE U Bs n a N Y) := boE_no hok
    obtain ⟨E, hE⟩ : ∃ E, E = chE U Bs n a N Y := ⟨_, rfl⟩
    have hE0 : (E != 0) = true := by rw [bne_iff_ne, hE]; rcases chE_no hok with h | h <;> rw [h] <;> decide
    rw [← hE] at HG HE
    obtain ⟨A, cap, rfl, _, _, h3⟩ := h
    obtain ⟨A2, cap2, rfl, _, _, h4⟩ := hy
    obtain ⟨Al, cl, rfl, _, _, h5⟩ := hlv
    obtain ⟨Au, cu, rfl, _, _, h6⟩ := hlu
    clear h3 h4 h5 h6 hy6 hok HS hE hf hg
    go_enter Tryz.func33, Tryz.ntmps33
    go_wp2_with (refine wp_load_whole rfl 46 _ rfl w.heap.size rfl 46 19 _ _ _ HS0.out rfl (sc_cs _ _ _ _) Tryz.underlying46 rfl sc_size ?_)
    refine (HG.out _ HB0.out).mono ?_
    rintro e w1 ⟨rfl, hb1⟩
    have HB1 := Lib.hid (below_then HB0.out hb1)
    have HB2 : Hid (Below w.heap.size w (w1.alloc (.cells #[.map none, .slice none 0 0] 126))) := HB1.out.alloc HB1.out.size _
    clear hb1
    go_wp2_with fail
    go_ret2
    exact ⟨by rw [HE.out, HZ.out]; rfl, HB2.out⟩
end Go.Proofs.YtmbokpfgnicboaaGreat

/- The walks of package code: TraceScores. -/
namespace Go.Proofs.YtmbokpfgnicboaaGreat
open Go.RowKit Go.Hd Go.Sort _root_.Hd
set_option exponentiation.threshold 2000

/-- Those of the first k that meet p. -/
def fltL (p : Nat → Bool) (k : Nat) : List Nat := (List.range k).filter p
theorem fltL_yes {p : Nat → Bool} {k : Nat} (h : p k = true) : fltL p (k + 1) = fltL p k ++ [k] := by
  unfold fltL; rw [List.range_succ, List.filter_append]; simp [h]
theorem fltL_no {p : Nat → Bool} {k : Nat} (h : p k = false) : fltL p (k + 1) = fltL p k := by
  unfold fltL; rw [List.range_succ, List.filter_append]; simp [h]
theorem fltL_len (p : Nat → Bool) (k : Nat) : (fltL p k).length ≤ k := by
  have := List.length_filter_le p (List.range k)
  rw [List.length_range] at this
  exact this
theorem sc_range {w : World} {b : Nat} {t : TypeId} {U Bs : Int} {K : Nat → Nat} {v : Value} (h : w.rowIs b t 19 (scF U Bs v K)) : w.rangeAt b 0 (#[.int .i64 U, .int .i64 Bs, v, .int .u8 (K 0), .int .u8 (K 1), .int .u8 (K 2), .int .u8 (K 3), .int .u8 (K 4), .int .u8 (K 5), .int .u8 (K 6), .int .u8 (K 7), .int .u8 (K 8), .int .u8 (K 9), .int .u8 (K 10), .int .u8 (K 11), .int .u8 (K 12), .int .u8 (K 13), .int .u8 (K 14), .int .u8 (K 15)] : Array Value).toList := fun j x hx => by
  rw [Nat.zero_add]
  have hj : j < 19 := (List.getElem?_eq_some_iff.1 hx).1
  rw [h.cell hj]
  rw [Array.getElem?_toList, sc_cs U Bs v K j hj] at hx
  exact hx
theorem rdv_none (w : World) (F : Nat → Value) : RdV w (.slice none 0 0) 0 F := ⟨none, 0, rfl, Nat.le_refl _, by unfold maxLen; omega, fun h => absurd h (by omega)⟩
theorem infoIntX : (Tryz.prog.info? 3).map (fun i => (i.zero, i.size, i.bytes)) = some (some (.int .i64 0), 1, 8) := by kernel_rfl
theorem range_below {w w' : World} {b o : Nat} {cs : List Value} (h : w.rangeAt b o cs) (hb : Below w.heap.size w w') : w'.rangeAt b o cs := fun j x hx => cell_below hb (h j x hx)

/-- The score of a user's word; who is named. -/
def usS (K : Nat → Nat) (Bs : Int) (n : Nat) (a : Nat → Int) (Y : Nat → Nat) (u : Nat) : Int := scN Bs.toNat (fun j => (a j).toNat) (swN K u Bs.toNat (fun j => (a j).toNat)) Y n
noncomputable def tsL (K : Nat → Nat) (U Bs : Int) (n : Nat) (a : Nat → Int) (N : Nat) (Y : Nat → Nat) (n1 : Nat) (f : Nat → Nat) (m1 : Nat) (g : Nat → Nat) : List Nat := if tt (ScOk U Bs n a N Y ∧ VL n1 f m1 g) then fltL (fun u => decide (bdZ (scC Bs n a Y) (scA Bs n) (val f n1) (val g m1) ≤ usS K Bs n a Y u)) U.toNat else []
theorem boE_ne {U Bs : Int} {n N n1 m1 : Nat} {a : Nat → Int} {Y f g : Nat → Nat} (h : ¬ (ScOk U Bs n a N Y ∧ VL n1 f m1 g)) : boE U Bs n a N Y n1 f m1 g ≠ 0 := by
  by_cases h1 : ScOk U Bs n a N Y
  · rw [boE_lim h1 (fun h2 => h ⟨h1, h2⟩)]; decide
  · rw [boE_no h1]
    rcases chE_no h1 with h2 | h2 <;> rw [h2] <;> decide

set_option maxRecDepth 100000 in
set_option maxHeartbeats 2000000 in
theorem traceScores_any (U Bs : Int) (v : Value) (K : Nat → Nat) (n : Nat) (a : Nat → Int) (N : Nat) (Y : Nat → Nat) (ys : Value) (n1 m1 : Nat) (f g : Nat → Nat) (lv lu : Value) (w : World) (h : RdV w v n (fun j => .int .i64 (a j))) (hK : Kb K) (hy : Rd w .u8 ys N Y) (hy6 : ∀ j, j < N → Y j < 256) (hlv : Rd w .u32 lv n1 f) (hlu : Rd w .u32 lu m1 g) (hf : ∀ j, j < n1 → f j < B) (hg : ∀ j, j < m1 → g j < B) :
    Calls Tryz.prog 29 #[scV U Bs v K, ys, .agg #[lv, lu]] w fun e w' => ∃ sl, e = .returned (.tuple #[sl, .int .i64 (boE U Bs n a N Y n1 f m1 g)]) ∧ RdV w' sl (tsL K U Bs n a N Y n1 f m1 g).length (fun j => .int .i64 ((tsL K U Bs n a N Y n1 f m1 g).getD j 0 : Nat)) ∧ Below w.heap.size w w' := by
  have HS := Lib.hid (sc_row w U Bs v K 46)
  have HB0 : Hid (Below w.heap.size w ((w.alloc (.cells #[.int .i64 U, .int .i64 Bs, v, .int .u8 (K 0), .int .u8 (K 1), .int .u8 (K 2), .int .u8 (K 3), .int .u8 (K 4), .int .u8 (K 5), .int .u8 (K 6), .int .u8 (K 7), .int .u8 (K 8), .int .u8 (K 9), .int .u8 (K 10), .int .u8 (K 11), .int .u8 (K 12), .int .u8 (K 13), .int .u8 (K 14), .int .u8 (K 15)] 46)).alloc (.cells #[lv, lu] 27))) := ((Below.refl _ _).alloc (Nat.le_refl _) _).alloc (by simp) _
  have HS0 : Hid (((w.alloc (.cells #[.int .i64 U, .int .i64 Bs, v, .int .u8 (K 0), .int .u8 (K 1), .int .u8 (K 2), .int .u8 (K 3), .int .u8 (K 4), .int .u8 (K 5), .int .u8 (K 6), .int .u8 (K 7), .int .u8 (K 8), .int .u8 (K 9), .int .u8 (K 10), .int .u8 (K 11), .int .u8 (K 12), .int .u8 (K 13), .int .u8 (K 14), .int .u8 (K 15)] 46)).alloc (.cells #[lv, lu] 27)).rowIs w.heap.size 46 19 (scF U Bs v K)) := HS.out.alloc _
  have HBo := Lib.hid (fun W (hb : Below w.heap.size w W) => boundE_any U Bs v K n a N Y ys n1 m1 f g lv lu W (h.below hb) (hy.below hb) hy6 (hlv.below hb) (hlu.below hb) hf hg)
  have HR0 : Hid (((w.alloc (.cells #[.int .i64 U, .int .i64 Bs, v, .int .u8 (K 0), .int .u8 (K 1), .int .u8 (K 2), .int .u8 (K 3), .int .u8 (K 4), .int .u8 (K 5), .int .u8 (K 6), .int .u8 (K 7), .int .u8 (K 8), .int .u8 (K 9), .int .u8 (K 10), .int .u8 (K 11), .int .u8 (K 12), .int .u8 (K 13), .int .u8 (K 14), .int .u8 (K 15)] 46)).alloc (.cells #[lv, lu] 27)).rowIs (w.heap.size + 1) 27 2 (fun i => if i = 0 then lv else lu)) := by
    have h := row2 (w.alloc (.cells #[.int .i64 U, .int .i64 Bs, v, .int .u8 (K 0), .int .u8 (K 1), .int .u8 (K 2), .int .u8 (K 3), .int .u8 (K 4), .int .u8 (K 5), .int .u8 (K 6), .int .u8 (K 7), .int .u8 (K 8), .int .u8 (K 9), .int .u8 (K 10), .int .u8 (K 11), .int .u8 (K 12), .int .u8 (K 13), .int .u8 (K 14), .int .u8 (K 15)] 46)) lv lu 27
    rw [World.size_alloc] at h
    exact h
  by_cases hok : ScOk U Bs n a N Y ∧ VL n1 f m1 g
  · have HE : Hid (boE U Bs n a N Y n1 f m1 g = 0) := boE_ok hok.1 hok.2
    have HL : Hid (tsL K U Bs n a N Y n1 f m1 g = fltL (fun u => decide (bdZ (scC Bs n a Y) (scA Bs n) (val f n1) (val g m1) ≤ usS K Bs n a Y u)) U.toNat) := by show _ = _; unfold tsL; rw [tt_pos hok]; rfl
    have HZ : Hid (boZ U Bs n a N Y n1 f m1 g = bdZ (scC Bs n a Y) (scA Bs n) (val f n1) (val g m1)) := boZ_ok hok.1 hok.2
    rw [HE.out, HZ.out] at HBo
    generalize bdZ (scC Bs n a Y) (scA Bs n) (val f n1) (val g m1) = z at *
    obtain ⟨hn, hB2, hB, hBs, hab, hat⟩ := vs_bounds hok.1.1
    have hU1 : 1 ≤ U := hok.1.1.1.1
    have hU2 : U ≤ 64 := hok.1.1.1.2.1
    obtain ⟨U', rfl⟩ := Int.eq_ofNat_of_zero_le (show 0 ≤ U by omega)
    rw [Int.toNat_natCast] at HL
    have hNn : N = n := hok.1.2.1
    have HWd : Hid (∀ u : Nat, u < 1000 → ∀ W, Below w.heap.size w W → Calls Tryz.prog 78 #[scV (U' : Int) Bs v K, .int .i64 u] W fun e w' => ∃ b, e = .returned (.slice (some ⟨b, 0, none⟩) n n) ∧ w'.rowIs b 5 n (fun i => .int .u8 (swN K u Bs.toNat (fun j => (a j).toNat) i : Nat)) ∧ Below W.heap.size W w') := fun u hu W hb => by
      have := scoreWord_any (U' : Int) Bs.toNat v K n (fun j => (a j).toNat) u W (rdV_congr (h.below hb) (fun j hj => by rw [hat j hj])) hn hK hu (by omega) (fun j hj => by have := hab j hj; omega)
      rw [hBs] at this
      exact this
    have HSc : Hid (∀ (u : Nat) W ws, Below w.heap.size w W → Rd W .u8 ws n (swN K u Bs.toNat (fun j => (a j).toNat)) → Calls Tryz.prog 77 #[scV (U' : Int) Bs v K, ws, ys] W fun e w' => e = .returned (.int .i64 (usS K Bs n a Y u)) ∧ Below W.heap.size W w') := fun u W ws hb hws => by
      have := score_any (U' : Int) Bs.toNat v K n (fun j => (a j).toNat) (swN K u Bs.toNat (fun j => (a j).toNat)) Y ws ys W (rdV_congr (h.below hb) (fun j hj => by rw [hat j hj])) hws (by have := hy.below hb; rw [hNn] at this; exact this) hn (by omega) (fun j hj => by have := hab j hj; omega) (fun j hj => by unfold swN; split <;> omega) (fun j hj => hok.1.2.2 j (by rw [hNn]; exact hj))
      rw [hBs] at this
      exact this
    obtain ⟨A, cap, rfl, _, _, h3⟩ := h
    obtain ⟨A2, cap2, rfl, _, _, h4⟩ := hy
    obtain ⟨Al, cl, rfl, _, _, h5⟩ := hlv
    obtain ⟨Au, cu, rfl, _, _, h6⟩ := hlu
    have q2 : ((w.alloc (.cells #[.int .i64 (U' : Int), .int .i64 Bs, (.slice A n cap), .int .u8 (K 0), .int .u8 (K 1), .int .u8 (K 2), .int .u8 (K 3), .int .u8 (K 4), .int .u8 (K 5), .int .u8 (K 6), .int .u8 (K 7), .int .u8 (K 8), .int .u8 (K 9), .int .u8 (K 10), .int .u8 (K 11), .int .u8 (K 12), .int .u8 (K 13), .int .u8 (K 14), .int .u8 (K 15)] 46)).alloc (.cells #[.slice Al n1 cl, .slice Au m1 cu] 27)).cell? ⟨w.heap.size + 1, 0, none⟩ = some (.slice Al n1 cl) := HR0.out.cell (i := 0) (by omega)
    have q3 : ((w.alloc (.cells #[.int .i64 (U' : Int), .int .i64 Bs, (.slice A n cap), .int .u8 (K 0), .int .u8 (K 1), .int .u8 (K 2), .int .u8 (K 3), .int .u8 (K 4), .int .u8 (K 5), .int .u8 (K 6), .int .u8 (K 7), .int .u8 (K 8), .int .u8 (K 9), .int .u8 (K 10), .int .u8 (K 11), .int .u8 (K 12), .int .u8 (K 13), .int .u8 (K 14), .int .u8 (K 15)] 46)).alloc (.cells #[.slice Al n1 cl, .slice Au m1 cu] 27)).cell? ⟨w.heap.size + 1, 1, none⟩ = some (.slice Au m1 cu) := HR0.out.cell (i := 1) (by omega)
    have hu19 := Tryz.underlying46
    have hi19 : (Tryz.prog.info? 46).map (·.size) = some (#[.int .i64 (U' : Int), .int .i64 Bs, (.slice A n cap), .int .u8 (K 0), .int .u8 (K 1), .int .u8 (K 2), .int .u8 (K 3), .int .u8 (K 4), .int .u8 (K 5), .int .u8 (K 6), .int .u8 (K 7), .int .u8 (K 8), .int .u8 (K 9), .int .u8 (K 10), .int .u8 (K 11), .int .u8 (K 12), .int .u8 (K 13), .int .u8 (K 14), .int .u8 (K 15)] : Array Value).toList.length := sc_size
    clear h3 h4 h5 h6 hy6 hok HS hf hg hab hat hBs hNn HZ
    generalize usS K Bs n a Y = S at *
    go_enter Tryz.func29, Tryz.ntmps29
    go_wp2_with (refine wp_load_whole rfl 46 _ rfl w.heap.size rfl 46 19 _ _ _ HS0.out rfl (sc_cs _ _ _ _) Tryz.underlying46 rfl sc_size ?_)
    refine (HBo.out _ HB0.out).mono ?_
    rintro e w1 ⟨rfl, hb1⟩
    have HS1 := Lib.hid (HS0.out.of_block (hb1.block _ HS0.out.lt))
    have HB1 := Lib.hid (below_then HB0.out hb1)
    have c0 : w1.cell? ⟨w.heap.size, 0, none⟩ = some (.int .i64 U') := HS1.out.cell (i := 0) (by omega)
    have HE0 : Hid (w1.ownsRow w1.heap.size 3 1 (.slice none 0 0) 0 []) := World.ownsRow_nil _ _ _ _
    clear hb1 q2 q3 HR0 HS0
    go_wp2_with fail
    go_loopw [10, 24] (fun s10 s24 wr => ∃ k : Nat, k ≤ U' ∧ s24 = .int .i64 k ∧ Hid (wr.ownsRow w1.heap.size 3 1 s10 (fltL (fun u => decide (z ≤ S u)) k).length ((fltL (fun u => decide (z ≤ S u)) k).map fun x => .int .i64 (x : Nat))) ∧ Below w1.heap.size w1 wr) (fun _ s24 _ => U' - (intOf s24).toNat)
    case atStart => exact ⟨0, Nat.zero_le _, rfl, HE0.out, Below.refl _ _⟩
    case round =>
      obtain ⟨k, hk, rfl, hown, hbel⟩ := hrel
      obtain ⟨W0, rfl⟩ : ∃ W0 : World, W0 = wr := ⟨_, rfl⟩
      have HBel := Lib.hid hbel
      obtain ⟨A6, c6, rfl⟩ := own_slice hown.out
      by_cases hlt : k < U'
      · have HR := Lib.hid (range_below (sc_range HS1.out) hbel)
        have HBw := Lib.hid (below_then HB1.out hbel)
        have HWk := Lib.hid (HWd.out k (by omega))
        have HDr : Hid (Below W0.heap.size W0 W0.drew) := (Below.refl _ _).drew
        have HRd : Hid (W0.drew.rangeAt w.heap.size 0 (#[.int .i64 (U' : Int), .int .i64 Bs, (.slice A n cap), .int .u8 (K 0), .int .u8 (K 1), .int .u8 (K 2), .int .u8 (K 3), .int .u8 (K 4), .int .u8 (K 5), .int .u8 (K 6), .int .u8 (K 7), .int .u8 (K 8), .int .u8 (K 9), .int .u8 (K 10), .int .u8 (K 11), .int .u8 (K 12), .int .u8 (K 13), .int .u8 (K 14), .int .u8 (K 15)] : Array Value).toList) := range_below HR.out HDr.out
        obtain ⟨b, hb⟩ : ∃ b, b = decide (z ≤ S k) := ⟨_, rfl⟩
        have HNb := Lib.hid hb
        clear hbel hb
        go_upto_region 8 with fail
        go_cut [34] (fun s34 wx => s34 = .bool b ∧ Below W0.heap.size W0 wx)
        case first =>
          refine wp_region_held_drew (S := fun w' : World => w'.rangeAt w.heap.size 0 (#[.int .i64 (U' : Int), .int .i64 Bs, (.slice A n cap), .int .u8 (K 0), .int .u8 (K 1), .int .u8 (K 2), .int .u8 (K 3), .int .u8 (K 4), .int .u8 (K 5), .int .u8 (K 6), .int .u8 (K 7), .int .u8 (K 8), .int .u8 (K 9), .int .u8 (K 10), .int .u8 (K 11), .int .u8 (K 12), .int .u8 (K 13), .int .u8 (K 14), .int .u8 (K 15)] : Array Value).toList) (by kernel_rfl) HRd.out (fun hHeld => ?_)
          refine' wpAnyH_take (i := 0) (v := _) rfl (by kernel_rfl) (by kernel_rfl) (by kernel_rfl) (fun _ _ _ h => h) (yieldsIf_load_mid (by rfl) _ _ rfl _ _ rfl _ _ (fun W h => h) hu19 rfl hi19) (by assumption) ?_
          (try simp only [Act.put, List.setIfInBounds_toArray, List.set_cons_zero, List.set_cons_succ])
          refine' wpAnyH_take (i := 1) (v := _) rfl (by kernel_rfl) (by kernel_rfl) (by kernel_rfl) (fun _ _ _ h => h) (yieldsIf_load_mid (by rfl) _ _ rfl _ _ rfl _ _ (fun W h => h) hu19 rfl hi19) (by assumption) ?_
          (try simp only [Act.put, List.setIfInBounds_toArray, List.set_cons_zero, List.set_cons_succ])
          (refine wpAnyH_take (i := 2) (v := ?_) rfl (by kernel_rfl) (by kernel_rfl) (by kernel_rfl) (fun _ _ _ h => h) (Or.inl ⟨by rfl, ?_⟩) (by assumption) ?_; rotate_left; focus ((intro w hSw; (try dsimp only at hSw); go_simp) <;> (try with_reducible rfl)); (try simp only [Act.put, List.setIfInBounds_toArray, List.set_cons_zero, List.set_cons_succ]))
          (refine wpAnyH_take (i := 4) (v := ?_) rfl (by kernel_rfl) (by kernel_rfl) (by kernel_rfl) (fun _ _ _ h => h) (Or.inl ⟨by rfl, ?_⟩) (by assumption) ?_; rotate_left; focus ((intro w hSw; (try dsimp only at hSw); go_simp) <;> (try with_reducible rfl)); (try simp only [Act.put, List.setIfInBounds_toArray, List.set_cons_zero, List.set_cons_succ]))
          (refine wpAnyH_take (i := 6) (v := ?_) rfl (by kernel_rfl) (by kernel_rfl) (by kernel_rfl) (fun _ _ _ h => h) (Or.inl ⟨by rfl, ?_⟩) (by assumption) ?_; rotate_left; focus ((intro w hSw; (try dsimp only at hSw); go_simp) <;> (try with_reducible rfl)); (try simp only [Act.put, List.setIfInBounds_toArray, List.set_cons_zero, List.set_cons_succ]))
          (refine wpAnyH_ready (rs := [3]) (by kernel_rfl) (by simp) (AllReadyH.cons rfl (fun K hK => ?_) AllReadyH.nil); go_simp)
          refine (HWk.out _ (below_then HBw.out HDr.out)).mono ?_
          rintro e wa ⟨bb, rfl, hr, hBa⟩
          have HD1 := Lib.hid (below_then HDr.out hBa)
          have Hr := Lib.hid (rd_of_row hr (by omega))
          clear hr hBa
          (try dsimp only)
          refine hK.out _ _ (range_below HR.out HD1.out) (fun hHeld2 => ?_)
          clear hK K
          (try simp only [Act.put, List.setIfInBounds_toArray, List.set_cons_zero, List.set_cons_succ])
          (refine wpAnyH_ready (rs := [5]) (by kernel_rfl) (by simp) (AllReadyH.cons rfl (fun K hK => ?_) AllReadyH.nil); go_simp)
          refine (HSc.out k _ _ (below_then HBw.out HD1.out) Hr.out).mono ?_
          rintro e wb ⟨rfl, hBb⟩
          have HD2 := Lib.hid (below_then HD1.out hBb)
          clear hBb
          (try dsimp only)
          refine hK.out _ _ (range_below HR.out HD2.out) (fun hHeld3 => ?_)
          clear hK K
          (try simp only [Act.put, List.setIfInBounds_toArray, List.set_cons_zero, List.set_cons_succ])
          (refine wpAnyH_take (i := 7) (v := ?_) rfl (by kernel_rfl) (by kernel_rfl) (by kernel_rfl) (fun _ _ _ h => h) (Or.inl ⟨by rfl, ?_⟩) (by assumption) ?_; rotate_left; focus ((intro w hSw; (try dsimp only at hSw); go_simp) <;> (try with_reducible rfl)); (try simp only [Act.put, List.setIfInBounds_toArray, List.set_cons_zero, List.set_cons_succ]))
          refine wpAnyH_done (by kernel_rfl) ?_ _
          go_wp2_with fail
          go_meet
          case rel => exact ⟨by rw [HNb.out], HD2.out⟩
        case rest =>
          obtain ⟨rfl, hbx⟩ := hcut
          have HBx := Lib.hid (below_then HBel.out hbx)
          have HOx := Lib.hid (own_below hown.out hbx)
          have hszx := hbx.size
          have hsz := HBel.out.size
          clear hbx hown
          cases b with
          | true =>
            have HL1 := Lib.hid (fltL_yes (p := fun u => decide (z ≤ S u)) HNb.out.symm)
            go_wp2_with (at_builtin; refine wp_app w1.heap.size rfl _ _ 38 3 (.int .i64 0) 8 rfl Tryz.underlying38 infoIntX rfl (by decide) (.slice A6 _ c6) _ rfl _ 1 (fun _ => .int .i64 (k : Nat)) rfl (rdV_one _ _ _) (fun _ _ => rfl) (by rw [List.length_map]; exact own_below HOx.out ((Below.refl _ _).alloc (Nat.le_refl _) _)) (by simp; omega) (by simp; have := fltL_len (fun u => decide (z ≤ S u)) k; omega) ?_; intro v5 w5 hown5 hg5; have HO5 := Lib.hid hown5; have HG5 := Lib.hid hg5; clear hown5 hg5)
            go_roundw
            case rel =>
              refine ⟨k + 1, by omega, by go_num, ?_, ?_⟩
              · have h := HO5.out
                rw [List.length_map] at h
                rw [HL1.out, List.map_append, List.length_append]
                exact h
              · exact below_own ((HBx.out.alloc (by omega) _)) (own_below HOx.out ((Below.refl _ _).alloc (Nat.le_refl _) _)) HG5.out (by simp; omega)
            case measure => simp [intOf]; omega
          | false =>
            have HL1 := Lib.hid (fltL_no (p := fun u => decide (z ≤ S u)) HNb.out.symm)
            go_wp2_with fail
            go_roundw
            case rel => exact ⟨k + 1, by omega, by go_num, by rw [HL1.out]; exact HOx.out, HBx.out⟩
            case measure => simp [intOf]; omega
      · obtain rfl : k = U' := by omega
        clear hbel
        go_wp2
        go_ret2
        exact ⟨_, by rw [HE.out]; rfl, by rw [HL.out]; exact rdV_of_own hown.out _ (fun j hj => by simp [List.getD_eq_getElem?_getD, hj]), below_then HB1.out HBel.out⟩
  · have HE0 := Lib.hid (boE_ne hok)
    have HL : Hid (tsL K U Bs n a N Y n1 f m1 g = []) := by show _ = _; unfold tsL; rw [tt_neg hok]; rfl
    have HZ : Hid (boZ U Bs n a N Y n1 f m1 g = 0) := boZ_no hok
    rw [HZ.out] at HBo
    have hE0 : (boE U Bs n a N Y n1 f m1 g != 0) = true := by rw [bne_iff_ne]; exact HE0.out
    generalize boE U Bs n a N Y n1 f m1 g = E at *
    obtain ⟨A, cap, rfl, _, _, h3⟩ := h
    obtain ⟨A2, cap2, rfl, _, _, h4⟩ := hy
    obtain ⟨Al, cl, rfl, _, _, h5⟩ := hlv
    obtain ⟨Au, cu, rfl, _, _, h6⟩ := hlu
    have q2 : ((w.alloc (.cells #[.int .i64 U, .int .i64 Bs, (.slice A n cap), .int .u8 (K 0), .int .u8 (K 1), .int .u8 (K 2), .int .u8 (K 3), .int .u8 (K 4), .int .u8 (K 5), .int .u8 (K 6), .int .u8 (K 7), .int .u8 (K 8), .int .u8 (K 9), .int .u8 (K 10), .int .u8 (K 11), .int .u8 (K 12), .int .u8 (K 13), .int .u8 (K 14), .int .u8 (K 15)] 46)).alloc (.cells #[.slice Al n1 cl, .slice Au m1 cu] 27)).cell? ⟨w.heap.size + 1, 0, none⟩ = some (.slice Al n1 cl) := HR0.out.cell (i := 0) (by omega)
    have q3 : ((w.alloc (.cells #[.int .i64 U, .int .i64 Bs, (.slice A n cap), .int .u8 (K 0), .int .u8 (K 1), .int .u8 (K 2), .int .u8 (K 3), .int .u8 (K 4), .int .u8 (K 5), .int .u8 (K 6), .int .u8 (K 7), .int .u8 (K 8), .int .u8 (K 9), .int .u8 (K 10), .int .u8 (K 11), .int .u8 (K 12), .int .u8 (K 13), .int .u8 (K 14), .int .u8 (K 15)] 46)).alloc (.cells #[.slice Al n1 cl, .slice Au m1 cu] 27)).cell? ⟨w.heap.size + 1, 1, none⟩ = some (.slice Au m1 cu) := HR0.out.cell (i := 1) (by omega)
    clear h3 h4 h5 h6 hy6 hok HS hf hg
    go_enter Tryz.func29, Tryz.ntmps29
    go_wp2_with (refine wp_load_whole rfl 46 _ rfl w.heap.size rfl 46 19 _ _ _ HS0.out rfl (sc_cs _ _ _ _) Tryz.underlying46 rfl sc_size ?_)
    refine (HBo.out _ HB0.out).mono ?_
    rintro e w1 ⟨rfl, hb1⟩
    have HB1 := Lib.hid (below_then HB0.out hb1)
    clear hb1
    go_wp2_with fail
    go_ret2
    exact ⟨_, rfl, by rw [HL.out]; exact rdv_none _ _, HB1.out⟩
end Go.Proofs.YtmbokpfgnicboaaGreat
