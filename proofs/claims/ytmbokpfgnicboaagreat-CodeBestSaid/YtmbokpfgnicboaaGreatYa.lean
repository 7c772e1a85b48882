import Derived.Test.YtmbokpfgnicboaaGreatXb
import Derived.Test.YtmbokpfgnicboaaGreatTb
import Derived.Test.YtmbokpfgnicboaaGreatPq
import Derived.Test.YtmbokpfgnicboaaGreatFm
set_option linter.unusedVariables false
set_option linter.unusedSimpArgs false
/- The walks of the laws' helpers: small fractions, the chapter's codes. -/
namespace Go.Proofs.YtmbokpfgnicboaaGreat
open Go.RowKit Go.Hd Go.Sort _root_.Hd
set_option exponentiation.threshold 2000

theorem big_u64 {x : Nat} (h : x < 18446744073709551616) : x < Big := lim_big (small_lim h)

set_option maxRecDepth 100000 in
theorem ratio_any (a b : Nat) (w : World) (ha : a < 18446744073709551616) (hb : b < 18446744073709551616) (hb0 : 0 < b) :
    Calls Tryz.prog 64 #[.int .u64 a, .int .u64 b] w (FrPost (a / Nat.gcd a b) (b / Nat.gcd a b) w) := by
  have HA := Lib.hid ((Below.refl _ w).alloc (Nat.le_refl _) (.cells #[.slice none 0 0, .slice none 0 0] 27))
  have HR := Lib.hid (row2 w (.slice none 0 0) (.slice none 0 0) 27)
  have HO1 := Lib.hid (fun W => rof_any a W ha)
  have HO2 := Lib.hid (fun W => rof_any b W hb)
  have HL := Lib.hid (fun W v u (hv : Nt W v a) (hu : Nt W u b) => rlowest_nt a b v u W hv hu (big_u64 ha) (big_u64 hb) hb0)
  clear ha hb hb0
  generalize Nat.gcd a b = g at *
  go_enter Tryz.func64, Tryz.ntmps64
  go_wp2_with fail
  refine (HO1.out _).mono ?_
  rintro e w1 ⟨v1, rfl, hN1, hB1⟩
  have HB1 := Lib.hid (below_then HA.out hB1)
  have HR1 := Lib.hid (HR.out.of_block (hB1.block _ HR.out.lt))
  have HN1 := Lib.hid hN1
  obtain ⟨A1, n1, c1, rfl⟩ := hN1.shape
  clear hN1 hB1
  go_wp2_with fail
  refine (HO2.out _).mono ?_
  rintro e w2 ⟨v2, rfl, hN2, hB2⟩
  have HB2 := Lib.hid (below_then HB1.out hB2)
  have HR2 := Lib.hid (HR1.out.of_block (hB2.block _ HR1.out.lt))
  have HN12 := Lib.hid (HN1.out.below hB2)
  have HN2 := Lib.hid hN2
  obtain ⟨A2, n2, c2, rfl⟩ := hN2.shape
  clear hN2 hB2
  go_wp2_with fail
  refine (HL.out _ _ _ HN12.out HN2.out).mono ?_
  rintro e w3 ⟨v3, u3, rfl, hN3, hM3, hB3⟩
  have HB3 := Lib.hid (below_then HB2.out hB3)
  have HR3 := Lib.hid (HR2.out.of_block (hB3.block _ HR2.out.lt))
  have HN3 := Lib.hid hN3
  have HM3 := Lib.hid hM3
  obtain ⟨A3, n3, c3, rfl⟩ := hN3.shape
  obtain ⟨A4, n4, c4, rfl⟩ := hM3.shape
  have r0 : w3.cell? ⟨w.heap.size, 0, none⟩ = some (.slice none 0 0) := HR3.out.cell (i := 0) (by omega)
  have r1 : w3.cell? ⟨w.heap.size, 1, none⟩ = some (.slice none 0 0) := HR3.out.cell (i := 1) (by omega)
  have z0 := HR3.out.frozen 0
  have z1 := HR3.out.frozen 1
  clear hN3 hM3 hB3
  go_wp2_with fail
  refine bodyPost_ret (v := .agg #[.slice A3 n3 c3, .slice A4 n4 c4]) ?_ rfl ⟨_, _, rfl, ?_, ?_, ?_⟩
  · simp [results, Tryz.f64, go_sem, r0, r1]
  · exact nt_over2 HN3.out r0 r1 (by omega) _ _
  · exact nt_over2 HM3.out r0 r1 (by omega) _ _
  · exact (HB3.out.setCell (p := ⟨w.heap.size, 0, none⟩) (Nat.le_refl _) _).setCell (p := ⟨w.heap.size, 1, none⟩) (Nat.le_refl _) _

set_option maxRecDepth 100000 in
/-- Whether a call returned a fraction of small numbers. -/
theorem is_any (m n a b : Nat) (E : Int) (v u : Value) (w : World) (hv : Nt w v m) (hu : Nt w u n) (ha : a < 18446744073709551616) (hb : b < 18446744073709551616) (hb0 : 0 < b) :
    Calls Tryz.prog 55 #[.agg #[v, u], .int .i64 E, .int .u64 a, .int .u64 b] w fun e w' => e = .returned (.bool (tt (E = 0 ∧ m = a / Nat.gcd a b ∧ n = b / Nat.gcd a b))) ∧ Below w.heap.size w w' := by
  have HA := Lib.hid ((Below.refl _ w).alloc (Nat.le_refl _) (.cells #[v, u] 27))
  have HR := Lib.hid (row2 w v u 27)
  have HRt := Lib.hid (fun W => ratio_any a b W ha hb hb0)
  have HSm := Lib.hid (fun W x y (h : Below w.heap.size w W) (hx : Nt W x (a / Nat.gcd a b)) (hy : Nt W y (b / Nat.gcd a b)) => rsamefrac_nt m n (a / Nat.gcd a b) (b / Nat.gcd a b) v u x y W (hv.below h) (hu.below h) hx hy)
  obtain ⟨Av, nv, cv, rfl⟩ := hv.shape
  obtain ⟨Au, nu, cu, rfl⟩ := hu.shape
  clear hv hu ha hb hb0
  generalize Nat.gcd a b = g at *
  generalize hT : tt (m = a / g ∧ n = b / g) = T at *
  have HT := Lib.hid hT
  clear hT
  by_cases hE : E = 0
  · subst hE
    have HX : Hid (tt ((0 : Int) = 0 ∧ m = a / g ∧ n = b / g) = T) := by
      show _ = _
      rw [← HT.out]
      exact tt_congr ⟨fun h => h.2, fun h => ⟨rfl, h⟩⟩
    generalize tt ((0 : Int) = 0 ∧ m = a / g ∧ n = b / g) = X at *
    have q0 : (w.alloc (.cells #[.slice Av nv cv, .slice Au nu cu] 27)).cell? ⟨w.heap.size, 0, none⟩ = some (.slice Av nv cv) := HR.out.cell (i := 0) (by omega)
    have q1 : (w.alloc (.cells #[.slice Av nv cv, .slice Au nu cu] 27)).cell? ⟨w.heap.size, 1, none⟩ = some (.slice Au nu cu) := HR.out.cell (i := 1) (by omega)
    go_enter Tryz.func55, Tryz.ntmps55
    go_wp2_with fail
    go_region_held3 (fun w' => w'.cell? ⟨w.heap.size, 0, none⟩ = some (.slice Av nv cv) ∧ w'.cell? ⟨w.heap.size, 1, none⟩ = some (.slice Au nu cu)) (first | go_keep | exact ⟨cell_below hD.out q0, cell_below hD.out q1⟩)
      (first
        | (go_at_call 64; refine (HRt.out _).mono ?_; rintro e wa ⟨v3, u3, rfl, hN3, hM3, hBa⟩; obtain ⟨A3, n3, c3, rfl⟩ := hN3.shape; obtain ⟨A4, n4, c4, rfl⟩ := hM3.shape; have hD := Lib.hid (below_then (w := w.alloc (.cells #[.slice Av nv cv, .slice Au nu cu] 27)) (Below.refl _ _).drew hBa); have hD0 := Lib.hid (below_then HA.out hD.out); have HN3 := Lib.hid hN3; have HM3 := Lib.hid hM3; clear hN3 hM3 hBa)
        | (go_at_call 39; refine (HSm.out _ _ _ hD0.out HN3.out HM3.out).mono ?_; rintro e wb ⟨rfl, hBb⟩; have hD := Lib.hid (below_then hD.out hBb); have hD0 := Lib.hid (below_then HA.out hD.out); clear hBb))
    all_goals
      go_wp2_with fail
      go_ret
      exact ⟨by rw [HX.out]; rfl, hD0.out⟩
  · have HX : Hid (tt (E = 0 ∧ m = a / g ∧ n = b / g) = false) := tt_neg (fun h => hE h.1)
    have hEb : (E == 0) = false := beq_eq_false_iff_ne.2 hE
    generalize tt (E = 0 ∧ m = a / g ∧ n = b / g) = X at *
    clear hE
    go_enter Tryz.func55, Tryz.ntmps55
    go_wp2_with fail
    go_quiet (fail)
    go_wp2_with fail
    go_ret
    exact ⟨by rw [HX.out]; rfl, below_drewN HA.out _⟩

/-- Two numbers that share nothing, as the fraction of a limit. -/
theorem limit_nt {w : World} {v u : Value} {a b : Nat} (hv : Nt w v a) (hu : Nt w u b) (hg : Nat.gcd a b = 1) (hab : a < b) (hb : b < B ^ 4) :
    ∃ n m f g, Rd w .u32 v n f ∧ Rd w .u32 u m g ∧ (∀ j, j < n → f j < B) ∧ (∀ j, j < m → g j < B) ∧ VL n f m g ∧ val f n = a ∧ val g m = b := by
  obtain ⟨n, f, h1, h2, h3⟩ := hv
  obtain ⟨m, g, k1, k2, k3⟩ := hu
  have hn : n ≤ 4 := (h2.len_le_iff 4).2 (by rw [h3]; omega)
  have hm : m ≤ 4 := (k2.len_le_iff 4).2 (by rw [k3]; omega)
  have hm0 : 0 < m := by
    rcases Nat.eq_zero_or_pos m with h | h
    · subst h; simp [val] at k3; omega
    · exact h
  refine ⟨n, m, f, g, h1, k1, h2.lt, k2.lt, ⟨⟨?_, ?_, hm0, by rw [h3, k3]; exact hg⟩, hn, hm, by rw [h3, k3]; exact hab⟩, h3, k3⟩
  · unfold bad
    simp
    exact ⟨by omega, fun h0 => h2.2 h0⟩
  · unfold bad
    simp
    exact ⟨by omega, fun h0 => k2.2 h0⟩
theorem row_cells {w : World} {b n : Nat} {t : TypeId} {F : Nat → Value} (h : w.rowIs b t n F) (cs : Array Value) (hn : cs.size = n) (hF : ∀ i, i < n → cs[i]? = some (F i)) : w.heap[b]? = some (.cells cs t (0, 0)) := by
  obtain ⟨c, hb, hcn, hc⟩ := h
  rw [hb]
  have : c = cs := by
    apply Array.ext_getElem?
    intro i
    rcases Nat.lt_or_ge i n with hi | hi
    · rw [hc i hi, hF i hi]
    · rw [Array.getElem?_eq_none (by omega), Array.getElem?_eq_none (by omega)]
  rw [this]
end Go.Proofs.YtmbokpfgnicboaaGreat

/- The walks of the laws' helpers: the chapter's codes; copies made for weights. -/
namespace Go.Proofs.YtmbokpfgnicboaaGreat
open Go.RowKit Go.Hd Go.Sort _root_.Hd
set_option exponentiation.threshold 2000

/-- The key of zeros. -/
def kZ : Nat → Nat := fun _ => 0
theorem kZ_kb : Kb kZ := fun _ _ => by unfold kZ; omega
theorem st_one (U Bk : Int) (K : Nat → Nat) (A : Option Addr) (n c : Nat) (A2 : Option Addr) (n2 c2 : Nat) : (#[.int .i64 U, .int .i64 Bk, .int .u8 (K 0), .int .u8 (K 1), .int .u8 (K 2), .int .u8 (K 3), .int .u8 (K 4), .int .u8 (K 5), .int .u8 (K 6), .int .u8 (K 7), .int .u8 (K 8), .int .u8 (K 9), .int .u8 (K 10), .int .u8 (K 11), .int .u8 (K 12), .int .u8 (K 13), .int .u8 (K 14), .int .u8 (K 15), (.slice A n c), (.slice A2 n2 c2)] : Array Value).all (·.oneCell') = true := by simp [Value.oneCell']
theorem sc_one (U Bs : Int) (K : Nat → Nat) (A : Option Addr) (n c : Nat) : (#[.int .i64 U, .int .i64 Bs, (.slice A n c), .int .u8 (K 0), .int .u8 (K 1), .int .u8 (K 2), .int .u8 (K 3), .int .u8 (K 4), .int .u8 (K 5), .int .u8 (K 6), .int .u8 (K 7), .int .u8 (K 8), .int .u8 (K 9), .int .u8 (K 10), .int .u8 (K 11), .int .u8 (K 12), .int .u8 (K 13), .int .u8 (K 14), .int .u8 (K 15)] : Array Value).all (·.oneCell') = true := by simp [Value.oneCell']

theorem nt_grown_row {w w1 : World} {x : Value} {m b N : Nat} {t : TypeId} {F : Nat → Value} (h : Nt w x m) (hr : w.rowIs b t N F) (hF : ∀ i z, F i ≠ .int .u32 z) (hg : w.grownBy w1 (some b)) : Nt w1 x m := by
  obtain ⟨n, f, ⟨A, cap, hv, h1, h2, h3⟩, h4⟩ := h
  refine ⟨n, f, ⟨A, cap, hv, h1, h2, fun hn => ?_⟩, h4⟩
  obtain ⟨g, off, hA, hc⟩ := h3 hn
  refine ⟨g, off, hA, fun j hj => ?_⟩
  refine hg.cell (hc j hj) (fun e => ?_)
  cases e
  have hcj := hc j hj
  rcases Nat.lt_or_ge (off + j) N with hl | hl
  · rw [hr.cell hl] at hcj
    exact hF _ _ (Option.some.inj hcj)
  · obtain ⟨c, hb, hn2, hc2⟩ := hr
    simp only [World.cell?] at hcj
    rw [hb] at hcj
    simp [Array.getElem?_eq_none (show c.size ≤ off + j by omega)] at hcj
theorem stF_ne (U Bk : Int) (K : Nat → Nat) (A : Option Addr) (n c : Nat) (A2 : Option Addr) (n2 c2 : Nat) (i : Nat) (z : Int) : stF U Bk K (.slice A n c) (.slice A2 n2 c2) i ≠ .int .u32 z := fun e => by
  unfold stF at e
  split at e
  · cases e
  · split at e
    · cases e
    · split at e
      · cases e
      · split at e <;> cases e
theorem scF_ne (U Bs : Int) (K : Nat → Nat) (A : Option Addr) (n c : Nat) (i : Nat) (z : Int) : scF U Bs (.slice A n c) K i ≠ .int .u32 z := fun e => by
  match i with
  | 0 => cases e
  | 1 => cases e
  | 2 => cases e
  | n + 3 => cases e

set_option maxRecDepth 100000 in
theorem three_any (w : World) :
    Calls Tryz.prog 62 #[] w fun e w' => ∃ lv lu n m f g, e = .returned (stV 3 2 kZ lv lu) ∧ Rd w' .u32 lv n f ∧ Rd w' .u32 lu m g ∧ (∀ j, j < n → f j < B) ∧ (∀ j, j < m → g j < B) ∧ VSt 3 2 n f m g ∧ val f n = 1 ∧ val g m = 6 ∧ Below w.heap.size w w' := by
  have HZ : Hid ((w.alloc (.cells #[.int .i64 0, .int .i64 0, .int .u8 (kZ 0), .int .u8 (kZ 1), .int .u8 (kZ 2), .int .u8 (kZ 3), .int .u8 (kZ 4), .int .u8 (kZ 5), .int .u8 (kZ 6), .int .u8 (kZ 7), .int .u8 (kZ 8), .int .u8 (kZ 9), .int .u8 (kZ 10), .int .u8 (kZ 11), .int .u8 (kZ 12), .int .u8 (kZ 13), .int .u8 (kZ 14), .int .u8 (kZ 15), (.slice none 0 0), (.slice none 0 0)] 29)).rowIs w.heap.size 29 20 (stF 0 0 kZ (.slice none 0 0) (.slice none 0 0))) := st_row w 0 0 kZ _ _ _
  have HA := Lib.hid ((Below.refl _ w).alloc (Nat.le_refl _) (.cells #[.int .i64 0, .int .i64 0, .int .u8 (kZ 0), .int .u8 (kZ 1), .int .u8 (kZ 2), .int .u8 (kZ 3), .int .u8 (kZ 4), .int .u8 (kZ 5), .int .u8 (kZ 6), .int .u8 (kZ 7), .int .u8 (kZ 8), .int .u8 (kZ 9), .int .u8 (kZ 10), .int .u8 (kZ 11), .int .u8 (kZ 12), .int .u8 (kZ 13), .int .u8 (kZ 14), .int .u8 (kZ 15), (.slice none 0 0), (.slice none 0 0)] 29))
  have HRt := Lib.hid (fun W => ratio_any 1 6 W (by omega) (by omega) (by omega))
  go_enter Tryz.func62, Tryz.ntmps62
  go_wp2_with fail
  refine (HRt.out _).mono ?_
  rintro e w1 ⟨v1, u1, rfl, hN1, hM1, hB1⟩
  have HB1 := Lib.hid (below_then HA.out hB1)
  have HZ1 := Lib.hid (HZ.out.of_block (hB1.block _ HZ.out.lt))
  have HN1 := Lib.hid (nt_b hN1 (show 1 / Nat.gcd 1 6 = 1 by decide))
  have HM1 := Lib.hid (nt_b hM1 (show 6 / Nat.gcd 1 6 = 6 by decide))
  obtain ⟨A1, n1, c1, rfl⟩ := hN1.shape
  obtain ⟨A2, n2, c2, rfl⟩ := hM1.shape
  clear hN1 hM1 hB1
  go_wp2_with (refine wp_store_whole rfl 29 _ _ rfl w.heap.size #[.int .i64 3, .int .i64 2, .int .u8 (kZ 0), .int .u8 (kZ 1), .int .u8 (kZ 2), .int .u8 (kZ 3), .int .u8 (kZ 4), .int .u8 (kZ 5), .int .u8 (kZ 6), .int .u8 (kZ 7), .int .u8 (kZ 8), .int .u8 (kZ 9), .int .u8 (kZ 10), .int .u8 (kZ 11), .int .u8 (kZ 12), .int .u8 (kZ 13), .int .u8 (kZ 14), .int .u8 (kZ 15), (.slice A1 n1 c1), (.slice A2 n2 c2)] rfl rfl 29 20 _ _ HZ1.out rfl (st_cs _ _ _ _ _) st_size (st_one _ _ _ _ _ _ _ _ _) ?_; intro w2 hr2 hg2; have HR2 := Lib.hid hr2; have HG2 := Lib.hid hg2; clear hr2 hg2)
  have HN2 := Lib.hid (nt_grown_row HN1.out HZ1.out (stF_ne _ _ _ _ _ _ _ _ _) HG2.out)
  have HM2 := Lib.hid (nt_grown_row HM1.out HZ1.out (stF_ne _ _ _ _ _ _ _ _ _) HG2.out)
  obtain ⟨n, m, f, g, e1, e2, e3, e4, e5, e6, e7⟩ := limit_nt HN2.out HM2.out (by decide) (by omega) (by unfold B; omega)
  refine bodyPost_ret (v := stV 3 2 kZ (.slice A1 n1 c1) (.slice A2 n2 c2)) (results_cell_row rfl _ w2 w.heap.size 29 _ (0, 0) _ rfl (row_cells HR2.out _ rfl (st_cs _ _ _ _ _)) Tryz.underlying29 rfl st_size) rfl ⟨_, _, n, m, f, g, rfl, e1, e2, e3, e4, ⟨by omega, by omega, by omega, by omega, e5⟩, e6, e7, HB1.out.grown HG2.out (by have := HB1.out.size; omega) (fun j hj => by cases hj; exact Nat.le_refl _)⟩

set_option maxRecDepth 100000 in
theorem four_any (w : World) :
    Calls Tryz.prog 65 #[] w fun e w' => ∃ v, e = .returned (scV 2 4 v kZ) ∧ RdV w' v 2 (fun j => .int .i64 (if j = 0 then 1 else 2)) ∧ Below w.heap.size w w' := by
  have HZ : Hid ((w.alloc (.cells #[.int .i64 0, .int .i64 0, (.slice none 0 0), .int .u8 (kZ 0), .int .u8 (kZ 1), .int .u8 (kZ 2), .int .u8 (kZ 3), .int .u8 (kZ 4), .int .u8 (kZ 5), .int .u8 (kZ 6), .int .u8 (kZ 7), .int .u8 (kZ 8), .int .u8 (kZ 9), .int .u8 (kZ 10), .int .u8 (kZ 11), .int .u8 (kZ 12), .int .u8 (kZ 13), .int .u8 (kZ 14), .int .u8 (kZ 15)] 46)).rowIs w.heap.size 46 19 (scF 0 0 (.slice none 0 0) kZ)) := sc_row w 0 0 _ kZ _
  have HA := Lib.hid ((Below.refl _ w).alloc (Nat.le_refl _) (.cells #[.int .i64 0, .int .i64 0, (.slice none 0 0), .int .u8 (kZ 0), .int .u8 (kZ 1), .int .u8 (kZ 2), .int .u8 (kZ 3), .int .u8 (kZ 4), .int .u8 (kZ 5), .int .u8 (kZ 6), .int .u8 (kZ 7), .int .u8 (kZ 8), .int .u8 (kZ 9), .int .u8 (kZ 10), .int .u8 (kZ 11), .int .u8 (kZ 12), .int .u8 (kZ 13), .int .u8 (kZ 14), .int .u8 (kZ 15)] 46))
  have HZ1 := Lib.hid (HZ.out.alloc (.cells #[.int .i64 1, .int .i64 2] 3))
  have HA1 := Lib.hid (HA.out.alloc HA.out.size (.cells #[.int .i64 1, .int .i64 2] 3))
  have HV : Hid (RdV ((w.alloc (.cells #[.int .i64 0, .int .i64 0, (.slice none 0 0), .int .u8 (kZ 0), .int .u8 (kZ 1), .int .u8 (kZ 2), .int .u8 (kZ 3), .int .u8 (kZ 4), .int .u8 (kZ 5), .int .u8 (kZ 6), .int .u8 (kZ 7), .int .u8 (kZ 8), .int .u8 (kZ 9), .int .u8 (kZ 10), .int .u8 (kZ 11), .int .u8 (kZ 12), .int .u8 (kZ 13), .int .u8 (kZ 14), .int .u8 (kZ 15)] 46)).alloc (.cells #[.int .i64 1, .int .i64 2] 3)) (.slice (some ⟨w.heap.size + 1, 0, none⟩) 2 2) 2 (fun j => if j = 0 then .int .i64 1 else .int .i64 2)) := by
    have h := rdV_two (w.alloc (.cells #[.int .i64 0, .int .i64 0, (.slice none 0 0), .int .u8 (kZ 0), .int .u8 (kZ 1), .int .u8 (kZ 2), .int .u8 (kZ 3), .int .u8 (kZ 4), .int .u8 (kZ 5), .int .u8 (kZ 6), .int .u8 (kZ 7), .int .u8 (kZ 8), .int .u8 (kZ 9), .int .u8 (kZ 10), .int .u8 (kZ 11), .int .u8 (kZ 12), .int .u8 (kZ 13), .int .u8 (kZ 14), .int .u8 (kZ 15)] 46)) (.int .i64 1) (.int .i64 2) 3
    rw [World.size_alloc] at h
    exact h
  go_enter Tryz.func65, Tryz.ntmps65
  go_wp2_with (refine wp_store_whole rfl 46 _ _ rfl w.heap.size #[.int .i64 2, .int .i64 4, (.slice (some ⟨w.heap.size + 1, 0, none⟩) 2 2), .int .u8 (kZ 0), .int .u8 (kZ 1), .int .u8 (kZ 2), .int .u8 (kZ 3), .int .u8 (kZ 4), .int .u8 (kZ 5), .int .u8 (kZ 6), .int .u8 (kZ 7), .int .u8 (kZ 8), .int .u8 (kZ 9), .int .u8 (kZ 10), .int .u8 (kZ 11), .int .u8 (kZ 12), .int .u8 (kZ 13), .int .u8 (kZ 14), .int .u8 (kZ 15)] rfl rfl 46 19 _ _ HZ1.out rfl (sc_cs _ _ _ _) sc_size (sc_one _ _ _ _ _ _) ?_; intro w2 hr2 hg2; have HR2 := Lib.hid hr2; have HG2 := Lib.hid hg2; clear hr2 hg2)
  refine bodyPost_ret (v := scV 2 4 (.slice (some ⟨w.heap.size + 1, 0, none⟩) 2 2) kZ) (results_cell_row rfl _ w2 w.heap.size 46 _ (0, 0) _ rfl (row_cells HR2.out _ rfl (sc_cs _ _ _ _)) Tryz.underlying46 rfl sc_size) rfl ⟨_, rfl, ?_, HA1.out.grown HG2.out (by simp; omega) (fun j hj => by cases hj; exact Nat.le_refl _)⟩
  obtain ⟨A, cap, e, h1, h2, h3⟩ := HV.out
  cases e
  refine ⟨_, _, rfl, h1, h2, fun h0 => ?_⟩
  obtain ⟨b, off, hA, hc⟩ := h3 h0
  cases hA
  refine ⟨_, _, rfl, fun j hj => ?_⟩
  have := HG2.out.cell (hc j hj) (by simp)
  rw [this]
  dsimp only
  split <;> rfl
end Go.Proofs.YtmbokpfgnicboaaGreat

/- The walks of the laws' helpers: copies made for weights; who is named for them. -/
namespace Go.Proofs.YtmbokpfgnicboaaGreat
open Go.RowKit Go.Hd Go.Sort _root_.Hd
set_option exponentiation.threshold 2000

theorem arN_inj (K : Nat → Nat) (n : Nat) : Inj (arN K n) n := ⟨fun i hi => arN_lt K hi, fun i j hi hj e => arr_inj (fun i _ => numN_le _ i) (n - 1) (by omega) i j hi hj e⟩
theorem soF_nat (K : Nat → Nat) (U d x : Nat) : soF K (U : Int) (d : Int) (x : Int) = mrk (arN K ((U - 1) * d)) (x * d) ((U - 1) * d) := by unfold soF; rw [Int.toNat_natCast, Int.toNat_natCast, Int.toNat_natCast]
theorem soE_nat {U d n m x : Nat} {f g : Nat → Nat} (h : VSt (U : Int) (d : Int) n f m g) (hx : x < U) : soE (U : Int) (d : Int) n f m g (x : Int) = 0 := by unfold soE; rw [tt_pos h, if_pos rfl, if_neg (by omega)]
theorem soL_nat {U d n m x : Nat} {f g : Nat → Nat} (h : VSt (U : Int) (d : Int) n f m g) (hx : x < U) : soL (U : Int) (d : Int) n f m g (x : Int) = (U - 1) * d := by unfold soL; rw [tt_pos h, if_pos rfl, if_neg (by omega), Int.toNat_natCast, Int.toNat_natCast]

set_option maxRecDepth 100000 in
set_option maxHeartbeats 4000000 in
theorem made_any (U d : Nat) (n m : Nat) (K : Nat → Nat) (f g : Nat → Nat) (v u : Value) (W : Nat → Nat) (ws : Value) (w : World) (hv : Rd w .u32 v n f) (hu : Rd w .u32 u m g) (hf : ∀ j, j < n → f j < B) (hg : ∀ j, j < m → g j < B) (hK : Kb K) (hs : VSt (U : Int) (d : Int) n f m g) (hw : RdV w ws (U - 1) (fun j => .int .i64 (W j : Nat))) (hW : ∀ j, j < U - 1 → W j ≤ 1000) :
    Calls Tryz.prog 119 #[stV (U : Int) (d : Int) K v u, ws] w fun e w' => ∃ b, e = .returned (.tuple #[.slice (some ⟨b, 0, none⟩) ((U - 1) * d) ((U - 1) * d), .bool true]) ∧ w'.rowIs b 5 ((U - 1) * d) (fun p => .int .u8 (mdC (arN K ((U - 1) * d)) d ((U - 1) * d) W (U - 1) p : Nat)) ∧ Below w.heap.size w w' := by
  have HW := Lib.hid hW
  have HS := Lib.hid (st_row w (U : Int) (d : Int) K v u 29)
  have HA := Lib.hid ((Below.refl _ w).alloc (Nat.le_refl _) (.cells #[.int .i64 (U : Int), .int .i64 (d : Int), .int .u8 (K 0), .int .u8 (K 1), .int .u8 (K 2), .int .u8 (K 3), .int .u8 (K 4), .int .u8 (K 5), .int .u8 (K 6), .int .u8 (K 7), .int .u8 (K 8), .int .u8 (K 9), .int .u8 (K 10), .int .u8 (K 11), .int .u8 (K 12), .int .u8 (K 13), .int .u8 (K 14), .int .u8 (K 15), v, u] 29))
  have hd1 : 1 ≤ d := by have := hs.2.2.1; omega
  have hd : d ≤ 64 := by have := hs.2.2.2.1; omega
  have hU2 : 2 ≤ U := by have := hs.1; omega
  have hU16 : U ≤ 16 := by have := hs.2.1; omega
  have HSw : Hid (∀ x, x < U → ∀ W', Below w.heap.size w W' → Calls Tryz.prog 19 #[stV (U : Int) (d : Int) K v u, .int .i64 x] W' fun e w' => ∃ b, e = .returned (.tuple #[.slice (some ⟨b, 0, none⟩) ((U - 1) * d) ((U - 1) * d), .int .i64 0]) ∧ w'.rowIs b 5 ((U - 1) * d) (fun i => .int .u8 (mrk (arN K ((U - 1) * d)) (x * d) ((U - 1) * d) i : Nat)) ∧ W'.heap.size ≤ b ∧ Below W'.heap.size W' w') := fun x hx W' hb =>
    stepWord_good U d n m K f g v u x W' (hv.below hb) (hu.below hb) hf hg hK hs hx
  obtain ⟨A, n', c, rfl⟩ : ∃ A n c, v = .slice A n c := by obtain ⟨A, c, h, _⟩ := hv; exact ⟨_, _, _, h⟩
  obtain ⟨A2, m', c2, rfl⟩ : ∃ A n c, u = .slice A n c := by obtain ⟨A, c, h, _⟩ := hu; exact ⟨_, _, _, h⟩
  obtain ⟨Aw, cw, rfl, _, _, h3⟩ := hw
  obtain ⟨bw, offw, rfl, hcw⟩ := h3 (by omega)
  have HCw := Lib.hid hcw
  have hNU : (U - 1) * d ≤ 15 * 64 := Nat.mul_le_mul (by omega) hd
  have hNI : ((U : Int) - 1) * (d : Int) = (((U - 1) * d : Nat) : Int) := by rw [Int.natCast_mul, show ((U - 1 : Nat) : Int) = (U : Int) - 1 by omega]
  have hw2 : IntKind.i64.wrap (((U : Int) - 1) * (d : Int)) = (((U - 1) * d : Nat) : Int) := by rw [hNI, IntKind.wrap_i64]; omega
  have hw3 : IntKind.i64.wrap (((U - 1) * d : Nat) : Int) = (((U - 1) * d : Nat) : Int) := by rw [IntKind.wrap_i64]; omega
  have hmk := run_make_row' (P := Tryz.prog) 30 5 (.int .u8 0) 1 Tryz.underlying30 infoU8 rfl .i64 .i64 ((U - 1) * d) (by omega) (by omega)
  clear hv hu h3 hcw hW hf hg hs
  generalize hNN : (U - 1) * d = N at *
  have HNN := Lib.hid hNN
  clear hNN
  have k0 : (w.alloc (.cells #[.int .i64 (U : Int), .int .i64 (d : Int), .int .u8 (K 0), .int .u8 (K 1), .int .u8 (K 2), .int .u8 (K 3), .int .u8 (K 4), .int .u8 (K 5), .int .u8 (K 6), .int .u8 (K 7), .int .u8 (K 8), .int .u8 (K 9), .int .u8 (K 10), .int .u8 (K 11), .int .u8 (K 12), .int .u8 (K 13), .int .u8 (K 14), .int .u8 (K 15), (.slice A n' c), (.slice A2 m' c2)] 29)).cell? ⟨w.heap.size, 0, none⟩ = some (.int .i64 (U : Int)) := HS.out.cell (i := 0) (by omega)
  have k1 : (w.alloc (.cells #[.int .i64 (U : Int), .int .i64 (d : Int), .int .u8 (K 0), .int .u8 (K 1), .int .u8 (K 2), .int .u8 (K 3), .int .u8 (K 4), .int .u8 (K 5), .int .u8 (K 6), .int .u8 (K 7), .int .u8 (K 8), .int .u8 (K 9), .int .u8 (K 10), .int .u8 (K 11), .int .u8 (K 12), .int .u8 (K 13), .int .u8 (K 14), .int .u8 (K 15), (.slice A n' c), (.slice A2 m' c2)] 29)).cell? ⟨w.heap.size, 1, none⟩ = some (.int .i64 (d : Int)) := HS.out.cell (i := 1) (by omega)
  go_enter Tryz.func119, Tryz.ntmps119
  go_wp2_with fail
  generalize hW0 : w.alloc (.cells #[.int .i64 (U : Int), .int .i64 (d : Int), .int .u8 (K 0), .int .u8 (K 1), .int .u8 (K 2), .int .u8 (K 3), .int .u8 (K 4), .int .u8 (K 5), .int .u8 (K 6), .int .u8 (K 7), .int .u8 (K 8), .int .u8 (K 9), .int .u8 (K 10), .int .u8 (K 11), .int .u8 (K 12), .int .u8 (K 13), .int .u8 (K 14), .int .u8 (K 15), (.slice A n' c), (.slice A2 m' c2)] 29) = w1 at *
  have hsz1 : w1.heap.size = w.heap.size + 1 := by rw [← hW0]; simp
  have hlw : w.heap.size < w1.heap.size := by omega
  rw [← hsz1]
  clear hW0 hsz1
  go_loopw [7] (fun s7 wr => ∃ b : Nat, b ≤ U - 1 ∧ s7 = .int .i64 b ∧ wr.rowIs w1.heap.size 5 N (fun p => .int .u8 (mdC (arN K N) d N W b p : Nat)) ∧ Below w1.heap.size w1 wr) (fun s7 _ => U - 1 - (intOf s7).toNat)
  case atStart => exact ⟨0, Nat.zero_le _, rfl, (World.rowIs_made w1 _ N _).congr (fun p hp => rfl), (Below.refl _ _).alloc (Nat.le_refl _) _⟩
  case round =>
    obtain ⟨b, hb, rfl, hrow, hbel⟩ := hrel
    obtain ⟨W0, rfl⟩ : ∃ W0 : World, W0 = wr := ⟨_, rfl⟩
    have HRow := Lib.hid hrow
    have HB := Lib.hid hbel
    have p0 := cell_below hbel k0
    have p1 := cell_below hbel k1
    have HS0 := Lib.hid (HS.out.of_block (hbel.block _ hlw))
    have HBw := Lib.hid (below_then HA.out hbel)
    by_cases hlt : b < U - 1
    · have HS1 := Lib.hid (HSw.out b (by omega))
      have HS2 := Lib.hid (HSw.out (b + 1) (by omega))
      rw [show ((b + 1 : Nat) : Int) = (b : Int) + 1 by omega] at HS2
      have hbU : (b : Int) < (U : Int) - 1 := by omega
      have cwb := cell_below HBw.out (HCw.out b hlt)
      have hWb := HW.out b hlt
      have hrl := hrow.lt
      clear hrow hbel p1 k0 k1
      go_wp2_with (refine wp_load_whole rfl 29 _ rfl w.heap.size rfl 29 20 _ _ _ HS0.out rfl (st_cs _ _ _ _ _) Tryz.underlying29 rfl st_size ?_)
      refine (HS1.out _ HBw.out).mono ?_
      rintro e w2 ⟨b1, rfl, hr1, hb1, hb2⟩
      have HSa := Lib.hid (HS0.out.of_block (hb2.block _ HS0.out.lt))
      have HB2 := Lib.hid (belowB_then HB.out HB.out.size hb2)
      have HBw2 := Lib.hid (below_then HBw.out hb2)
      have HRow2 := Lib.hid (HRow.out.of_block (hb2.block _ HRow.out.lt))
      have cwb := cell_below hb2 cwb
      have HR1 := Lib.hid hr1
      have hn1 : w1.heap.size ≠ b1 := by omega
      clear hb2 hr1
      go_wp2_with (refine wp_load_whole rfl 29 _ rfl w.heap.size rfl 29 20 _ _ _ HSa.out rfl (st_cs _ _ _ _ _) Tryz.underlying29 rfl st_size ?_)
      refine (HS2.out _ HBw2.out).mono ?_
      rintro e w3 ⟨b2, rfl, hr2, hb2, hb3⟩
      have HR13 := Lib.hid (HR1.out.of_block (hb3.block _ HR1.out.lt))
      have HB3 := Lib.hid (belowB_then HB2.out HB2.out.size hb3)
      have HRow3 := Lib.hid (HRow2.out.of_block (hb3.block _ HRow2.out.lt))
      have cwb := cell_below hb3 cwb
      have HR2 := Lib.hid hr2
      have hn2 : w1.heap.size ≠ b2 := by have := HRow2.out.lt; omega
      clear hb3 hr2 p0
      go_wp2_with fail
      go_loopw [12, 13] (fun s12 s13 wr => ∃ i : Nat, i ≤ N ∧ s13 = .int .i64 i ∧ s12 = .int .i64 ((W b - rank (inB (arN K N) d N b) i : Nat)) ∧ wr.rowIs w1.heap.size 5 N (fun p => .int .u8 (mdI (arN K N) d N W b i p : Nat)) ∧ wr.rowIs b1 5 N (fun i => .int .u8 (mrk (arN K N) (b * d) N i : Nat)) ∧ wr.rowIs b2 5 N (fun i => .int .u8 (mrk (arN K N) ((b + 1) * d) N i : Nat)) ∧ Below w1.heap.size w1 wr) (fun _ s13 _ => N - (intOf s13).toNat)
      case atStart => exact ⟨0, Nat.zero_le _, rfl, rfl, HRow3.out.congr (fun p hp => by rw [mdI_zero]), HR13.out, HR2.out, HB3.out⟩
      case round =>
        obtain ⟨i, hi, rfl, rfl, hrow, hr1, hr2, hbel⟩ := hrel
        obtain ⟨W5, rfl⟩ : ∃ W5 : World, W5 = wr := ⟨_, rfl⟩
        have HRw := Lib.hid hrow
        have HRx := Lib.hid hr1
        have HRy := Lib.hid hr2
        have HB5 := Lib.hid hbel
        by_cases hlt2 : i < N
        · have cx := hr1.cell (i := i) hlt2
          have cy := hr2.cell (i := i) hlt2
          have co := hrow.cell (i := i) hlt2
          have fo := hrow.frozen i
          have hx1 := mrk_le (arN K N) (b * d) N i
          have hy1 := mrk_le (arN K N) ((b + 1) * d) N i
          clear hrow hr1 hr2 hbel cwb
          by_cases hin : inB (arN K N) d N b i = true
          · obtain ⟨ha, hb0⟩ : mrk (arN K N) (b * d) N i = 1 ∧ mrk (arN K N) ((b + 1) * d) N i = 0 := by
              unfold inB at hin
              simpa using hin
            have HRk : Hid (rank (inB (arN K N) d N b) (i + 1) = rank (inB (arN K N) d N b) i + 1) := rank_yes hin
            have HIn := Lib.hid hin
            rw [ha] at cx
            rw [hb0] at cy
            clear ha hb0 hin hx1 hy1
            by_cases hr : rank (inB (arN K N) d N b) i < W b
            · have HHit : Hid (∀ p, mdI (arN K N) d N W b (i + 1) p = upd (mdI (arN K N) d N W b i) i 1 p) := fun p => mdI_hit HIn.out hr p
              obtain ⟨c, hc⟩ : ∃ c, c = W b - rank (inB (arN K N) d N b) i := ⟨_, rfl⟩
              have hc0 : (0 : Int) < (c : Int) := by omega
              have hc0n : 0 < c := by omega
              have hc1 : c ≤ 1000 := by omega
              have HC : Hid ((c : Int) - 1 = ((W b - rank (inB (arN K N) d N b) (i + 1) : Nat) : Int)) := by show _ = _; rw [HRk.out]; omega
              rw [← hc]
              clear hr hc
              go_wp2_with fail
              go_roundw
              case rel =>
                refine ⟨i + 1, by omega, by go_num, by rw [HC.out], ?_, HRx.out.setOther (fun e => hn1 e.symm) _, HRy.out.setOther (fun e => hn2 e.symm) _, HB5.out.setCell (p := ⟨w1.heap.size, i, none⟩) (Nat.le_refl _) _⟩
                exact (rowIs_upd HRw.out i 1 _ rfl).congr (fun p hp => by rw [HHit.out p])
              case measure => simp [intOf]; omega
            · have HMis : Hid (∀ p, mdI (arN K N) d N W b (i + 1) p = mdI (arN K N) d N W b i p) := fun p => mdI_miss (fun h => hr h.2) p
              have hc0 : W b - rank (inB (arN K N) d N b) i = 0 := by omega
              have HC : Hid (W b - rank (inB (arN K N) d N b) (i + 1) = 0) := by show _ = _; rw [HRk.out]; omega
              rw [hc0]
              clear hr hc0
              go_wp2_with fail
              go_roundw
              case rel => exact ⟨i + 1, by omega, by go_num, by rw [HC.out], HRw.out.congr (fun p hp => by rw [HMis.out p]), HRx.out, HRy.out, HB5.out⟩
              case measure => simp [intOf]; omega
          · have hinf : inB (arN K N) d N b i = false := by simpa using hin
            have HRk : Hid (rank (inB (arN K N) d N b) (i + 1) = rank (inB (arN K N) d N b) i) := rank_no hinf
            have HMis : Hid (∀ p, mdI (arN K N) d N W b (i + 1) p = mdI (arN K N) d N W b i p) := fun p => mdI_miss (fun h => hin h.1) p
            by_cases hv1 : mrk (arN K N) (b * d) N i = 1
            · have hw1 : mrk (arN K N) ((b + 1) * d) N i = 1 := by
                unfold inB at hinf
                simp at hinf
                have := hinf hv1
                omega
              rw [hv1] at cx
              rw [hw1] at cy
              clear hv1 hw1 hinf hin hx1 hy1
              go_wp2_with fail
              go_roundw
              case rel => exact ⟨i + 1, by omega, by go_num, by rw [HRk.out], HRw.out.congr (fun p hp => by rw [HMis.out p]), HRx.out, HRy.out, HB5.out⟩
              case measure => simp [intOf]; omega
            · have hv0 : mrk (arN K N) (b * d) N i = 0 := by omega
              rw [hv0] at cx
              clear hv1 hv0 hinf hin hx1 hy1
              go_wp2_with fail
              go_roundw
              case rel => exact ⟨i + 1, by omega, by go_num, by rw [HRk.out], HRw.out.congr (fun p hp => by rw [HMis.out p]), HRx.out, HRy.out, HB5.out⟩
              case measure => simp [intOf]; omega
        · obtain rfl : i = N := by omega
          clear hrow hr1 hr2 hbel cwb
          go_wp2_with fail
          go_roundw
          case rel => exact ⟨b + 1, by omega, by go_num, HRw.out.congr (fun p hp => by rw [mdI_end _ _ _ _ _ hp]), HB5.out⟩
          case measure => simp [intOf]; omega
    · obtain rfl : b = U - 1 := by omega
      have hbU : ¬ ((U - 1 : Nat) : Int) < (U : Int) - 1 := by omega
      have hbU2 : (U : Int) - 1 ≤ ((U - 1 : Nat) : Int) := by omega
      clear hrow hbel
      go_wp2
      go_ret2
      exact ⟨w1.heap.size, rfl, HRow.out, HBw.out⟩

set_option maxRecDepth 100000 in
set_option maxHeartbeats 2000000 in
/-- Whether a code of steps names these users for a copy with these weights. -/
theorem names_l_any (U d : Nat) (n m : Nat) (K : Nat → Nat) (f g : Nat → Nat) (v u : Value) (W : Nat → Nat) (ws want : Value) (nw : Nat) (G : Nat → Int) (w : World) (hv : Rd w .u32 v n f) (hu : Rd w .u32 u m g) (hf : ∀ j, j < n → f j < B) (hg : ∀ j, j < m → g j < B) (hK : Kb K) (hs : VSt (U : Int) (d : Int) n f m g) (hw : RdV w ws (U - 1) (fun j => .int .i64 (W j : Nat))) (hW : ∀ j, j < U - 1 → W j ≤ d) (hwant : RdV w want nw (fun j => .int .i64 (G j))) :
    Calls Tryz.prog 63 #[stV (U : Int) (d : Int) K v u, ws, want] w fun e w' => e = .returned (.bool (tt ((nmL U d (val f n) (val g m) W U).length = nw ∧ ∀ j, j < (nmL U d (val f n) (val g m) W U).length → (((nmL U d (val f n) (val g m) W U).getD j 0 : Nat) : Int) = G j))) ∧ Below w.heap.size w w' := by
  have hd1 : 1 ≤ d := by have := hs.2.2.1; omega
  have hd : d ≤ 64 := by have := hs.2.2.2.1; omega
  have hU2 : 2 ≤ U := by have := hs.1; omega
  have HS := Lib.hid (st_row w (U : Int) (d : Int) K v u 29)
  have hal := (Below.refl _ w).alloc (Nat.le_refl _) (.cells #[.int .i64 (U : Int), .int .i64 (d : Int), .int .u8 (K 0), .int .u8 (K 1), .int .u8 (K 2), .int .u8 (K 3), .int .u8 (K 4), .int .u8 (K 5), .int .u8 (K 6), .int .u8 (K 7), .int .u8 (K 8), .int .u8 (K 9), .int .u8 (K 10), .int .u8 (K 11), .int .u8 (K 12), .int .u8 (K 13), .int .u8 (K 14), .int .u8 (K 15), v, u] 29)
  have HA := Lib.hid hal
  have HM := Lib.hid (fun W' (h : Below w.heap.size w W') => made_any U d n m K f g v u W ws W' (hv.below h) (hu.below h) hf hg hK hs (hw.below h) (fun j hj => by have := hW j hj; omega))
  have hcp : IsC ((U - 1) * d) (mdC (arN K ((U - 1) * d)) d ((U - 1) * d) W (U - 1)) ((U - 1) * d) := ⟨rfl, fun j _ => Nat.le_trans (mdC_le _ _ _ _ _ _) (by omega)⟩
  have hok : SkOk (U : Int) (d : Int) n f m g ((U - 1) * d) (mdC (arN K ((U - 1) * d)) d ((U - 1) * d) W (U - 1)) := ⟨hs, by rw [Int.toNat_natCast, Int.toNat_natCast]; exact hcp⟩
  have hwm : ∀ b, b < U - 1 → wgF K (U : Int) (d : Int) (mdC (arN K ((U - 1) * d)) d ((U - 1) * d) W (U - 1)) b = W b := fun b hb => by
    unfold wgF
    rw [Int.toNat_natCast, Int.toNat_natCast]
    exact wts_made (arN_inj K _) hd1 hb (hW b hb)
  have HT := Lib.hid (fun W' y (h : Below w.heap.size w W') (hy : Rd W' .u8 y ((U - 1) * d) (mdC (arN K ((U - 1) * d)) d ((U - 1) * d) W (U - 1))) => traceE_any (U : Int) (d : Int) n m K f g ((U - 1) * d) (mdC (arN K ((U - 1) * d)) d ((U - 1) * d) W (U - 1)) v u y W' (hv.below h) (hu.below h) hf hg hK hy (fun j _ => by have := mdC_le (arN K ((U - 1) * d)) d ((U - 1) * d) W (U - 1) j; omega))
  have HWt := Lib.hid (fun W' y (h : Below w.heap.size w W') (hy : Rd W' .u8 y ((U - 1) * d) (mdC (arN K ((U - 1) * d)) d ((U - 1) * d) W (U - 1))) => weightsE_any (U : Int) (d : Int) n m K f g ((U - 1) * d) (mdC (arN K ((U - 1) * d)) d ((U - 1) * d) W (U - 1)) v u y W' (hv.below h) (hu.below h) hf hg hK hy (fun j _ => by have := mdC_le (arN K ((U - 1) * d)) d ((U - 1) * d) W (U - 1) j; omega))
  have hL : nmO K (U : Int) (d : Int) n f m g ((U - 1) * d) (mdC (arN K ((U - 1) * d)) d ((U - 1) * d) W (U - 1)) = nmL U d (val f n) (val g m) W U := by
    rw [nmO_ok hok, Int.toNat_natCast, Int.toNat_natCast]
    exact nmL_congr hU2 hwm U (Nat.le_refl _)
  rw [skE_ok hok, hL] at HT
  rw [skE_ok hok, wgL_ok hok, Int.toNat_natCast] at HWt
  have HWm := Lib.hid hwm
  have HSw := Lib.hid hw
  have HWant := Lib.hid hwant
  have hNU : (U - 1) * d ≤ 15 * 64 := Nat.mul_le_mul (by have := hs.2.1; omega) hd
  obtain ⟨A, n', c, rfl⟩ : ∃ A n c, v = .slice A n c := by obtain ⟨A, c, h, _⟩ := hv; exact ⟨_, _, _, h⟩
  obtain ⟨A2, m', c2, rfl⟩ : ∃ A n c, u = .slice A n c := by obtain ⟨A, c, h, _⟩ := hu; exact ⟨_, _, _, h⟩
  obtain ⟨Aw, cw, rfl, _, _, h3⟩ := hw
  obtain ⟨Az, cz, rfl, _, _, h4⟩ := hwant
  clear hv hu h3 h4 hW hf hg hs hal hcp hok hwm hL
  generalize mdC (arN K ((U - 1) * d)) d ((U - 1) * d) W (U - 1) = y at *
  generalize (U - 1) * d = N at *
  generalize nmL U d (val f n) (val g m) W U = L at *
  generalize hTT : tt (L.length = nw ∧ ∀ j, j < L.length → ((L.getD j 0 : Nat) : Int) = G j) = T at *
  have HTT := Lib.hid hTT
  clear hTT
  go_enter Tryz.func63, Tryz.ntmps63
  go_wp2_with (refine wp_load_whole rfl 29 _ rfl w.heap.size rfl 29 20 _ _ _ HS.out rfl (st_cs _ _ _ _ _) Tryz.underlying29 rfl st_size ?_)
  refine (HM.out _ HA.out).mono ?_
  rintro e w1 ⟨b1, rfl, hr1, hb1⟩
  have HS1 := Lib.hid (HS.out.of_block (hb1.block _ HS.out.lt))
  have HB1 := Lib.hid (below_then HA.out hb1)
  have HR1 := Lib.hid (rd_of_row hr1 (by omega))
  clear hb1 hr1
  go_wp2_with (refine wp_load_whole rfl 29 _ rfl w.heap.size rfl 29 20 _ _ _ HS1.out rfl (st_cs _ _ _ _ _) Tryz.underlying29 rfl st_size ?_)
  refine (HT.out _ _ HB1.out HR1.out).mono ?_
  rintro e w2 ⟨s2, rfl, hr2, hb2⟩
  have HS2 := Lib.hid (HS1.out.of_block (hb2.block _ HS1.out.lt))
  have HB2 := Lib.hid (below_then HB1.out hb2)
  have HR12 := Lib.hid (HR1.out.below hb2)
  have HR2 := Lib.hid hr2
  obtain ⟨As, cs, rfl, _, _, h5⟩ := hr2
  clear hb2 h5
  go_wp2_with (refine wp_load_whole rfl 29 _ rfl w.heap.size rfl 29 20 _ _ _ HS2.out rfl (st_cs _ _ _ _ _) Tryz.underlying29 rfl st_size ?_)
  refine (HWt.out _ _ HB2.out HR12.out).mono ?_
  rintro e w3 ⟨s3, rfl, hr3, hb3⟩
  have HB3 := Lib.hid (below_then HB2.out hb3)
  have HR23 := Lib.hid (HR2.out.below hb3)
  have HR3 := Lib.hid hr3
  obtain ⟨As3, cs3, rfl, _, _, h6⟩ := hr3
  have HQ1 := Lib.hid (sameInts_any L.length nw (fun j => ((L.getD j 0 : Nat) : Int)) G _ _ w3 HR23.out (HWant.out.below HB3.out))
  rw [HTT.out] at HQ1
  clear hb3 h6
  cases T with
  | true =>
    go_wp2_with fail
    refine HQ1.out.mono ?_
    rintro e w4 ⟨rfl, hb4⟩
    have HB4 := Lib.hid (below_then HB3.out hb4)
    have hq2 := sameInts_any (U - 1) (U - 1) (fun j => ((wgF K (U : Int) (d : Int) y j : Nat) : Int)) (fun j => ((W j : Nat) : Int)) _ _ w4 (HR3.out.below hb4) (HSw.out.below HB4.out)
    rw [tt_pos ⟨rfl, fun j hj => by rw [HWm.out j hj]⟩] at hq2
    have HQ2 := Lib.hid hq2
    clear hb4 hq2
    go_wp2_with fail
    refine HQ2.out.mono ?_
    rintro e w5 ⟨rfl, hb5⟩
    have HB5 := Lib.hid (below_then HB4.out hb5)
    clear hb5
    go_wp2_with fail
    go_ret
    exact ⟨rfl, HB5.out⟩
  | false =>
    go_wp2_with fail
    refine HQ1.out.mono ?_
    rintro e w4 ⟨rfl, hb4⟩
    have HB4 := Lib.hid (below_then HB3.out hb4)
    clear hb4
    go_wp2_with fail
    go_ret
    exact ⟨rfl, HB4.out⟩
end Go.Proofs.YtmbokpfgnicboaaGreat

/- The chapter's examples: what they come to; rows of small numbers. -/
namespace Go.Proofs.YtmbokpfgnicboaaGreat
open Go.RowKit Go.Hd Go.Sort _root_.Hd
set_option exponentiation.threshold 2000

/-- Small rows. -/
def l3 (a b c : Nat) (j : Nat) : Nat := if j = 0 then a else if j = 1 then b else c
def l2 (a b : Nat) (j : Nat) : Nat := if j = 0 then a else b
def b4 (j : Nat) : Int := if j = 0 then 1 else 2
def wG (k : Nat) : Nat → Nat := if k = 0 then l3 0 1 1 else l3 0 0 1
theorem rd_lit3 (w : World) (a b c : Nat) (t : TypeId) : Rd (w.alloc (.cells #[.int .u8 a, .int .u8 b, .int .u8 c] t)) .u8 (.slice (some ⟨w.heap.size, 0, none⟩) 3 3) 3 (l3 a b c) :=
  rd_of_row (World.rowIs_alloc w #[.int .u8 a, .int .u8 b, .int .u8 c] t _ (fun i hi => by
    match i, (show i < 3 from hi) with
    | 0, _ => rfl
    | 1, _ => rfl
    | 2, _ => rfl
    | n + 3, h => exact absurd h (by omega))) (by simp)
theorem rd_lit2 (w : World) (a b : Nat) (t : TypeId) : Rd (w.alloc (.cells #[.int .u8 a, .int .u8 b] t)) .u8 (.slice (some ⟨w.heap.size, 0, none⟩) 2 2) 2 (l2 a b) :=
  rd_of_row (World.rowIs_alloc w #[.int .u8 a, .int .u8 b] t _ (fun i hi => by
    match i, (show i < 2 from hi) with
    | 0, _ => rfl
    | 1, _ => rfl
    | n + 2, h => exact absurd h (by omega))) (by simp)
theorem rdV_ints2 (w : World) (a b : Int) (t : TypeId) : RdV (w.alloc (.cells #[.int .i64 a, .int .i64 b] t)) (.slice (some ⟨w.heap.size, 0, none⟩) 2 2) 2 (fun j => .int .i64 (if j = 0 then a else b)) := by
  have h := rdV_two w (.int .i64 a) (.int .i64 b) t
  obtain ⟨A, cap, e, h1, h2, h3⟩ := h
  refine ⟨A, cap, e, h1, h2, fun h0 => ?_⟩
  obtain ⟨bb, off, hA, hc⟩ := h3 h0
  refine ⟨bb, off, hA, fun j hj => ?_⟩
  rw [hc j hj]
  dsimp only
  split <;> rfl
theorem rdV_ints1 (w : World) (a : Int) (t : TypeId) : RdV (w.alloc (.cells #[.int .i64 a] t)) (.slice (some ⟨w.heap.size, 0, none⟩) 1 1) 1 (fun _ => .int .i64 a) := rdV_one _ _ _

theorem words_ok : WordsOk 2 (fun _ => 3) wG := ⟨by omega, by omega, by show (3 : Nat) ≤ 1024; omega, by
  intro k hk
  refine ⟨rfl, ?_⟩
  show ∀ j, j < 3 → wG k j ≤ 1
  rcases (show k = 0 ∨ k = 1 by omega) with rfl | rfl <;> decide⟩
theorem feas_yes {Y : Nat → Nat} (h : upTo 3 Y 2) (hf : Feas 2 3 wG Y) : feasX 2 (fun _ => 3) wG 3 Y = true ∧ feasE 2 (fun _ => 3) wG 3 Y = 0 := by
  have hc : IsC 3 Y 3 := ⟨rfl, h⟩
  constructor
  · exact tt_pos ⟨words_ok, hc, hf⟩
  · unfold feasE; rw [tt_pos words_ok, if_pos rfl, tt_pos hc, if_pos rfl]
theorem feas_no {Y : Nat → Nat} (h : upTo 3 Y 2) (hf : ¬ Feas 2 3 wG Y) : feasX 2 (fun _ => 3) wG 3 Y = false ∧ feasE 2 (fun _ => 3) wG 3 Y = 0 := by
  have hc : IsC 3 Y 3 := ⟨rfl, h⟩
  constructor
  · exact tt_neg (fun h => hf h.2.2)
  · unfold feasE; rw [tt_pos words_ok, if_pos rfl, tt_pos hc, if_pos rfl]
theorem feas1 : feasX 2 (fun _ => 3) wG 3 (l3 0 2 1) = true ∧ feasE 2 (fun _ => 3) wG 3 (l3 0 2 1) = 0 := feas_yes (by show ∀ j, j < 3 → l3 0 2 1 j ≤ 2; decide) (by show ∀ i, i < 3 → (∀ k, k < 2 → wG k i = wG 0 i) → l3 0 2 1 i = wG 0 i; decide)
theorem feas2 : feasX 2 (fun _ => 3) wG 3 (l3 1 0 1) = false ∧ feasE 2 (fun _ => 3) wG 3 (l3 1 0 1) = 0 := feas_no (by show ∀ j, j < 3 → l3 1 0 1 j ≤ 2; decide) (by show ¬ ∀ i, i < 3 → (∀ k, k < 2 → wG k i = wG 0 i) → l3 1 0 1 i = wG 0 i; decide)
theorem tl_val {d k x : Int} (h : TlOk d k x) : tlE d k x = 0 ∧ tlN d k x = tlS d k x / Nat.gcd (tlS d k x) (tlA d) ∧ tlD d k x = tlA d / Nat.gcd (tlS d k x) (tlA d) := by
  unfold tlE tlN tlD
  rw [tt_pos h]
  exact ⟨rfl, rfl, rfl⟩
theorem tail1 : tlE 2 2 1 = 0 ∧ tlN 2 2 1 = 5 ∧ tlD 2 2 1 = 6 := by
  obtain ⟨h1, h2, h3⟩ := tl_val (d := 2) (k := 2) (x := 1) ⟨by omega, by omega, by omega, by omega, by omega, by omega⟩
  exact ⟨h1, h2.trans (by decide), h3.trans (by decide)⟩
theorem th_val {U d n m k : Nat} {f g : Nat → Nat} (h : VSt (U : Int) (d : Int) n f m g) (hk : k ≤ 2 * d) : thE (U : Int) (d : Int) n f m g (k : Int) = 0 ∧ thV (U : Int) (d : Int) n f m g (k : Int) = thr d (val f n) (val g m) k := by
  unfold thE thV
  rw [tt_pos h, if_pos rfl, if_pos rfl, if_pos ⟨by omega, by omega⟩, if_pos ⟨by omega, by omega⟩, Int.toNat_natCast, Int.toNat_natCast]
  exact ⟨rfl, rfl⟩
theorem thr1 : thr 2 1 6 4 = 1 := by decide
theorem nm1 : nmL 3 2 1 6 (l2 0 2) 3 = [1] := by decide
theorem vs4 : VS 2 4 2 b4 := ⟨⟨by omega, by omega, by omega, by omega, by omega, by omega⟩, by
  intro j hj
  rcases (show j = 0 ∨ j = 1 by omega) with rfl | rfl <;> decide⟩
theorem ok4 {Y : Nat → Nat} (h : upTo 2 Y 2) : ScOk 2 4 2 b4 2 Y := ⟨vs4, rfl, h⟩
theorem up11 : upTo 2 (l2 1 1) 2 := by show ∀ j, j < 2 → l2 1 1 j ≤ 2; decide
theorem st_val {X Y : Nat → Nat} (hx : upTo 2 X 1) (hy : upTo 2 Y 2) : stE 2 4 2 b4 2 X 2 Y = 0 ∧ stS 2 4 2 b4 2 X 2 Y = scN 4 (fun j => (b4 j).toNat) X Y 2 := by
  unfold stE stS
  have h : IsW 2 X 2 ∧ IsC 2 Y 2 := ⟨⟨rfl, hx⟩, ⟨rfl, hy⟩⟩
  rw [tt_pos vs4, if_pos rfl, if_pos rfl, tt_pos h, if_pos rfl, if_pos rfl]
  exact ⟨rfl, rfl⟩
theorem score1 : stE 2 4 2 b4 2 (l2 1 0) 2 (l2 1 1) = 0 ∧ stS 2 4 2 b4 2 (l2 1 0) 2 (l2 1 1) = 1 := by
  obtain ⟨h1, h2⟩ := st_val (X := l2 1 0) (Y := l2 1 1) (by show ∀ j, j < 2 → l2 1 0 j ≤ 1; decide) up11
  exact ⟨h1, h2.trans (by decide)⟩
/-- The counts word by word. -/
theorem tl_ex {U Bs : Int} {n : Nat} {a : Nat → Int} (h : VS U Bs n a) (Y : Nat → Nat) (z : Int) : tl (scC Bs n a Y) 2048 z = exN (q0 Bs.toNat (fun j => (a j).toNat) Y) (q1 Bs.toNat (fun j => (a j).toNat) Y) (f0 Bs.toNat (fun j => (a j).toNat)) (fun j => (a j).toNat) n z := by
  obtain ⟨h1, h2, h3, _, h5, _⟩ := vs_bounds h
  exact (exN_eq (h := 32) (fun i hi => by
    have b1 := pt_32 (x := 0) (y := Y i) h3 (h5 i hi).1 (h5 i hi).2
    have b2 := pt_32 (x := 1) (y := Y i) h3 (h5 i hi).1 (h5 i hi).2
    exact ⟨b1.1, b1.2, b2.1, b2.2⟩) (by omega) n (Nat.le_refl _) z).symm
theorem tl4 {Y : Nat → Nat} (z : Int) : tl (scC 4 2 b4 Y) 2048 z = exN (q0 4 (fun j => (b4 j).toNat) Y) (q1 4 (fun j => (b4 j).toNat) Y) (f0 4 (fun j => (b4 j).toNat)) (fun j => (b4 j).toNat) 2 z := tl_ex vs4 Y z
theorem ch_val {Y : Nat → Nat} (h : upTo 2 Y 2) {z : Int} {s : Nat} (hs : exN (q0 4 (fun j => (b4 j).toNat) Y) (q1 4 (fun j => (b4 j).toNat) Y) (f0 4 (fun j => (b4 j).toNat)) (fun j => (b4 j).toNat) 2 z = s) : chE 2 4 2 b4 2 Y = 0 ∧ chM 2 4 2 b4 2 Y z = s / Nat.gcd s 16 ∧ chD 2 4 2 b4 2 Y z = 16 / Nat.gcd s 16 := by
  have e : tl (scC 4 2 b4 Y) 2048 z = s := (tl4 z).trans hs
  have e2 : scA 4 2 = 16 := by decide
  unfold chM chD chG
  rw [tt_pos (ok4 h), e, e2]
  exact ⟨chE_ok (ok4 h), rfl, rfl⟩
theorem chance1 : chE 2 4 2 b4 2 (l2 1 1) = 0 ∧ chM 2 4 2 b4 2 (l2 1 1) 1 = 5 ∧ chD 2 4 2 b4 2 (l2 1 1) 1 = 8 := by
  obtain ⟨h1, h2, h3⟩ := ch_val (Y := l2 1 1) up11 (z := 1) (s := 10) (by decide)
  exact ⟨h1, h2.trans (by decide), h3.trans (by decide)⟩
theorem bound_val {Y : Nat → Nat} (h : upTo 2 Y 2) {n1 m1 : Nat} {f g : Nat → Nat} (hl : VL n1 f m1 g) {z : Int} (h1 : exN (q0 4 (fun j => (b4 j).toNat) Y) (q1 4 (fun j => (b4 j).toNat) Y) (f0 4 (fun j => (b4 j).toNat)) (fun j => (b4 j).toNat) 2 z * val g m1 ≤ val f n1 * 16) (h2 : ¬ exN (q0 4 (fun j => (b4 j).toNat) Y) (q1 4 (fun j => (b4 j).toNat) Y) (f0 4 (fun j => (b4 j).toNat)) (fun j => (b4 j).toNat) 2 (z - 1) * val g m1 ≤ val f n1 * 16) :
    boE 2 4 2 b4 2 Y n1 f m1 g = 0 ∧ boZ 2 4 2 b4 2 Y n1 f m1 g = z := by
  have e2 : scA 4 2 = 16 := by decide
  refine ⟨boE_ok (ok4 h) hl, ?_⟩
  rw [boZ_ok (ok4 h) hl, e2]
  refine bdZ_eq ⟨?_, ?_⟩
  · unfold bdW; rw [tl4]; exact h1
  · unfold bdW; rw [tl4]; exact h2
end Go.Proofs.YtmbokpfgnicboaaGreat

/- The walk of the laws' helper: some of the chapter's examples. -/
namespace Go.Proofs.YtmbokpfgnicboaaGreat
open Go.RowKit Go.Hd Go.Sort _root_.Hd
set_option exponentiation.threshold 2000

theorem feas_lit (w : World) (x y z : Nat) (hx : x < 256) (hy : y < 256) (hz : z < 256) :
    Calls Tryz.prog 54 #[.slice (some ⟨w.heap.size + 1 + 1, 0, none⟩) 2 2, .slice (some ⟨w.heap.size + 1 + 1 + 1, 0, none⟩) 3 3] ((((w.alloc (.cells #[.int .u8 0, .int .u8 1, .int .u8 1] 5)).alloc (.cells #[.int .u8 0, .int .u8 0, .int .u8 1] 5)).alloc (.cells #[.slice (some ⟨w.heap.size, 0, none⟩) 3 3, .slice (some ⟨w.heap.size + 1, 0, none⟩) 3 3] 30)).alloc (.cells #[.int .u8 x, .int .u8 y, .int .u8 z] 5)) fun e w' => e = .returned (.tuple #[.bool (feasX 2 (fun _ => 3) wG 3 (l3 x y z)), .int .i64 (feasE 2 (fun _ => 3) wG 3 (l3 x y z))]) ∧ Below w.heap.size w w' := by
  have b1 : Below w.heap.size w (w.alloc (.cells #[.int .u8 0, .int .u8 1, .int .u8 1] 5)) := (Below.refl _ _).alloc (Nat.le_refl _) _
  have b2 := b1.alloc b1.size (.cells #[.int .u8 0, .int .u8 0, .int .u8 1] 5)
  have b3 := b2.alloc b2.size (.cells #[.slice (some ⟨w.heap.size, 0, none⟩) 3 3, .slice (some ⟨w.heap.size + 1, 0, none⟩) 3 3] 30)
  have b4' := b3.alloc b3.size (.cells #[.int .u8 x, .int .u8 y, .int .u8 z] 5)
  have r0 := ((((rd_lit3 w 0 1 1 5).below ((Below.refl _ _).alloc (Nat.le_refl _) (.cells #[.int .u8 0, .int .u8 0, .int .u8 1] 5))).below ((Below.refl _ _).alloc (Nat.le_refl _) (.cells #[.slice (some ⟨w.heap.size, 0, none⟩) 3 3, .slice (some ⟨w.heap.size + 1, 0, none⟩) 3 3] 30))).below ((Below.refl _ _).alloc (Nat.le_refl _) (.cells #[.int .u8 x, .int .u8 y, .int .u8 z] 5)))
  have r1 := (((rd_lit3 (w.alloc (.cells #[.int .u8 0, .int .u8 1, .int .u8 1] 5)) 0 0 1 5).below ((Below.refl _ _).alloc (Nat.le_refl _) (.cells #[.slice (some ⟨w.heap.size, 0, none⟩) 3 3, .slice (some ⟨w.heap.size + 1, 0, none⟩) 3 3] 30))).below ((Below.refl _ _).alloc (Nat.le_refl _) (.cells #[.int .u8 x, .int .u8 y, .int .u8 z] 5)))
  have r2 := (rdV_two ((w.alloc (.cells #[.int .u8 0, .int .u8 1, .int .u8 1] 5)).alloc (.cells #[.int .u8 0, .int .u8 0, .int .u8 1] 5)) (.slice (some ⟨w.heap.size, 0, none⟩) 3 3) (.slice (some ⟨w.heap.size + 1, 0, none⟩) 3 3) 30).below ((Below.refl _ _).alloc (Nat.le_refl _) (.cells #[.int .u8 x, .int .u8 y, .int .u8 z] 5))
  have r3 := rd_lit3 (((w.alloc (.cells #[.int .u8 0, .int .u8 1, .int .u8 1] 5)).alloc (.cells #[.int .u8 0, .int .u8 0, .int .u8 1] 5)).alloc (.cells #[.slice (some ⟨w.heap.size, 0, none⟩) 3 3, .slice (some ⟨w.heap.size + 1, 0, none⟩) 3 3] 30)) x y z 5
  rw [World.size_alloc] at r1
  rw [World.size_alloc, World.size_alloc] at r2
  rw [World.size_alloc, World.size_alloc, World.size_alloc] at r3
  refine (feasible_any 2 3 (fun _ => 3) wG (l3 x y z) _ _ _ ⟨_, r2, ?_⟩ r3 ?_ ?_).mono fun e w' ⟨he, hb⟩ => ⟨he, b4'.trans (hb.mono b4'.size)⟩
  · intro k hk
    rcases (show k = 0 ∨ k = 1 by omega) with rfl | rfl
    · exact r0
    · exact r1
  · intro k hk j hj
    have : ∀ j, wG k j ≤ 1 := fun j => by
      unfold wG
      split
      · show (if j = 0 then 0 else if j = 1 then 1 else 1) ≤ 1; split <;> (try split) <;> omega
      · show (if j = 0 then 0 else if j = 1 then 0 else 1) ≤ 1; split <;> (try split) <;> omega
    have := this j
    omega
  · intro j hj
    unfold l3
    split
    · exact hx
    · split
      · exact hy
      · exact hz

/-- Who is named by the chapter's code for two weights. -/
theorem names_three (a b x : Nat) (n m : Nat) (f g : Nat → Nat) (lv lu : Value) (w : World) (hv : Rd w .u32 lv n f) (hu : Rd w .u32 lu m g) (hf : ∀ j, j < n → f j < B) (hg : ∀ j, j < m → g j < B) (hs : VSt 3 2 n f m g) (e6 : val f n = 1) (e7 : val g m = 6) (ha : a ≤ 2) (hb : b ≤ 2) (hn : nmL 3 2 1 6 (l2 a b) 3 = [x]) :
    Calls Tryz.prog 63 #[stV 3 2 kZ lv lu, .slice (some ⟨w.heap.size, 0, none⟩) 2 2, .slice (some ⟨w.heap.size + 1, 0, none⟩) 1 1] ((w.alloc (.cells #[.int .i64 a, .int .i64 b] 3)).alloc (.cells #[.int .i64 x] 3)) fun e w' => e = .returned (.bool true) ∧ Below w.heap.size w w' := by
  have b1 : Below w.heap.size w (w.alloc (.cells #[.int .i64 a, .int .i64 b] 3)) := (Below.refl _ _).alloc (Nat.le_refl _) _
  have b2 := b1.alloc b1.size (.cells #[.int .i64 x] 3)
  have r0 := (rdV_ints2 w a b 3).below ((Below.refl _ _).alloc (Nat.le_refl _) (.cells #[.int .i64 x] 3))
  have r1 := rdV_ints1 (w.alloc (.cells #[.int .i64 a, .int .i64 b] 3)) x 3
  rw [World.size_alloc] at r1
  have h := names_l_any 3 2 n m kZ f g lv lu (l2 a b) _ _ 1 (fun _ => (x : Int)) _ (hv.below b2) (hu.below b2) hf hg kZ_kb hs (rdV_congr r0 (fun j hj => by show Value.int _ _ = Value.int _ _; unfold l2; congr 1; split <;> rfl)) (fun j hj => by unfold l2; split <;> omega) r1
  rw [e6, e7, hn] at h
  rw [tt_pos ⟨rfl, fun j hj => by
    have : j = 0 := by simpa using hj
    subst this; rfl⟩] at h
  exact h.mono fun e w' ⟨he, hb⟩ => ⟨he, b2.trans (hb.mono b2.size)⟩

set_option maxRecDepth 100000 in
set_option maxHeartbeats 4000000 in
theorem alive_any (w : World) : Calls Tryz.prog 28 #[] w fun e w' => e = .returned (.bool true) ∧ Below w.heap.size w w' := by
  have HF1 := Lib.hid (fun W => feas_lit W 0 2 1 (by omega) (by omega) (by omega))
  have HF2 := Lib.hid (fun W => feas_lit W 1 0 1 (by omega) (by omega) (by omega))
  have f1 := feas1
  have f2 := feas2
  rw [f1.1, f1.2] at HF1
  rw [f2.1, f2.2] at HF2
  have HT := Lib.hid (fun W => tail_any 2 2 1 W)
  rw [tail1.1, tail1.2.1, tail1.2.2] at HT
  have HIs := Lib.hid (fun W v u m n a b (hv : Nt W v m) (hu : Nt W u n) ha hb hb0 => is_any m n a b 0 v u W hv hu ha hb hb0)
  have HSc := Lib.hid (fun W v x y (hv : RdV W v 2 (fun j => .int .i64 (b4 j))) (hx : Rd W .u8 x 2 (l2 1 0)) (hy : Rd W .u8 y 2 (l2 1 1)) => scoreE_any 2 4 v kZ 2 b4 2 (l2 1 0) 2 (l2 1 1) x y W hv hx hy (fun j _ => by unfold l2; split <;> omega) (fun j _ => by unfold l2; split <;> omega))
  rw [score1.1, score1.2] at HSc
  have HCh := Lib.hid (fun W v y (hv : RdV W v 2 (fun j => .int .i64 (b4 j))) (hy : Rd W .u8 y 2 (l2 1 1)) => chanceE_any 2 4 v kZ 2 b4 2 (l2 1 1) y 1 W hv hy (fun j _ => by unfold l2; split <;> omega))
  rw [chance1.1, chance1.2.1, chance1.2.2] at HCh
  clear f1 f2
  go_enter Tryz.func28, Tryz.ntmps28
  go_wp2_with fail
  refine (HF1.out _).mono ?_
  rintro e w1 ⟨rfl, hb1⟩
  have HB1 := Lib.hid hb1
  clear hb1
  go_wp2_with fail
  refine (HF2.out _).mono ?_
  rintro e w2 ⟨rfl, hb2⟩
  have HB2 := Lib.hid (below_then HB1.out hb2)
  clear hb2
  go_wp2_with fail
  refine (HT.out _).mono ?_
  rintro e w3 ⟨v3, u3, rfl, hN3, hM3, hb3⟩
  have HB3 := Lib.hid (below_then HB2.out hb3)
  obtain ⟨A3, n3, c3, rfl⟩ := hN3.shape
  obtain ⟨A4, n4, c4, rfl⟩ := hM3.shape
  have HN3 := Lib.hid hN3
  have HM3 := Lib.hid hM3
  have HR3 := Lib.hid (row2 w3 (.slice A3 n3 c3) (.slice A4 n4 c4) 27)
  have HA3 := Lib.hid ((Below.refl _ w3).alloc (Nat.le_refl _) (.cells #[.slice A3 n3 c3, .slice A4 n4 c4] 27))
  clear hb3 hN3 hM3
  go_wp2_with fail
  refine (three_any _).mono ?_
  rintro e w4 ⟨lv, lu, n, m, f, g, rfl, hv, hu, hf, hg, hs, e6, e7, hb4⟩
  have HB4 := Lib.hid (below_then (below_then HB3.out HA3.out) hb4)
  have HD4 := Lib.hid (below_then HA3.out hb4)
  have HR4 := Lib.hid (HR3.out.of_block (hb4.block _ HR3.out.lt))
  have HTh : Hid (Calls Tryz.prog 57 #[stV 3 2 kZ lv lu, .int .i64 4] w4 fun e w' => e = .returned (.tuple #[.int .i64 1, .int .i64 0]) ∧ Below w4.heap.size w4 w') := by
    have hs' : VSt ((3 : Nat) : Int) ((2 : Nat) : Int) n f m g := hs
    obtain ⟨t1, t2⟩ := th_val hs' (k := 4) (by omega)
    have h := thresholdE_any ((3 : Nat) : Int) ((2 : Nat) : Int) kZ n m f g lv lu ((4 : Nat) : Int) w4 hv hu hf hg
    rw [t1, t2, e6, e7, thr1] at h
    exact h
  obtain ⟨A5, c5, rfl, _, _, h5⟩ := hv
  obtain ⟨A6, c6, rfl, _, _, h6⟩ := hu
  clear hb4 h5 h6 hf hg hs e6 e7
  go_wp2_with fail
  refine HTh.out.mono ?_
  rintro e w5 ⟨rfl, hb5⟩
  have HB5 := Lib.hid (below_then HB4.out hb5)
  have HD5 := Lib.hid (below_then HD4.out hb5)
  have HR5 := Lib.hid (HR4.out.of_block (hb5.block _ HR4.out.lt))
  have q0 : w5.cell? ⟨w3.heap.size, 0, none⟩ = some (.slice A3 n3 c3) := HR5.out.cell (i := 0) (by omega)
  have q1 : w5.cell? ⟨w3.heap.size, 1, none⟩ = some (.slice A4 n4 c4) := HR5.out.cell (i := 1) (by omega)
  clear hb5
  go_wp2_with fail
  refine (HIs.out _ _ _ 5 6 5 6 (HN3.out.below HD5.out) (HM3.out.below HD5.out) (by omega) (by omega) (by omega)).mono ?_
  rintro e w6 ⟨rfl, hb6⟩
  have HB6 := Lib.hid (below_then HB5.out hb6)
  rw [tt_pos ⟨by first | rfl | trivial, by decide, by decide⟩]
  clear hb6 q0 q1
  go_wp2_with fail
  refine (three_any _).mono ?_
  rintro e w7 ⟨lv, lu, n, m, f, g, rfl, hv, hu, hf, hg, hs, e6, e7, hb7⟩
  have HB7 := Lib.hid (below_then HB6.out hb7)
  have HNm := Lib.hid (names_three 0 2 1 n m f g lv lu w7 hv hu hf hg hs e6 e7 (by omega) (by omega) nm1)
  obtain ⟨A5, c5, rfl, _, _, h5⟩ := hv
  obtain ⟨A6, c6, rfl, _, _, h6⟩ := hu
  clear hb7 h5 h6 hf hg hs e6 e7
  go_wp2_with fail
  refine HNm.out.mono ?_
  rintro e w8 ⟨rfl, hb8⟩
  have HB8 := Lib.hid (below_then HB7.out hb8)
  clear hb8
  go_wp2_with fail
  refine (four_any _).mono ?_
  rintro e w9 ⟨v9, rfl, hv9, hb9⟩
  have HB9 := Lib.hid (below_then HB8.out hb9)
  have hx := (rd_lit2 w9 1 0 5).below ((Below.refl _ _).alloc (Nat.le_refl _) (.cells #[.int .u8 1, .int .u8 1] 5))
  have hy := rd_lit2 (w9.alloc (.cells #[.int .u8 1, .int .u8 0] 5)) 1 1 5
  rw [World.size_alloc] at hy
  have HA9 : Hid (Below w9.heap.size w9 ((w9.alloc (.cells #[.int .u8 1, .int .u8 0] 5)).alloc (.cells #[.int .u8 1, .int .u8 1] 5))) := ((Below.refl _ _).alloc (Nat.le_refl _) _).alloc (by simp) _
  have HS9 := Lib.hid (HSc.out _ _ _ _ (hv9.below HA9.out) hx hy)
  obtain ⟨A9, c9, rfl, _, _, h9⟩ := hv9
  clear hx hy hb9 h9
  go_wp2_with fail
  refine HS9.out.mono ?_
  rintro e w10 ⟨rfl, hb10⟩
  have HB10 := Lib.hid (below_then (below_then HB9.out HA9.out) hb10)
  clear hb10
  go_wp2_with fail
  refine (four_any _).mono ?_
  rintro e w11 ⟨v11, rfl, hv11, hb11⟩
  have HB11 := Lib.hid (below_then HB10.out hb11)
  have hy := rd_lit2 w11 1 1 5
  have HA11 : Hid (Below w11.heap.size w11 (w11.alloc (.cells #[.int .u8 1, .int .u8 1] 5))) := (Below.refl _ _).alloc (Nat.le_refl _) _
  have HC11 := Lib.hid (HCh.out _ _ _ (hv11.below HA11.out) hy)
  obtain ⟨A11, c11, rfl, _, _, h11⟩ := hv11
  clear hy hb11 h11
  go_wp2_with fail
  refine HC11.out.mono ?_
  rintro e w12 ⟨v12, u12, rfl, hN12, hM12, hb12⟩
  have HB12 := Lib.hid (below_then (below_then HB11.out HA11.out) hb12)
  obtain ⟨A12, n12, c12, rfl⟩ := hN12.shape
  obtain ⟨A13, n13, c13, rfl⟩ := hM12.shape
  have HN12 := Lib.hid hN12
  have HM12 := Lib.hid hM12
  have HR12 := Lib.hid (row2 w12 (.slice A12 n12 c12) (.slice A13 n13 c13) 27)
  have HA12 := Lib.hid ((Below.refl _ w12).alloc (Nat.le_refl _) (.cells #[.slice A12 n12 c12, .slice A13 n13 c13] 27))
  clear hb12 hN12 hM12
  go_wp2_with fail
  refine (four_any _).mono ?_
  rintro e w13 ⟨v13, rfl, hv13, hb13⟩
  have HB13 := Lib.hid (below_then (below_then HB12.out HA12.out) hb13)
  have HD13 := Lib.hid (below_then HA12.out hb13)
  have HR13 := Lib.hid (HR12.out.of_block (hb13.block _ HR12.out.lt))
  have HA13 : Hid (Below w13.heap.size w13 (w13.alloc (.cells #[.int .u8 1, .int .u8 1] 5))) := (Below.refl _ _).alloc (Nat.le_refl _) _
  have HY13 := Lib.hid (rd_lit2 w13 1 1 5)
  have HV13 := Lib.hid (hv13.below HA13.out)
  have HR13a := Lib.hid (HR13.out.alloc (.cells #[.int .u8 1, .int .u8 1] 5))
  obtain ⟨A14, c14, rfl, _, _, h14⟩ := hv13
  clear hb13 h14
  go_wp2_with fail
  refine (ratio_any 1 8 _ (by omega) (by omega) (by omega)).mono ?_
  rintro e w14 ⟨v14, u14, rfl, hN14, hM14, hb14⟩
  have HB14 := Lib.hid (below_then (below_then HB13.out HA13.out) hb14)
  have HD14 := Lib.hid (below_then (below_then HD13.out HA13.out) hb14)
  have HR14 := Lib.hid (HR13a.out.of_block (hb14.block _ HR13a.out.lt))
  have hN14' := nt_b hN14 (show 1 / Nat.gcd 1 8 = 1 by decide)
  have hM14' := nt_b hM14 (show 8 / Nat.gcd 1 8 = 8 by decide)
  obtain ⟨A15, n15, c15, rfl⟩ := hN14.shape
  obtain ⟨A16, n16, c16, rfl⟩ := hM14.shape
  have HBd : Hid (Calls Tryz.prog 33 #[scV 2 4 (.slice A14 2 c14) kZ, .slice (some ⟨w13.heap.size, 0, none⟩) 2 2, .agg #[.slice A15 n15 c15, .slice A16 n16 c16]] w14 fun e w' => e = .returned (.tuple #[.int .i64 2, .int .i64 0]) ∧ Below w14.heap.size w14 w') := by
    obtain ⟨n1, m1, f1, g1, r1, r2, r3, r4, r5, r6, r7⟩ := limit_nt hN14' hM14' (by decide) (by omega) (by unfold B; omega)
    obtain ⟨t1, t2⟩ := bound_val up11 r5 (z := 2) (by rw [r6, r7]; decide) (by rw [r6, r7]; decide)
    have h := boundE_any 2 4 (.slice A14 2 c14) kZ 2 b4 2 (l2 1 1) (.slice (some ⟨w13.heap.size, 0, none⟩) 2 2) n1 m1 f1 g1 _ _ w14 (HV13.out.below hb14) (HY13.out.below hb14) (fun j _ => by unfold l2; split <;> omega) r1 r2 r3 r4
    rw [t1, t2] at h
    exact h
  clear hb14 hN14 hM14 hN14' hM14'
  go_wp2_with fail
  refine HBd.out.mono ?_
  rintro e w15 ⟨rfl, hb15⟩
  have HB15 := Lib.hid (below_then HB14.out hb15)
  have HD15 := Lib.hid (below_then HD14.out hb15)
  have HR15 := Lib.hid (HR14.out.of_block (hb15.block _ HR14.out.lt))
  have q0 : w15.cell? ⟨w12.heap.size, 0, none⟩ = some (.slice A12 n12 c12) := HR15.out.cell (i := 0) (by omega)
  have q1 : w15.cell? ⟨w12.heap.size, 1, none⟩ = some (.slice A13 n13 c13) := HR15.out.cell (i := 1) (by omega)
  clear hb15
  go_wp2_with fail
  refine (HIs.out _ _ _ 5 8 5 8 (HN12.out.below HD15.out) (HM12.out.below HD15.out) (by omega) (by omega) (by omega)).mono ?_
  rintro e w16 ⟨rfl, hb16⟩
  have HB16 := Lib.hid (below_then HB15.out hb16)
  rw [tt_pos ⟨by first | rfl | trivial, by decide, by decide⟩]
  clear hb16 q0 q1
  go_wp2_with fail
  go_ret
  exact ⟨rfl, HB16.out⟩
end Go.Proofs.YtmbokpfgnicboaaGreat
