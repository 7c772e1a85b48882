import Derived.Test.YtmbokpfgnicboaaRp
set_option linter.unusedVariables false
set_option linter.unusedSimpArgs false
/- The walk of the law CodeTails. -/
namespace Go.Proofs.Ytmbokpfgnicboaa
open Go.RowKit Go.Hd _root_.Hd
set_option exponentiation.threshold 2000

set_option maxRecDepth 100000 in
set_option maxHeartbeats 4000000 in
theorem law3 (d k x : Int) (U Bk : Int) (K : Nat → Nat) (n m : Nat) (f g : Nat → Nat) (v u : Value) (w : World) (hv : Rd w .u32 v n f) (hu : Rd w .u32 u m g) (hf : ∀ j, j < n → f j < B) (hg : ∀ j, j < m → g j < B) :
    Calls Try.prog 5 #[.int .i64 d, .int .i64 k, .int .i64 x, stV U Bk K v u] w fun e w' => e = .returned (.bool true) ∧ Below w.heap.size w w' := by
  have hal := (Below.refl _ w).alloc (Nat.le_refl _) (.cells #[.int .i64 U, .int .i64 Bk, .int .u8 (K 0), .int .u8 (K 1), .int .u8 (K 2), .int .u8 (K 3), .int .u8 (K 4), .int .u8 (K 5), .int .u8 (K 6), .int .u8 (K 7), .int .u8 (K 8), .int .u8 (K 9), .int .u8 (K 10), .int .u8 (K 11), .int .u8 (K 12), .int .u8 (K 13), .int .u8 (K 14), .int .u8 (K 15), v, u] 51)
  have HA := Lib.hid hal
  have HS := Lib.hid (st_row w U Bk K v u 51)
  have HT1 := Lib.hid (fun W => tail_any d k x W)
  have HT2 := Lib.hid (fun W => rtail_any d k x W)
  have HH1 := Lib.hid (fun W (h : Below w.heap.size w W) => thresholdE_any U Bk K n m f g v u k W (hv.below h) (hu.below h) hf hg)
  have HH2 := Lib.hid (fun W (h : Below w.heap.size w W) => rthreshold_any U Bk K n m f g v u k W (hv.below h) (hu.below h) hf hg)
  have HC1 := Lib.hid (fun W (h : Below w.heap.size w W) => complete_any U Bk K n m f g v u W (hv.below h) (hu.below h) hf hg)
  have HC2 := Lib.hid (fun W (h : Below w.heap.size w W) => rcomplete_any U Bk K n m f g v u W (hv.below h) (hu.below h) hf hg)
  obtain ⟨A, n', c, rfl⟩ : ∃ A n c, v = .slice A n c := by obtain ⟨A, c, h, _⟩ := hv; exact ⟨_, _, _, h⟩
  obtain ⟨A2, m', c2, rfl⟩ : ∃ A n c, u = .slice A n c := by obtain ⟨A, c, h, _⟩ := hu; exact ⟨_, _, _, h⟩
  clear hv hu hf hg hal
  generalize tlE d k x = e1 at *
  generalize tlN d k x = a1 at *
  generalize tlD d k x = b1 at *
  generalize thV U Bk n f m g k = t1 at *
  generalize thE U Bk n f m g k = t2 at *
  generalize coP U Bk n f m g = p1 at *
  generalize spE U Bk n f m g = p2 at *
  go_enter Try.func5, Try.ntmps5
  go_wp2_with fail
  refine (HT1.out _).mono ?_
  rintro e w1 ⟨v1, u1, rfl, hN1, hM1, hB1⟩
  have HB1 := Lib.hid (below_then HA.out hB1)
  have HS1 := Lib.hid (HS.out.of_block (hB1.block _ HS.out.lt))
  have HN1 := Lib.hid hN1
  have HM1 := Lib.hid hM1
  obtain ⟨A3, n3, c3, rfl⟩ := hN1.shape
  obtain ⟨A4, n4, c4, rfl⟩ := hM1.shape
  clear hN1 hM1 hB1
  have HA1 := Lib.hid (HB1.out.alloc HB1.out.size (.cells #[.slice A3 n3 c3, .slice A4 n4 c4] 49))
  have hal1 := (Below.refl _ w1).alloc (Nat.le_refl _) (.cells #[.slice A3 n3 c3, .slice A4 n4 c4] 49)
  have HR1 := Lib.hid (row2 w1 (.slice A3 n3 c3) (.slice A4 n4 c4) 49)
  have HN1a := Lib.hid (HN1.out.below hal1)
  have HM1a := Lib.hid (HM1.out.below hal1)
  have HS1a := Lib.hid (HS1.out.of_block (hal1.block _ HS1.out.lt))
  clear hal1
  go_wp2_with fail
  refine (HT2.out _).mono ?_
  rintro e w2 ⟨v2, u2, rfl, hN2, hM2, hB2⟩
  have hal2 := (Below.refl _ w2).alloc (Nat.le_refl _) (.cells #[v2, u2] 49)
  have HB2 := Lib.hid (below_then (below_then HA1.out hB2) hal2)
  have HS2 := Lib.hid ((HS1a.out.of_block (hB2.block _ HS1a.out.lt)).of_block (hal2.block _ (HS1a.out.of_block (hB2.block _ HS1a.out.lt)).lt))
  have HR1b := Lib.hid ((HR1.out.of_block (hB2.block _ HR1.out.lt)).of_block (hal2.block _ (HR1.out.of_block (hB2.block _ HR1.out.lt)).lt))
  have HR2 := Lib.hid (row2 w2 v2 u2 49)
  have HSm := Lib.hid (rsamefrac_nt a1 b1 a1 b1 _ _ _ _ _ ((HN1a.out.below hB2).below hal2) ((HM1a.out.below hB2).below hal2) (hN2.below hal2) (hM2.below hal2))
  rw [tt_pos ⟨rfl, rfl⟩] at HSm
  obtain ⟨A5, n5, c5, rfl⟩ := hN2.shape
  obtain ⟨A6, n6, c6, rfl⟩ := hM2.shape
  have p0 : (w2.alloc (.cells #[.slice A5 n5 c5, .slice A6 n6 c6] 49)).cell? ⟨w1.heap.size, 0, none⟩ = some (.slice A3 n3 c3) := HR1b.out.cell (i := 0) (by omega)
  have p1' : (w2.alloc (.cells #[.slice A5 n5 c5, .slice A6 n6 c6] 49)).cell? ⟨w1.heap.size, 1, none⟩ = some (.slice A4 n4 c4) := HR1b.out.cell (i := 1) (by omega)
  clear hN2 hM2 hB2 hal2
  go_wp2_with fail
  refine HSm.out.mono ?_
  rintro e w3 ⟨rfl, hB3⟩
  have HB3 := Lib.hid (below_then HB2.out hB3)
  have HS3 := Lib.hid (HS2.out.of_block (hB3.block _ HS2.out.lt))
  clear hB3
  go_wp2_with (refine wp_load_whole rfl 51 _ rfl w.heap.size rfl 51 20 _ _ _ HS3.out rfl (st_cs _ _ _ _ _) Try.underlying51 rfl st_size ?_)
  refine (HH1.out _ HB3.out).mono ?_
  rintro e w4 ⟨rfl, hB4⟩
  have HB4 := Lib.hid (below_then HB3.out hB4)
  have HS4 := Lib.hid (HS3.out.of_block (hB4.block _ HS3.out.lt))
  clear hB4
  go_wp2_with (refine wp_load_whole rfl 51 _ rfl w.heap.size rfl 51 20 _ _ _ HS4.out rfl (st_cs _ _ _ _ _) Try.underlying51 rfl st_size ?_)
  refine (HH2.out _ HB4.out).mono ?_
  rintro e w5 ⟨rfl, hB5⟩
  have HB5 := Lib.hid (below_then HB4.out hB5)
  have HS5 := Lib.hid (HS4.out.of_block (hB5.block _ HS4.out.lt))
  clear hB5
  go_wp2_with (refine wp_load_whole rfl 51 _ rfl w.heap.size rfl 51 20 _ _ _ HS5.out rfl (st_cs _ _ _ _ _) Try.underlying51 rfl st_size ?_)
  refine (HC1.out _ HB5.out).mono ?_
  rintro e w6 ⟨rfl, hB6⟩
  have HB6 := Lib.hid (below_then HB5.out hB6)
  have HS6 := Lib.hid (HS5.out.of_block (hB6.block _ HS5.out.lt))
  clear hB6
  go_wp2_with (refine wp_load_whole rfl 51 _ rfl w.heap.size rfl 51 20 _ _ _ HS6.out rfl (st_cs _ _ _ _ _) Try.underlying51 rfl st_size ?_)
  refine (HC2.out _ HB6.out).mono ?_
  rintro e w7 ⟨rfl, hB7⟩
  have HB7 := Lib.hid (below_then HB6.out hB7)
  clear hB7
  go_wp2
  go_ret
  exact ⟨by simp, HB7.out⟩
end Go.Proofs.Ytmbokpfgnicboaa
