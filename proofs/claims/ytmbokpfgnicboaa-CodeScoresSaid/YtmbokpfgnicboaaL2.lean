import Derived.Test.YtmbokpfgnicboaaS8
set_option linter.unusedVariables false
set_option linter.unusedSimpArgs false
/- The walk of the law CodeScores. -/
namespace Go.Proofs.Ytmbokpfgnicboaa
open Go.RowKit Go.Hd Go.Sort _root_.Hd

set_option maxRecDepth 100000 in
set_option maxHeartbeats 2000000 in
theorem law2 (U Bs : Int) (v : Value) (K : Nat → Nat) (n : Nat) (a : Nat → Int) (u : Int) (n1 : Nat) (X : Nat → Nat) (n2 : Nat) (Y : Nat → Nat) (ws ys : Value) (w : World) (h : RdV w v n (fun j => .int .i64 (a j))) (hK : Kb K) (hx : Rd w .u8 ws n1 X) (hy : Rd w .u8 ys n2 Y) (hx6 : ∀ j, j < n1 → X j < 256) (hy6 : ∀ j, j < n2 → Y j < 256) :
    Calls Try.prog 4 #[scV U Bs v K, .int .i64 u, ws, ys] w fun e w' => e = .returned (.bool true) ∧ Below w.heap.size w w' := by
  have H1 := Lib.hid (fun W (hb : Below w.heap.size w W) => scoreWordE_any U Bs v K n a u W (h.below hb) hK)
  have H2 := Lib.hid (fun W (hb : Below w.heap.size w W) => refScoreWord_any U Bs v K n a u W (h.below hb) hK)
  have H3 := Lib.hid (fun W (hb : Below w.heap.size w W) => checkScores_any U Bs v K n a W (h.below hb))
  have H4 := Lib.hid (fun W (hb : Below w.heap.size w W) => refCheckScores_any U Bs v K n a W (h.below hb))
  have H5 := Lib.hid (fun W (hb : Below w.heap.size w W) => scoreE_any U Bs v K n a n1 X n2 Y ws ys W (h.below hb) (hx.below hb) (hy.below hb) hx6 hy6)
  have H6 := Lib.hid (fun W (hb : Below w.heap.size w W) => refScore_any U Bs v K n a n1 X n2 Y ws ys W (h.below hb) (hx.below hb) (hy.below hb) hx6 hy6)
  obtain ⟨A, cap, rfl, _, _, h3⟩ := h
  obtain ⟨A1, cap1, rfl, _, _, h4⟩ := hx
  obtain ⟨A2, cap2, rfl, _, _, h5⟩ := hy
  clear h3 h4 h5 hx6 hy6 hK
  have HS := Lib.hid (sc_row w U Bs (.slice A n cap) K 34)
  have HB0 := Lib.hid ((Below.refl w.heap.size w).alloc (Nat.le_refl _) (.cells #[.int .i64 U, .int .i64 Bs, .slice A n cap, .int .u8 (K 0), .int .u8 (K 1), .int .u8 (K 2), .int .u8 (K 3), .int .u8 (K 4), .int .u8 (K 5), .int .u8 (K 6), .int .u8 (K 7), .int .u8 (K 8), .int .u8 (K 9), .int .u8 (K 10), .int .u8 (K 11), .int .u8 (K 12), .int .u8 (K 13), .int .u8 (K 14), .int .u8 (K 15)] 34))
  go_enter Try.func4, Try.ntmps4
  go_wp2_with (refine wp_load_whole rfl 34 _ rfl w.heap.size rfl 34 19 _ _ _ HS.out rfl (sc_cs _ _ _ _) Try.underlying34 rfl sc_size ?_)
  refine (H1.out _ HB0.out).mono ?_
  rintro e w1 ⟨sl1, rfl, hr1, hb1⟩
  have HS1 := Lib.hid (HS.out.of_block (hb1.block _ HS.out.lt))
  have HB1 := Lib.hid (HB0.out.trans (hb1.mono (by simp)))
  have HR1 := Lib.hid hr1
  clear hr1 hb1
  go_wp2_with (refine wp_load_whole rfl 34 _ rfl w.heap.size rfl 34 19 _ _ _ HS1.out rfl (sc_cs _ _ _ _) Try.underlying34 rfl sc_size ?_)
  refine (H2.out _ HB1.out).mono ?_
  rintro e w2 ⟨sl2, rfl, hr2, hb2⟩
  have HS2 := Lib.hid (HS1.out.of_block (hb2.block _ HS1.out.lt))
  have HB2 := Lib.hid (HB1.out.trans (hb2.mono HB1.out.size))
  have HR2 := Lib.hid hr2
  have HR12 := Lib.hid (HR1.out.below hb2)
  clear hr2 hb2
  have q1 : ∀ d os, _ := fun d os => run_conv_str (P := Try.prog) (HR12.out.below (below_regrown w2 d os)) 23 5 9 Try.underlying23 Try.underlying5 Try.underlying9
  have q2 : ∀ d os, _ := fun d os => run_conv_str (P := Try.prog) (HR2.out.below (below_regrown w2 d os)) 23 5 9 Try.underlying23 Try.underlying5 Try.underlying9
  have HQ3 : ∀ d os, Calls Try.prog 10 #[scV U Bs (.slice A n cap) K] (grow (redrawn w2 d) os) fun e w'' => e = .returned (.int .i64 (scE U Bs n a)) ∧ ∃ p : Regrown, w'' = grow (redrawn w2 p.d) p.os := fun d os => Calls.regrown_of (H3.out _ (HB2.out.trans ((below_regrown w2 d os).mono HB2.out.size)))
  have HQ4 : ∀ d os, Calls Try.prog 11 #[scV U Bs (.slice A n cap) K] (grow (redrawn w2 d) os) fun e w'' => e = .returned (.int .i64 (scE U Bs n a)) ∧ ∃ p : Regrown, w'' = grow (redrawn w2 p.d) p.os := fun d os => Calls.regrown_of (H4.out _ (HB2.out.trans ((below_regrown w2 d os).mono HB2.out.size)))
  have HQ3 := Lib.hid HQ3
  have HQ4 := Lib.hid HQ4
  generalize strF (swF K Bs a u) (swL U Bs n a u) = S at *
  go_wp2
  refine wp_region_quiet_below (by kernel_rfl) (by kernel_rfl) ?_
  repeat (quiet_step (fail))
  refine quiet_load_cells rfl 34 _ rfl w.heap.size 0 rfl 19 _ _ _ (fun W hW j hj => by obtain ⟨p, rfl⟩ := hW; rw [Nat.zero_add]; exact cell_regrown (HS2.out.cell hj) _ _) rfl (sc_cs _ _ _ _) Try.underlying34 rfl sc_size ?_
  quiet_step (exact HQ3.out _ _)
  refine quiet_load_cells rfl 34 _ rfl w.heap.size 0 rfl 19 _ _ _ (fun W hW j hj => by obtain ⟨p, rfl⟩ := hW; rw [Nat.zero_add]; exact cell_regrown (HS2.out.cell hj) _ _) rfl (sc_cs _ _ _ _) Try.underlying34 rfl sc_size ?_
  quiet_step (exact HQ4.out _ _)
  repeat (quiet_step (fail))
  refine wpQuiet_nil ?_
  intro w3 hw3
  have hb3 : Below w2.heap.size w2 w3 := by obtain ⟨p, rfl⟩ := hw3; exact below_regrown _ _ _
  have HS3 := Lib.hid (HS2.out.of_block (hb3.block _ HS2.out.lt))
  have HB3 := Lib.hid (HB2.out.trans (hb3.mono HB2.out.size))
  clear hb3 hw3 q1 q2
  go_wp2_with (refine wp_load_whole rfl 34 _ rfl w.heap.size rfl 34 19 _ _ _ HS3.out rfl (sc_cs _ _ _ _) Try.underlying34 rfl sc_size ?_)
  refine (H5.out _ HB3.out).mono ?_
  rintro e w4 ⟨rfl, hb4⟩
  have HS4 := Lib.hid (HS3.out.of_block (hb4.block _ HS3.out.lt))
  have HB4 := Lib.hid (HB3.out.trans (hb4.mono HB3.out.size))
  clear hb4
  go_wp2_with (refine wp_load_whole rfl 34 _ rfl w.heap.size rfl 34 19 _ _ _ HS4.out rfl (sc_cs _ _ _ _) Try.underlying34 rfl sc_size ?_)
  refine (H6.out _ HB4.out).mono ?_
  rintro e w5 ⟨rfl, hb5⟩
  have HB5 := Lib.hid (HB4.out.trans (hb5.mono HB4.out.size))
  clear hb5
  go_wp2
  go_ret
  exact ⟨rfl, HB5.out⟩
end Go.Proofs.Ytmbokpfgnicboaa
