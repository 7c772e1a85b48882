import Derived.Test.YtmbokpfgnicboaaGreatC4
import Derived.Deep.RegionWith
set_option linter.unusedVariables false
set_option linter.unusedSimpArgs false
/- The walks of the cipher: Derive and Number. -/
namespace Go.Proofs.YtmbokpfgnicboaaGreat
open Go.RowKit Go.Hd _root_.Hd

theorem tag_fact (tag : Nat) (h : tag < 256) : bits .or .u64 (IntKind.u64.wrap (IntKind.u64.wrap (tag : Int) * 72057594037927936)) 0 = ((tagW tag : Nat) : Int) := by
  unfold tagW
  have e : IntKind.u64.wrap (IntKind.u64.wrap (tag : Int) * 72057594037927936) = ((tag * 2 ^ 56 : Nat) : Int) := by rw [IntKind.wrap_u64, IntKind.wrap_u64]; omega
  have e2 := u64_or_nat (tag * 2 ^ 56) 0 (by omega) (by omega)
  rw [e]
  rw [Nat.or_zero] at e2
  exact e2

theorem pair_x (a b : Value) (w : World) : (Instr.field 193 (.agg #[a, b]) 0).run Tryz.prog w = .ok a w := by kernel_rfl
/-- A block that a callee handed back, stored as the result. -/
theorem zero_cells (w w1 : World) (hb : Below (w.heap.size + 1) (w.alloc (.cells #[.int .u8 0, .int .u8 0, .int .u8 0, .int .u8 0, .int .u8 0, .int .u8 0, .int .u8 0, .int .u8 0, .int .u8 0, .int .u8 0, .int .u8 0, .int .u8 0, .int .u8 0, .int .u8 0, .int .u8 0, .int .u8 0] 23)) w1) : w1.rowIs w.heap.size 23 16 (fun _ => .int .u8 0) :=
  (zero_row w (fun _ => 0) (fun _ _ => rfl) _).of_block (hb.block _ (by omega))

set_option maxRecDepth 100000 in
set_option maxHeartbeats 2000000 in
theorem blockOf_any (tag n : Nat) (w : World) (ht : tag < 256) (hn : n < W64) :
    Calls Tryz.prog 154 #[.int .u8 tag, .int .u64 0, .int .u64 n] w fun e w' => e = .returned (keyV (blockN (tagW tag, n))) ∧ Below w.heap.size w w' := by
  have HB := Lib.hid (block_any (tagW tag, n))
  have HT := Lib.hid (tag_wd ht hn)
  have HTt := Lib.hid ht
  clear ht hn
  go_enter Tryz.func154, Tryz.ntmps154
  go_wp2_with fail
  rw [tag_fact tag HTt.out]
  refine (HB.out _ HT.out).mono ?_
  rintro e w1 ⟨rfl, hb1⟩
  rw [World.size_alloc] at hb1
  have hr := zero_cells w w1 hb1
  have HR := Lib.hid hr
  have HB1 := Lib.hid hb1
  (have := (hr).cell (i := 0) (by omega); have := (hr).cell (i := 1) (by omega); have := (hr).cell (i := 2) (by omega); have := (hr).cell (i := 3) (by omega); have := (hr).cell (i := 4) (by omega); have := (hr).cell (i := 5) (by omega); have := (hr).cell (i := 6) (by omega); have := (hr).cell (i := 7) (by omega); have := (hr).cell (i := 8) (by omega); have := (hr).cell (i := 9) (by omega); have := (hr).cell (i := 10) (by omega); have := (hr).cell (i := 11) (by omega); have := (hr).cell (i := 12) (by omega); have := (hr).cell (i := 13) (by omega); have := (hr).cell (i := 14) (by omega); have := (hr).cell (i := 15) (by omega))
  (have := (hr).frozen 0; have := (hr).frozen 1; have := (hr).frozen 2; have := (hr).frozen 3; have := (hr).frozen 4; have := (hr).frozen 5; have := (hr).frozen 6; have := (hr).frozen 7; have := (hr).frozen 8; have := (hr).frozen 9; have := (hr).frozen 10; have := (hr).frozen 11; have := (hr).frozen 12; have := (hr).frozen 13; have := (hr).frozen 14; have := (hr).frozen 15)
  clear hr hb1
  go_wp2
  refine bodyPost_ret (v := keyV (blockN (tagW tag, n))) ?_ rfl ⟨rfl, ?_⟩
  · exact key_result rfl _ _ w.heap.size _ rfl (row16_set HR.out (fun i => .int .u8 (blockN (tagW tag, n) i)))
  · exact below16_set (((Below.refl _ _).alloc (Nat.le_refl _) _).trans (HB1.out.mono (by omega))) (Nat.le_refl _) (fun i => .int .u8 (blockN (tagW tag, n) i))

set_option maxRecDepth 100000 in
set_option maxHeartbeats 2000000 in
theorem derive_any (K : Nat → Nat) (tag n : Nat) (w : World) (hK : Kb K) (ht : tag < 256) (hn : n < W64) :
    Calls Tryz.prog 120 #[keyV K, .int .u8 tag, .int .u64 n] w fun e w' => e = .returned (keyV (derN K tag n)) ∧ Below w.heap.size w w' := by
  have HB := Lib.hid (fun W => blockOf_any tag n W ht hn)
  have HE := Lib.hid (fun W => encrypt_any K (blockN (tagW tag, n)) W hK (blockN_kb _))
  have HX := Lib.hid (wordsN_blockN (tag_wd ht hn))
  clear ht hn hK
  have rk := (key_row w K 23).alloc (.cells #[.int .u8 0, .int .u8 0, .int .u8 0, .int .u8 0, .int .u8 0, .int .u8 0, .int .u8 0, .int .u8 0, .int .u8 0, .int .u8 0, .int .u8 0, .int .u8 0, .int .u8 0, .int .u8 0, .int .u8 0, .int .u8 0] 23)
  have rz := zero_row (w.alloc (.cells #[.int .u8 (K 0), .int .u8 (K 1), .int .u8 (K 2), .int .u8 (K 3), .int .u8 (K 4), .int .u8 (K 5), .int .u8 (K 6), .int .u8 (K 7), .int .u8 (K 8), .int .u8 (K 9), .int .u8 (K 10), .int .u8 (K 11), .int .u8 (K 12), .int .u8 (K 13), .int .u8 (K 14), .int .u8 (K 15)] 23)) (fun _ => 0) (fun _ _ => rfl) 23
  have hB0 : Below w.heap.size w ((w.alloc (.cells #[.int .u8 (K 0), .int .u8 (K 1), .int .u8 (K 2), .int .u8 (K 3), .int .u8 (K 4), .int .u8 (K 5), .int .u8 (K 6), .int .u8 (K 7), .int .u8 (K 8), .int .u8 (K 9), .int .u8 (K 10), .int .u8 (K 11), .int .u8 (K 12), .int .u8 (K 13), .int .u8 (K 14), .int .u8 (K 15)] 23)).alloc (.cells #[.int .u8 0, .int .u8 0, .int .u8 0, .int .u8 0, .int .u8 0, .int .u8 0, .int .u8 0, .int .u8 0, .int .u8 0, .int .u8 0, .int .u8 0, .int .u8 0, .int .u8 0, .int .u8 0, .int .u8 0, .int .u8 0] 23)) := by (repeat' (first | (with_reducible exact Below.refl _ _) | (with_reducible assumption) | (with_reducible refine Below.alloc ?_ ?_ _) | (with_reducible refine Below.drew ?_) | (with_reducible refine below_drewN ?_ _) | (with_reducible refine Below.setCell ?_ ?_ _) | omega | (simp only [Go.Hd.size_drewN, World.size_alloc, World.size_setCell, World.size_drew]; omega) | (simp; omega)))
  rw [World.size_alloc] at rz
  go_enter Tryz.func120, Tryz.ntmps120
  go_wp2_with fail
  generalize ((w.alloc (.cells #[.int .u8 (K 0), .int .u8 (K 1), .int .u8 (K 2), .int .u8 (K 3), .int .u8 (K 4), .int .u8 (K 5), .int .u8 (K 6), .int .u8 (K 7), .int .u8 (K 8), .int .u8 (K 9), .int .u8 (K 10), .int .u8 (K 11), .int .u8 (K 12), .int .u8 (K 13), .int .u8 (K 14), .int .u8 (K 15)] 23)).alloc (.cells #[.int .u8 0, .int .u8 0, .int .u8 0, .int .u8 0, .int .u8 0, .int .u8 0, .int .u8 0, .int .u8 0, .int .u8 0, .int .u8 0, .int .u8 0, .int .u8 0, .int .u8 0, .int .u8 0, .int .u8 0, .int .u8 0] 23)) = W at *
  have hlt1 := rk.lt
  have hlt2 := rz.lt
  (have := (rk).cell (i := 0) (by omega); have := (rk).cell (i := 1) (by omega); have := (rk).cell (i := 2) (by omega); have := (rk).cell (i := 3) (by omega); have := (rk).cell (i := 4) (by omega); have := (rk).cell (i := 5) (by omega); have := (rk).cell (i := 6) (by omega); have := (rk).cell (i := 7) (by omega); have := (rk).cell (i := 8) (by omega); have := (rk).cell (i := 9) (by omega); have := (rk).cell (i := 10) (by omega); have := (rk).cell (i := 11) (by omega); have := (rk).cell (i := 12) (by omega); have := (rk).cell (i := 13) (by omega); have := (rk).cell (i := 14) (by omega); have := (rk).cell (i := 15) (by omega))
  have RK := Lib.hid rk
  have RZ := Lib.hid rz
  have HB0 := Lib.hid hB0
  clear rk rz hB0
  go_region_with (first
    | (go_at_call 154
       refine (HB.out _).mono ?_
       rintro e w1 ⟨rfl, hb1⟩
       have hk1 := RK.out.of_block (hb1.block _ hlt1)
       have hz1 := RZ.out.of_block (hb1.block _ hlt2)
       have hB1 := HB0.out.drew.trans (hb1.mono HB0.out.size)
       have HK1 := Lib.hid hk1
       have HZ1 := Lib.hid hz1
       have HB1 := Lib.hid hB1
       (have := (hk1).cell (i := 0) (by omega); have := (hk1).cell (i := 1) (by omega); have := (hk1).cell (i := 2) (by omega); have := (hk1).cell (i := 3) (by omega); have := (hk1).cell (i := 4) (by omega); have := (hk1).cell (i := 5) (by omega); have := (hk1).cell (i := 6) (by omega); have := (hk1).cell (i := 7) (by omega); have := (hk1).cell (i := 8) (by omega); have := (hk1).cell (i := 9) (by omega); have := (hk1).cell (i := 10) (by omega); have := (hk1).cell (i := 11) (by omega); have := (hk1).cell (i := 12) (by omega); have := (hk1).cell (i := 13) (by omega); have := (hk1).cell (i := 14) (by omega); have := (hk1).cell (i := 15) (by omega))
       clear hk1 hz1 hB1 hb1)
    | (go_at_call 153
       refine (HE.out _).mono ?_
       rintro e w2 ⟨rfl, hb2⟩
       have hz2 := HZ1.out.of_block (hb2.block _ HZ1.out.lt)
       have hB2 := HB1.out.trans (hb2.mono HB1.out.size)
       have HZ2 := Lib.hid hz2
       have HB2 := Lib.hid hB2
       (have := (hz2).cell (i := 0) (by omega); have := (hz2).cell (i := 1) (by omega); have := (hz2).cell (i := 2) (by omega); have := (hz2).cell (i := 3) (by omega); have := (hz2).cell (i := 4) (by omega); have := (hz2).cell (i := 5) (by omega); have := (hz2).cell (i := 6) (by omega); have := (hz2).cell (i := 7) (by omega); have := (hz2).cell (i := 8) (by omega); have := (hz2).cell (i := 9) (by omega); have := (hz2).cell (i := 10) (by omega); have := (hz2).cell (i := 11) (by omega); have := (hz2).cell (i := 12) (by omega); have := (hz2).cell (i := 13) (by omega); have := (hz2).cell (i := 14) (by omega); have := (hz2).cell (i := 15) (by omega))
       (have := (hz2).frozen 0; have := (hz2).frozen 1; have := (hz2).frozen 2; have := (hz2).frozen 3; have := (hz2).frozen 4; have := (hz2).frozen 5; have := (hz2).frozen 6; have := (hz2).frozen 7; have := (hz2).frozen 8; have := (hz2).frozen 9; have := (hz2).frozen 10; have := (hz2).frozen 11; have := (hz2).frozen 12; have := (hz2).frozen 13; have := (hz2).frozen 14; have := (hz2).frozen 15)
       clear hz2 hB2 hb2))
  all_goals go_wp2
  all_goals refine bodyPost_ret (v := keyV (blockN (encN K (wordsN (blockN (tagW tag, n))) 32))) ?_ rfl ⟨by rw [HX.out]; rfl, ?_⟩
  all_goals first
    | exact key_result rfl _ _ (w.heap.size + 1) _ rfl (row16_set HZ2.out (fun i => .int .u8 (blockN (encN K (wordsN (blockN (tagW tag, n))) 32) i)))
    | exact below16_set HB2.out (show w.heap.size ≤ w.heap.size + 1 by omega) (fun i => .int .u8 (blockN (encN K (wordsN (blockN (tagW tag, n))) 32) i))

set_option maxRecDepth 100000 in
set_option maxHeartbeats 2000000 in
theorem number_any (K : Nat → Nat) (n most : Nat) (w : World) (hK : Kb K) (hn : n < W64) (hm : most < W64) :
    Calls Tryz.prog 121 #[keyV K, .int .u64 n, .int .u64 most] w fun e w' => e = .returned (.int .u64 (numN K n most)) ∧ Below w.heap.size w w' := by
  have HD := Lib.hid (fun W => derive_any K 3 n W hK (by omega) hn)
  have HW := Lib.hid (fun W => wordsOf_any (derN K 3 n) W (derN_kb _ _ _))
  have HX := Lib.hid (words_derN hK (show 3 < 256 by omega) hn)
  clear hn hK
  by_cases h0 : most = 0
  · subst h0
    go_enter Tryz.func121, Tryz.ntmps121
    go_wp2
    go_ret
    exact ⟨rfl, by (repeat' (first | (with_reducible exact Below.refl _ _) | (with_reducible assumption) | (with_reducible refine Below.alloc ?_ ?_ _) | (with_reducible refine Below.drew ?_) | (with_reducible refine below_drewN ?_ _) | (with_reducible refine Below.setCell ?_ ?_ _) | omega | (simp only [Go.Hd.size_drewN, World.size_alloc, World.size_setCell, World.size_drew]; omega) | (simp; omega)))⟩
  · have h1 : ((most : Int) == 0) = false := by simp; omega
    have h2 : ¬ ((most : Int) = 0) := by omega
    have h3 := pair_x
    go_enter Tryz.func121, Tryz.ntmps121
    go_wp2_with fail
    refine (HD.out _).mono ?_
    rintro e w1 ⟨rfl, hb1⟩
    go_wp2_with fail
    refine (HW.out _).mono ?_
    rintro e w2 ⟨rfl, hb2⟩
    rw [HX.out]
    unfold pairV
    have hb3 : Below w.heap.size w w2 := by
      rw [World.size_alloc] at hb1
      exact (((Below.refl _ w).alloc (Nat.le_refl _) _).trans (hb1.mono (by omega))).trans (hb2.mono (by have := hb1.size; rw [World.size_alloc] at this; omega))
    have HB3 := Lib.hid hb3
    have hnum : Hid (((encN K (tagW 3, n) 32).1 : Int) % (most : Int) = ((numN K n most : Nat) : Int)) := by
      show _ = _
      unfold numN; rw [if_neg h0]; norm_cast
    clear hb1 hb2 hb3
    go_wp2
    go_ret
    exact ⟨by rw [hnum.out]; rfl, HB3.out⟩
end Go.Proofs.YtmbokpfgnicboaaGreat
