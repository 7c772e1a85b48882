import Derived.Test.YtmbokpfgnicboaaC6
import Derived.Test.YtmbokpfgnicboaaC5
set_option linter.unusedVariables false
set_option linter.unusedSimpArgs false
/- The walks of the specification of the cipher: blocks. -/
namespace Go.Proofs.Ytmbokpfgnicboaa
open Go.RowKit Go.Hd _root_.Hd

theorem range_append_map {α : Type} (F G : Nat → α) (a b : Nat) : (List.range a).map F ++ (List.range b).map G = (List.range (a + b)).map (fun j => if j < a then F j else G (j - a)) := by
  rw [List.range_add, List.map_append, List.map_map]
  congr 1
  · apply List.map_congr_left
    intro j hj
    rw [List.mem_range] at hj
    rw [if_pos hj]
  · apply List.map_congr_left
    intro j _
    show _ = (if a + j < a then _ else _)
    rw [if_neg (by omega), Nat.add_sub_cancel_left]

theorem own_key {w : World} {base : Nat} {v : Value} {n : Nat} {f : Nat → Nat} {L : List Value} (h : w.ownsRow base 5 1 v n L) (hn : n = 16) (hL : L = (List.range 16).map fun j => .int .u8 (f j : Nat)) : Rd w .u8 v 16 f := by
  subst hn hL
  exact rd_of_own h

set_option maxRecDepth 100000 in
set_option maxHeartbeats 2000000 in
theorem refBlk_any (x y : Nat) (w : World) (hx : x < W64) (hy : y < W64) :
    Calls Try.prog 107 #[.int .u64 x, .int .u64 y] w fun e w' => e = .returned (keyV (blockN (x, y))) ∧ Below w.heap.size w w' := by
  have HX := Lib.hid hx
  have HY := Lib.hid hy
  clear hx hy
  go_enter Try.func107, Try.ntmps107
  go_wp2_with fail
  refine (refBytes_any x 8 _ HX.out (by omega)).mono ?_
  rintro e w1 ⟨v1, rfl, ho1, hb1⟩
  obtain ⟨A1, c1, rfl⟩ := own_slice ho1
  have HO1 := Lib.hid ho1
  have HB1 := Lib.hid hb1
  clear ho1 hb1
  go_wp2_with fail
  refine (refBytes_any y 8 _ HY.out (by omega)).mono ?_
  rintro e w2 ⟨v2, rfl, ho2, hb2⟩
  obtain ⟨A2, c2, rfl⟩ := own_slice ho2
  have HO2 := Lib.hid ho2
  have HO12 := Lib.hid (own_below HO1.out hb2)
  have hz1 := zero_cells w w1 (by have := HB1.out; rw [World.size_alloc] at this; exact this)
  have HZ2 := Lib.hid (hz1.of_block (hb2.block _ hz1.lt))
  have hs1 := HB1.out.size
  rw [World.size_alloc] at hs1
  have hs2 := hb2.size
  have HB2 := Lib.hid ((((Below.refl w.heap.size w).alloc (Nat.le_refl _) _).trans (HB1.out.mono (by simp))).trans (hb2.mono (by omega)))
  clear ho2 hb2 hz1
  go_wp2_with (at_builtin; refine wp_app (w.alloc (.cells #[.int .u8 0, .int .u8 0, .int .u8 0, .int .u8 0, .int .u8 0, .int .u8 0, .int .u8 0, .int .u8 0, .int .u8 0, .int .u8 0, .int .u8 0, .int .u8 0, .int .u8 0, .int .u8 0, .int .u8 0, .int .u8 0] 32)).heap.size rfl (.tmp 6) (.tmp 8) 23 5 (.int .u8 0) 1 rfl Try.underlying23 infoU8 rfl (by decide) (.slice A1 8 c1) ((List.range 8).map fun j => .int .u8 (byt x 8 j : Nat)) rfl _ 8 _ rfl (rd_of_own HO2.out).toV (fun _ _ => rfl) (by rw [List.length_map, List.length_range]; exact HO12.out) (by simp; omega) (by simp) ?_; intro v3 w3 hown3 hg3; have HO3 := Lib.hid hown3; have HG3 := Lib.hid hg3; clear hown3 hg3)
  have hB3 := below_own (Below.refl _ w2) HO12.out HG3.out (by simp; omega)
  rw [World.size_alloc] at hB3
  have hs3 := hB3.size
  have HZ3 := Lib.hid (HZ2.out.of_block (hB3.block _ (by omega)))
  have HB3 := Lib.hid (HB2.out.trans (hB3.mono (by omega)))
  have HL : (List.range 8).map (fun j => Value.int .u8 (byt x 8 j : Nat)) ++ (List.range 8).map (fun j => Value.int .u8 (byt y 8 j : Nat)) = (List.range 16).map fun j => Value.int .u8 (blockN (x, y) j : Nat) := by
    rw [range_append_map]
    apply List.map_congr_left
    intro j hj
    rw [List.mem_range] at hj
    unfold blockN
    by_cases h : j < 8
    · rw [if_pos h, if_pos h, byt_8 h]
    · rw [if_neg h, if_neg h, byt_8 (by omega)]
  have HRk := Lib.hid (own_key HO3.out (by simp) HL)
  clear hB3 HL
  refine (refKey_any (blockN (x, y)) v3 w3 HRk.out).mono ?_
  rintro e w4 ⟨rfl, hb4⟩
  have hz4 := HZ3.out.of_block (hb4.block _ HZ3.out.lt)
  have HZ4 := Lib.hid hz4
  have HB4 := Lib.hid (HB3.out.trans (hb4.mono (by omega)))
  (have := (hz4).cell (i := 0) (by omega); have := (hz4).cell (i := 1) (by omega); have := (hz4).cell (i := 2) (by omega); have := (hz4).cell (i := 3) (by omega); have := (hz4).cell (i := 4) (by omega); have := (hz4).cell (i := 5) (by omega); have := (hz4).cell (i := 6) (by omega); have := (hz4).cell (i := 7) (by omega); have := (hz4).cell (i := 8) (by omega); have := (hz4).cell (i := 9) (by omega); have := (hz4).cell (i := 10) (by omega); have := (hz4).cell (i := 11) (by omega); have := (hz4).cell (i := 12) (by omega); have := (hz4).cell (i := 13) (by omega); have := (hz4).cell (i := 14) (by omega); have := (hz4).cell (i := 15) (by omega))
  (have := (hz4).frozen 0; have := (hz4).frozen 1; have := (hz4).frozen 2; have := (hz4).frozen 3; have := (hz4).frozen 4; have := (hz4).frozen 5; have := (hz4).frozen 6; have := (hz4).frozen 7; have := (hz4).frozen 8; have := (hz4).frozen 9; have := (hz4).frozen 10; have := (hz4).frozen 11; have := (hz4).frozen 12; have := (hz4).frozen 13; have := (hz4).frozen 14; have := (hz4).frozen 15)
  clear hz4 hb4
  go_wp2
  refine bodyPost_ret (v := keyV (blockN (x, y))) ?_ rfl ⟨rfl, ?_⟩
  · exact key_result rfl _ _ w.heap.size _ rfl (row16_set HZ4.out (fun i => .int .u8 (blockN (x, y) i)))
  · exact below16_set HB4.out (Nat.le_refl _) (fun i => .int .u8 (blockN (x, y) i))

set_option maxRecDepth 100000 in
set_option maxHeartbeats 2000000 in
theorem refBlock_any (tag n : Nat) (w : World) (ht : tag < 256) (hn : n < W64) :
    Calls Try.prog 79 #[.int .u8 tag, .int .u64 0, .int .u64 n] w fun e w' => e = .returned (keyV (blockN (tagW tag, n))) ∧ Below w.heap.size w w' := by
  have HT := Lib.hid ht
  have HN := Lib.hid hn
  have h0 := refBytes_any 0 7
  have H0 := Lib.hid h0
  clear ht hn h0
  go_enter Try.func79, Try.ntmps79
  go_wp2_with fail
  refine (H0.out _ (by decide) (by omega)).mono ?_
  rintro e w1 ⟨v1, rfl, ho1, hb1⟩
  obtain ⟨A1, c1, rfl⟩ := own_slice ho1
  have hlit := World.ownsRow_lit (base := w.heap.size + 1) (e := 5) (size := 1) (w.alloc (.cells #[.int .u8 0, .int .u8 0, .int .u8 0, .int .u8 0, .int .u8 0, .int .u8 0, .int .u8 0, .int .u8 0, .int .u8 0, .int .u8 0, .int .u8 0, .int .u8 0, .int .u8 0, .int .u8 0, .int .u8 0, .int .u8 0] 32)) #[.int .u8 (tag : Int)] 1 (by simp) (by unfold maxLen; omega) rfl
  rw [World.size_alloc] at hlit
  have hz0 := (zero_row w (fun _ => 0) (fun _ _ => rfl) 32).alloc (.cells #[.int .u8 (tag : Int)] 5)
  have HZ1 := Lib.hid (hz0.of_block (hb1.block _ hz0.lt))
  have HL1 := Lib.hid (own_below hlit hb1)
  have HR1 := Lib.hid (rd_of_own ho1).toV
  have hs1 := hb1.size
  rw [World.size_alloc, World.size_alloc] at hs1
  have HB1 := Lib.hid ((((Below.refl w.heap.size w).alloc (Nat.le_refl _) (.cells #[.int .u8 0, .int .u8 0, .int .u8 0, .int .u8 0, .int .u8 0, .int .u8 0, .int .u8 0, .int .u8 0, .int .u8 0, .int .u8 0, .int .u8 0, .int .u8 0, .int .u8 0, .int .u8 0, .int .u8 0, .int .u8 0] 32)).alloc (by simp) (.cells #[.int .u8 (tag : Int)] 5)).trans (hb1.mono (by simp; omega)))
  clear ho1 hb1 hlit hz0
  go_wp2_with (at_builtin; refine wp_app (w.heap.size + 1) rfl (.tmp 9) (.tmp 11) 23 5 (.int .u8 0) 1 rfl Try.underlying23 infoU8 rfl (by decide) (.slice (some ⟨w.heap.size + 1, 0, none⟩) 1 1) [.int .u8 (tag : Int)] rfl _ 7 _ rfl HR1.out (fun _ _ => rfl) HL1.out (by omega) (by simp) ?_; intro v3 w3 hown3 hg3; have HO3 := Lib.hid hown3; have HG3 := Lib.hid hg3; clear hown3 hg3)
  have hB3 := below_own (Below.refl _ w1) HL1.out HG3.out (by omega)
  have hs3 := hB3.size
  have hz3 := HZ1.out.of_block (hB3.block _ (by omega))
  have hb3 := HB1.out.trans (hB3.mono (by omega))
  refine (refBytes_any n 8 _ HN.out (by omega)).mono ?_
  rintro e w4 ⟨v4, rfl, ho4, hb4⟩
  obtain ⟨A4, c4, rfl⟩ := own_slice ho4
  have HO34 := Lib.hid (own_below HO3.out hb4)
  have HR4 := Lib.hid (rd_of_own ho4).toV
  have HZ4 := Lib.hid (hz3.of_block (hb4.block _ hz3.lt))
  have hs4 := hb4.size
  have HB4 := Lib.hid (hb3.trans (hb4.mono (by omega)))
  clear ho4 hb4 hB3 hz3 hb3
  go_wp2_with (at_builtin; refine wp_app (w.heap.size + 1) rfl (.tmp 13) (.tmp 15) 23 5 (.int .u8 0) 1 rfl Try.underlying23 infoU8 rfl (by decide) v3 ([.int .u8 (tag : Int)] ++ (List.range 7).map fun j => .int .u8 (byt 0 7 j : Nat)) rfl _ 8 _ rfl HR4.out (fun _ _ => rfl) (by simpa using HO34.out) (by omega) (by simp) ?_; intro v5 w5 hown5 hg5; have HO5 := Lib.hid hown5; have HG5 := Lib.hid hg5; clear hown5 hg5)
  have hB5 := below_own (Below.refl _ w4) HO34.out HG5.out (by omega)
  have hs5 := hB5.size
  have HZ5 := Lib.hid (HZ4.out.of_block (hB5.block _ (by omega)))
  have HB5 := Lib.hid (HB4.out.trans (hB5.mono (by omega)))
  have HL : ([.int .u8 (tag : Int)] ++ (List.range 7).map fun j => Value.int .u8 (byt 0 7 j : Nat)) ++ (List.range 8).map (fun j => Value.int .u8 (byt n 8 j : Nat)) = (List.range 16).map fun j => Value.int .u8 (blockN (tagW tag, n) j : Nat) := by
    have ht := HT.out
    have e1 : ([.int .u8 (tag : Int)] ++ (List.range 7).map fun j => Value.int .u8 (byt 0 7 j : Nat)) = (List.range 8).map (fun j => Value.int .u8 (byt (tagW tag) 8 j : Nat)) := by
      have z : ∀ j, byt 0 7 j = 0 := fun j => by simp [byt]
      have t : ∀ j, j < 7 → byt (tagW tag) 8 (j + 1) = 0 := fun j hj => by
        unfold byt tagW
        rw [show (56 : Nat) = 8 * (8 - 1 - (j + 1)) + 8 * (j + 1) by omega, Nat.pow_add, Nat.pow_mul, ← Nat.mul_assoc, Nat.mul_right_comm, Nat.mul_div_cancel _ (Nat.pow_pos (by decide)), Nat.pow_mul, show j + 1 = Nat.succ j from rfl, Nat.pow_succ, ← Nat.mul_assoc]
        exact Nat.mul_mod_left _ _
      have t0 : byt (tagW tag) 8 0 = tag := by
        unfold byt tagW
        rw [show (2 : Nat) ^ 56 = 256 ^ (8 - 1 - 0) by decide, Nat.mul_div_cancel _ (Nat.pow_pos (by decide)), Nat.mod_eq_of_lt ht]
      rw [show List.range 8 = 0 :: (List.range 7).map Nat.succ from List.range_succ_eq_map, List.map_cons, List.map_map, List.singleton_append, t0]
      refine congrArg _ ?_
      apply List.map_congr_left
      intro j hj
      rw [List.mem_range] at hj
      show Value.int .u8 (byt 0 7 j : Nat) = Value.int .u8 (byt (tagW tag) 8 (j + 1) : Nat)
      rw [z, t j hj]
    rw [e1, range_append_map]
    apply List.map_congr_left
    intro j hj
    rw [List.mem_range] at hj
    unfold blockN
    by_cases h : j < 8
    · rw [if_pos h, if_pos h, byt_8 h]
    · rw [if_neg h, if_neg h, byt_8 (by omega)]
  have HRk := Lib.hid (own_key HO5.out (by simp) HL)
  clear hB5 HL
  refine (refKey_any (blockN (tagW tag, n)) v5 w5 HRk.out).mono ?_
  rintro e w6 ⟨rfl, hb6⟩
  have hz6 := HZ5.out.of_block (hb6.block _ HZ5.out.lt)
  have HZ6 := Lib.hid hz6
  have HB6 := Lib.hid (HB5.out.trans (hb6.mono (by omega)))
  (have := (hz6).cell (i := 0) (by omega); have := (hz6).cell (i := 1) (by omega); have := (hz6).cell (i := 2) (by omega); have := (hz6).cell (i := 3) (by omega); have := (hz6).cell (i := 4) (by omega); have := (hz6).cell (i := 5) (by omega); have := (hz6).cell (i := 6) (by omega); have := (hz6).cell (i := 7) (by omega); have := (hz6).cell (i := 8) (by omega); have := (hz6).cell (i := 9) (by omega); have := (hz6).cell (i := 10) (by omega); have := (hz6).cell (i := 11) (by omega); have := (hz6).cell (i := 12) (by omega); have := (hz6).cell (i := 13) (by omega); have := (hz6).cell (i := 14) (by omega); have := (hz6).cell (i := 15) (by omega))
  (have := (hz6).frozen 0; have := (hz6).frozen 1; have := (hz6).frozen 2; have := (hz6).frozen 3; have := (hz6).frozen 4; have := (hz6).frozen 5; have := (hz6).frozen 6; have := (hz6).frozen 7; have := (hz6).frozen 8; have := (hz6).frozen 9; have := (hz6).frozen 10; have := (hz6).frozen 11; have := (hz6).frozen 12; have := (hz6).frozen 13; have := (hz6).frozen 14; have := (hz6).frozen 15)
  clear hz6 hb6
  go_wp2
  refine bodyPost_ret (v := keyV (blockN (tagW tag, n))) ?_ rfl ⟨rfl, ?_⟩
  · exact key_result rfl _ _ w.heap.size _ rfl (row16_set HZ6.out (fun i => .int .u8 (blockN (tagW tag, n) i)))
  · exact below16_set HB6.out (Nat.le_refl _) (fun i => .int .u8 (blockN (tagW tag, n) i))
end Go.Proofs.Ytmbokpfgnicboaa
