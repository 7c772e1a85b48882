import Derived.Test.YtmbokpfgnicboaaGreatC6
import Derived.Test.YtmbokpfgnicboaaGreatC5
import Derived.Deep.RegionWith
set_option linter.unusedVariables false
set_option linter.unusedSimpArgs false
/- The walks of the specification of the cipher: blocks. -/
namespace Go.Proofs.YtmbokpfgnicboaaGreat
open Go.RowKit Go.Hd _root_.Hd

theorem range_append_map {α : Type} (F G : Nat → α) (a b : Nat) : (List.range a).map F ++ (List.range b).map G = (List.range (a + b)).map (fun j => if j < a then F j else G (j - a)) := by
  rw [List.range_add, List.map_append, List.map_map]
  congr 1
  · apply List.map_congr_left
    intro j hj
    rw [List.mem_range] at hj
    rw [if_pos hj]
  · apply List.map_congr_left
    intro j _
    show _ = (if a + j < a then _ else _)
    rw [if_neg (by omega), Nat.add_sub_cancel_left]

theorem own_key {w : World} {base : Nat} {v : Value} {n : Nat} {f : Nat → Nat} {L : List Value} (h : w.ownsRow base 5 1 v n L) (hn : n = 16) (hL : L = (List.range 16).map fun j => .int .u8 (f j : Nat)) : Rd w .u8 v 16 f := by
  subst hn hL
  exact rd_of_own h

set_option maxRecDepth 100000 in
set_option maxHeartbeats 2000000 in
theorem refBlk_any (x y : Nat) (w : World) (hx : x < W64) (hy : y < W64) :
    Calls Tryz.prog 169 #[.int .u64 x, .int .u64 y] w fun e w' => e = .returned (keyV (blockN (x, y))) ∧ Below w.heap.size w w' := by
  have HX := Lib.hid hx
  have HY := Lib.hid hy
  clear hx hy
  go_enter Tryz.func169, Tryz.ntmps169
  go_wp2_with fail
  refine (refBytes_any x 8 _ HX.out (by omega)).mono ?_
  rintro e w1 ⟨v1, rfl, ho1, hb1⟩
  obtain ⟨A1, c1, rfl⟩ := own_slice ho1
  have HO1 := Lib.hid ho1
  have HB1 := Lib.hid hb1
  clear ho1 hb1
  go_wp2_with fail
  refine (refBytes_any y 8 _ HY.out (by omega)).mono ?_
  rintro e w2 ⟨v2, rfl, ho2, hb2⟩
  obtain ⟨A2, c2, rfl⟩ := own_slice ho2
  have HO2 := Lib.hid ho2
  have HO12 := Lib.hid (own_below HO1.out hb2)
  have hz1 := zero_cells w w1 (by have := HB1.out; rw [World.size_alloc] at this; exact this)
  have HZ2 := Lib.hid (hz1.of_block (hb2.block _ hz1.lt))
  have hs1 := HB1.out.size
  rw [World.size_alloc] at hs1
  have hs2 := hb2.size
  have HB2 := Lib.hid ((((Below.refl w.heap.size w).alloc (Nat.le_refl _) _).trans (HB1.out.mono (by simp))).trans (hb2.mono (by omega)))
  clear ho2 hb2 hz1
  go_wp2_with (at_builtin; refine wp_app (w.alloc (.cells #[.int .u8 0, .int .u8 0, .int .u8 0, .int .u8 0, .int .u8 0, .int .u8 0, .int .u8 0, .int .u8 0, .int .u8 0, .int .u8 0, .int .u8 0, .int .u8 0, .int .u8 0, .int .u8 0, .int .u8 0, .int .u8 0] 23)).heap.size rfl (.tmp 6) (.tmp 8) 30 5 (.int .u8 0) 1 rfl Tryz.underlying30 infoU8 rfl (by decide) (.slice A1 8 c1) ((List.range 8).map fun j => .int .u8 (byt x 8 j : Nat)) rfl _ 8 _ rfl (rd_of_own HO2.out).toV (fun _ _ => rfl) (by rw [List.length_map, List.length_range]; exact HO12.out) (by simp; omega) (by simp) ?_; intro v3 w3 hown3 hg3; have HO3 := Lib.hid hown3; have HG3 := Lib.hid hg3; clear hown3 hg3)
  have hB3 := below_own (Below.refl _ w2) HO12.out HG3.out (by simp; omega)
  rw [World.size_alloc] at hB3
  have hs3 := hB3.size
  have HZ3 := Lib.hid (HZ2.out.of_block (hB3.block _ (by omega)))
  have HB3 := Lib.hid (HB2.out.trans (hB3.mono (by omega)))
  have HL : (List.range 8).map (fun j => Value.int .u8 (byt x 8 j : Nat)) ++ (List.range 8).map (fun j => Value.int .u8 (byt y 8 j : Nat)) = (List.range 16).map fun j => Value.int .u8 (blockN (x, y) j : Nat) := by
    rw [range_append_map]
    apply List.map_congr_left
    intro j hj
    rw [List.mem_range] at hj
    unfold blockN
    by_cases h : j < 8
    · rw [if_pos h, if_pos h, byt_8 h]
    · rw [if_neg h, if_neg h, byt_8 (by omega)]
  have HRk := Lib.hid (own_key HO3.out (by simp) HL)
  clear hB3 HL
  refine (refKey_any (blockN (x, y)) v3 w3 HRk.out).mono ?_
  rintro e w4 ⟨rfl, hb4⟩
  have hz4 := HZ3.out.of_block (hb4.block _ HZ3.out.lt)
  have HZ4 := Lib.hid hz4
  have HB4 := Lib.hid (HB3.out.trans (hb4.mono (by omega)))
  (have := (hz4).cell (i := 0) (by omega); have := (hz4).cell (i := 1) (by omega); have := (hz4).cell (i := 2) (by omega); have := (hz4).cell (i := 3) (by omega); have := (hz4).cell (i := 4) (by omega); have := (hz4).cell (i := 5) (by omega); have := (hz4).cell (i := 6) (by omega); have := (hz4).cell (i := 7) (by omega); have := (hz4).cell (i := 8) (by omega); have := (hz4).cell (i := 9) (by omega); have := (hz4).cell (i := 10) (by omega); have := (hz4).cell (i := 11) (by omega); have := (hz4).cell (i := 12) (by omega); have := (hz4).cell (i := 13) (by omega); have := (hz4).cell (i := 14) (by omega); have := (hz4).cell (i := 15) (by omega))
  (have := (hz4).frozen 0; have := (hz4).frozen 1; have := (hz4).frozen 2; have := (hz4).frozen 3; have := (hz4).frozen 4; have := (hz4).frozen 5; have := (hz4).frozen 6; have := (hz4).frozen 7; have := (hz4).frozen 8; have := (hz4).frozen 9; have := (hz4).frozen 10; have := (hz4).frozen 11; have := (hz4).frozen 12; have := (hz4).frozen 13; have := (hz4).frozen 14; have := (hz4).frozen 15)
  clear hz4 hb4
  go_wp2
  refine bodyPost_ret (v := keyV (blockN (x, y))) ?_ rfl ⟨rfl, ?_⟩
  · exact key_result rfl _ _ w.heap.size _ rfl (row16_set HZ4.out (fun i => .int .u8 (blockN (x, y) i)))
  · exact below16_set HB4.out (Nat.le_refl _) (fun i => .int .u8 (blockN (x, y) i))

set_option maxRecDepth 100000 in
set_option maxHeartbeats 2000000 in
theorem refBlock_any (tag n : Nat) (w : World) (ht : tag < 256) (hn : n < W64) :
    Calls Tryz.prog 144 #[.int .u8 tag, .int .u64 0, .int .u64 n] w fun e w' => e = .returned (keyV (blockN (tagW tag, n))) ∧ Below w.heap.size w w' := by
  have HT := Lib.hid ht
  have HN := Lib.hid hn
  have h0 := refBytes_any 0 7
  have H0 := Lib.hid h0
  clear ht hn h0
  go_enter Tryz.func144, Tryz.ntmps144
  go_wp2_with fail
  refine (H0.out _ (by decide) (by omega)).mono ?_
  rintro e w1 ⟨v1, rfl, ho1, hb1⟩
  obtain ⟨A1, c1, rfl⟩ := own_slice ho1
  have hlit := World.ownsRow_lit (base := w.heap.size + 1) (e := 5) (size := 1) (w.alloc (.cells #[.int .u8 0, .int .u8 0, .int .u8 0, .int .u8 0, .int .u8 0, .int .u8 0, .int .u8 0, .int .u8 0, .int .u8 0, .int .u8 0, .int .u8 0, .int .u8 0, .int .u8 0, .int .u8 0, .int .u8 0, .int .u8 0] 23)) #[.int .u8 (tag : Int)] 1 (by simp) (by unfold maxLen; omega) rfl
  rw [World.size_alloc] at hlit
  have hz0 := (zero_row w (fun _ => 0) (fun _ _ => rfl) 23).alloc (.cells #[.int .u8 (tag : Int)] 5)
  have HZ1 := Lib.hid (hz0.of_block (hb1.block _ hz0.lt))
  have HL1 := Lib.hid (own_below hlit hb1)
  have HR1 := Lib.hid (rd_of_own ho1).toV
  have hs1 := hb1.size
  rw [World.size_alloc, World.size_alloc] at hs1
  have HB1 := Lib.hid ((((Below.refl w.heap.size w).alloc (Nat.le_refl _) (.cells #[.int .u8 0, .int .u8 0, .int .u8 0, .int .u8 0, .int .u8 0, .int .u8 0, .int .u8 0, .int .u8 0, .int .u8 0, .int .u8 0, .int .u8 0, .int .u8 0, .int .u8 0, .int .u8 0, .int .u8 0, .int .u8 0] 23)).alloc (by simp) (.cells #[.int .u8 (tag : Int)] 5)).trans (hb1.mono (by simp; omega)))
  clear ho1 hb1 hlit hz0
  go_wp2_with (at_builtin; refine wp_app (w.heap.size + 1) rfl (.tmp 9) (.tmp 11) 30 5 (.int .u8 0) 1 rfl Tryz.underlying30 infoU8 rfl (by decide) (.slice (some ⟨w.heap.size + 1, 0, none⟩) 1 1) [.int .u8 (tag : Int)] rfl _ 7 _ rfl HR1.out (fun _ _ => rfl) HL1.out (by omega) (by simp) ?_; intro v3 w3 hown3 hg3; have HO3 := Lib.hid hown3; have HG3 := Lib.hid hg3; clear hown3 hg3)
  have hB3 := below_own (Below.refl _ w1) HL1.out HG3.out (by omega)
  have hs3 := hB3.size
  have hz3 := HZ1.out.of_block (hB3.block _ (by omega))
  have hb3 := HB1.out.trans (hB3.mono (by omega))
  refine (refBytes_any n 8 _ HN.out (by omega)).mono ?_
  rintro e w4 ⟨v4, rfl, ho4, hb4⟩
  obtain ⟨A4, c4, rfl⟩ := own_slice ho4
  have HO34 := Lib.hid (own_below HO3.out hb4)
  have HR4 := Lib.hid (rd_of_own ho4).toV
  have HZ4 := Lib.hid (hz3.of_block (hb4.block _ hz3.lt))
  have hs4 := hb4.size
  have HB4 := Lib.hid (hb3.trans (hb4.mono (by omega)))
  clear ho4 hb4 hB3 hz3 hb3
  go_wp2_with (at_builtin; refine wp_app (w.heap.size + 1) rfl (.tmp 13) (.tmp 15) 30 5 (.int .u8 0) 1 rfl Tryz.underlying30 infoU8 rfl (by decide) v3 ([.int .u8 (tag : Int)] ++ (List.range 7).map fun j => .int .u8 (byt 0 7 j : Nat)) rfl _ 8 _ rfl HR4.out (fun _ _ => rfl) (by simpa using HO34.out) (by omega) (by simp) ?_; intro v5 w5 hown5 hg5; have HO5 := Lib.hid hown5; have HG5 := Lib.hid hg5; clear hown5 hg5)
  have hB5 := below_own (Below.refl _ w4) HO34.out HG5.out (by omega)
  have hs5 := hB5.size
  have HZ5 := Lib.hid (HZ4.out.of_block (hB5.block _ (by omega)))
  have HB5 := Lib.hid (HB4.out.trans (hB5.mono (by omega)))
  have HL : ([.int .u8 (tag : Int)] ++ (List.range 7).map fun j => Value.int .u8 (byt 0 7 j : Nat)) ++ (List.range 8).map (fun j => Value.int .u8 (byt n 8 j : Nat)) = (List.range 16).map fun j => Value.int .u8 (blockN (tagW tag, n) j : Nat) := by
    have ht := HT.out
    have e1 : ([.int .u8 (tag : Int)] ++ (List.range 7).map fun j => Value.int .u8 (byt 0 7 j : Nat)) = (List.range 8).map (fun j => Value.int .u8 (byt (tagW tag) 8 j : Nat)) := by
      have z : ∀ j, byt 0 7 j = 0 := fun j => by simp [byt]
      have t : ∀ j, j < 7 → byt (tagW tag) 8 (j + 1) = 0 := fun j hj => by
        unfold byt tagW
        rw [show (56 : Nat) = 8 * (8 - 1 - (j + 1)) + 8 * (j + 1) by omega, Nat.pow_add, Nat.pow_mul, ← Nat.mul_assoc, Nat.mul_right_comm, Nat.mul_div_cancel _ (Nat.pow_pos (by decide)), Nat.pow_mul, show j + 1 = Nat.succ j from rfl, Nat.pow_succ, ← Nat.mul_assoc]
        exact Nat.mul_mod_left _ _
      have t0 : byt (tagW tag) 8 0 = tag := by
        unfold byt tagW
        rw [show (2 : Nat) ^ 56 = 256 ^ (8 - 1 - 0) by decide, Nat.mul_div_cancel _ (Nat.pow_pos (by decide)), Nat.mod_eq_of_lt ht]
      rw [show List.range 8 = 0 :: (List.range 7).map Nat.succ from List.range_succ_eq_map, List.map_cons, List.map_map, List.singleton_append, t0]
      refine congrArg _ ?_
      apply List.map_congr_left
      intro j hj
      rw [List.mem_range] at hj
      show Value.int .u8 (byt 0 7 j : Nat) = Value.int .u8 (byt (tagW tag) 8 (j + 1) : Nat)
      rw [z, t j hj]
    rw [e1, range_append_map]
    apply List.map_congr_left
    intro j hj
    rw [List.mem_range] at hj
    unfold blockN
    by_cases h : j < 8
    · rw [if_pos h, if_pos h, byt_8 h]
    · rw [if_neg h, if_neg h, byt_8 (by omega)]
  have HRk := Lib.hid (own_key HO5.out (by simp) HL)
  clear hB5 HL
  refine (refKey_any (blockN (tagW tag, n)) v5 w5 HRk.out).mono ?_
  rintro e w6 ⟨rfl, hb6⟩
  have hz6 := HZ5.out.of_block (hb6.block _ HZ5.out.lt)
  have HZ6 := Lib.hid hz6
  have HB6 := Lib.hid (HB5.out.trans (hb6.mono (by omega)))
  (have := (hz6).cell (i := 0) (by omega); have := (hz6).cell (i := 1) (by omega); have := (hz6).cell (i := 2) (by omega); have := (hz6).cell (i := 3) (by omega); have := (hz6).cell (i := 4) (by omega); have := (hz6).cell (i := 5) (by omega); have := (hz6).cell (i := 6) (by omega); have := (hz6).cell (i := 7) (by omega); have := (hz6).cell (i := 8) (by omega); have := (hz6).cell (i := 9) (by omega); have := (hz6).cell (i := 10) (by omega); have := (hz6).cell (i := 11) (by omega); have := (hz6).cell (i := 12) (by omega); have := (hz6).cell (i := 13) (by omega); have := (hz6).cell (i := 14) (by omega); have := (hz6).cell (i := 15) (by omega))
  (have := (hz6).frozen 0; have := (hz6).frozen 1; have := (hz6).frozen 2; have := (hz6).frozen 3; have := (hz6).frozen 4; have := (hz6).frozen 5; have := (hz6).frozen 6; have := (hz6).frozen 7; have := (hz6).frozen 8; have := (hz6).frozen 9; have := (hz6).frozen 10; have := (hz6).frozen 11; have := (hz6).frozen 12; have := (hz6).frozen 13; have := (hz6).frozen 14; have := (hz6).frozen 15)
  clear hz6 hb6
  go_wp2
  refine bodyPost_ret (v := keyV (blockN (tagW tag, n))) ?_ rfl ⟨rfl, ?_⟩
  · exact key_result rfl _ _ w.heap.size _ rfl (row16_set HZ6.out (fun i => .int .u8 (blockN (tagW tag, n) i)))
  · exact below16_set HB6.out (Nat.le_refl _) (fun i => .int .u8 (blockN (tagW tag, n) i))
end Go.Proofs.YtmbokpfgnicboaaGreat

/- The walks of the specification of the cipher: words, round keys, Encrypt, Derive, Number. -/
namespace Go.Proofs.YtmbokpfgnicboaaGreat
open Go.RowKit Go.Hd _root_.Hd

theorem rd_row {w : World} {b off n cap : Nat} {t : TypeId} {N : Nat} {k : IntKind} {f : Nat → Nat} (h : w.rowIs b t N (fun j => .int k (f j))) (hn : off + n ≤ N) (hc : n ≤ cap) (hcap : cap ≤ 9223372036854775807) : Rd w k (.slice (some ⟨b, off, none⟩) n cap) n (fun j => f (off + j)) :=
  ⟨_, _, rfl, hc, by unfold maxLen; omega, fun _ => ⟨b, off, rfl, fun j hj => h.cell (by omega)⟩⟩

set_option maxRecDepth 100000 in
set_option maxHeartbeats 1000000 in
theorem refWords2_any (K : Nat → Nat) (w : World) (hK : Kb K) :
    Calls Tryz.prog 165 #[keyV K] w fun e w' => e = .returned (.tuple #[.int .u64 (wordsN K).1, .int .u64 (wordsN K).2]) ∧ Below w.heap.size w w' := by
  have rk := key_row w K 23
  have h1 := refValue_any 8 K (.slice (some ⟨w.heap.size, 0, none⟩) 8 16)
  have h2 := refValue_any 8 (fun j => K (8 + j)) (.slice (some ⟨w.heap.size, 8, none⟩) 8 8)
  have r1 := rd_row (off := 0) (n := 8) (cap := 16) rk (by omega) (by omega) (by omega)
  simp only [Nat.zero_add] at r1
  have r2 := rd_row (off := 8) (n := 8) (cap := 8) rk (by omega) (by omega) (by omega)
  have H1 := Lib.hid (fun m => h1 _ (r1.below (below_drewN (Below.refl _ _) m)) (fun j hj => hK j (by omega)) (by omega))
  have H2 := Lib.hid (fun m => h2 _ (r2.below (below_drewN (Below.refl _ _) m)) (fun j hj => hK (8 + j) (by omega)) (by omega))
  clear rk h1 h2 r1 r2 hK
  have hw : wordsN K = (beN K 8, beN (fun j => K (8 + j)) 8) := by unfold wordsN; rfl
  rw [hw]
  clear hw
  dsimp only
  generalize beN K 8 = X at *
  generalize beN (fun j => K (8 + j)) 8 = Y at *
  unfold keyV
  go_enter Tryz.func165, Tryz.ntmps165
  go_wp2
  go_quiet ((go_at_call 163; with_reducible (first | exact quiet_add (H1.out _) | exact quiet_one (H1.out _) | exact quiet_add (H2.out _) | exact quiet_one (H2.out _))))
  go_wp2
  go_ret2
  exact ⟨rfl, by (repeat' (first | (with_reducible exact Below.refl _ _) | (with_reducible assumption) | (with_reducible refine Below.alloc ?_ ?_ _) | (with_reducible refine Below.drew ?_) | (with_reducible refine below_drewN ?_ _) | (with_reducible refine Below.setCell ?_ ?_ _) | omega | (simp only [Go.Hd.size_drewN, World.size_alloc, World.size_setCell, World.size_drew]; omega) | (simp; omega)))⟩

/-- Three words of a round, as the specification spells it. -/
theorem round_ref (x y k : Nat) (hx : Wd (x, y)) (hk : k < W64) :
    bits .xor .u64 (IntKind.u64.wrap (((rol x 56 : Nat) : Int) + (y : Int))) (k : Int) = (((rnd (x, y) k).1 : Nat) : Int) ∧ bits .xor .u64 (IntKind.u64.wrap ((y : Int) + ((rol x 56 : Nat) : Int))) (k : Int) = (((rnd (x, y) k).1 : Nat) : Int) ∧ bits .xor .u64 ((rol y 3 : Nat) : Int) (((rnd (x, y) k).1 : Nat) : Int) = (((rnd (x, y) k).2 : Nat) : Int) := by
  have e1 : bits .xor .u64 (IntKind.u64.wrap (((rol x 56 : Nat) : Int) + (y : Int))) (k : Int) = (((rnd (x, y) k).1 : Nat) : Int) := by
    rw [add_fact, xor_fact _ _ (Nat.mod_lt _ (by decide)) hk]; rfl
  refine ⟨e1, by rw [Int.add_comm]; exact e1, ?_⟩
  rw [xor_fact _ _ (rol_lt hx.2) (rnd_wd hx hk).1]; rfl

theorem infoU64 : (Tryz.prog.info? 93).map (fun i => (i.zero, i.size, i.bytes)) = some (some (.int .u64 0), 1, 8) := by kernel_rfl

set_option maxRecDepth 100000 in
set_option maxHeartbeats 1000000 in
theorem refRoundKeys_any (K : Nat → Nat) (w : World) (hK : Kb K) :
    Calls Tryz.prog 166 #[keyV K] w fun e w' => ∃ v, e = .returned v ∧ Rd w' .u64 v 32 (fun i => (sched K i).2) ∧ Below w.heap.size w w' := by
  have rk := key_row w K 23
  (have := (rk).cell (i := 0) (by omega); have := (rk).cell (i := 1) (by omega); have := (rk).cell (i := 2) (by omega); have := (rk).cell (i := 3) (by omega); have := (rk).cell (i := 4) (by omega); have := (rk).cell (i := 5) (by omega); have := (rk).cell (i := 6) (by omega); have := (rk).cell (i := 7) (by omega); have := (rk).cell (i := 8) (by omega); have := (rk).cell (i := 9) (by omega); have := (rk).cell (i := 10) (by omega); have := (rk).cell (i := 11) (by omega); have := (rk).cell (i := 12) (by omega); have := (rk).cell (i := 13) (by omega); have := (rk).cell (i := 14) (by omega); have := (rk).cell (i := 15) (by omega))
  have HK := Lib.hid hK
  clear hK
  go_enter Tryz.func166, Tryz.ntmps166
  go_wp2_with fail
  refine (refWords2_any K _ HK.out).mono ?_
  rintro e w1 ⟨rfl, hb1⟩
  have HB1 := Lib.hid (((Below.refl w.heap.size w).alloc (Nat.le_refl _) _).trans (hb1.mono (by simp)))
  clear hb1
  go_wp2
  go_loopw [3, 4, 5, 6] (fun l a v i wr => ∃ k : Nat, k ≤ 31 ∧ i = .int .i64 k ∧ l = .int .u64 ((sched K k).1 : Nat) ∧ a = .int .u64 ((sched K k).2 : Nat) ∧ wr.ownsRow w.heap.size 93 1 v (k + 1) ((List.range (k + 1)).map fun j => .int .u64 ((sched K j).2 : Nat)) ∧ Below w.heap.size w wr) (fun _ _ _ i _ => 31 - (intOf i).toNat)
  case atStart =>
    have hl := World.ownsRow_lit (base := w.heap.size) (e := 93) (size := 1) w1 #[.int .u64 ((wordsN K).2 : Int)] 1 HB1.out.size (by unfold maxLen; omega) rfl
    have HL := Lib.hid hl
    exact ⟨0, by omega, rfl, rfl, rfl, HL.out, HB1.out.alloc HB1.out.size _⟩
  case round =>
    obtain ⟨k, hk, rfl, rfl, rfl, hown, hbel⟩ := hrel
    by_cases hlt : k < 31
    · have HS := Lib.hid (sched_wd HK.out k (by omega))
      have hs : sched K (k + 1) = rnd (sched K k) k := rfl
      have HE := Lib.hid hs
      generalize hp : sched K k = p at *
      obtain ⟨x, y⟩ := p
      have HRR := Lib.hid (round_ref x y k HS.out (by unfold W64; omega))
      have hwk : IntKind.u64.wrap (k : Int) = (k : Int) := by rw [IntKind.wrap_u64]; omega
      obtain ⟨A, c, rfl⟩ := own_slice hown
      have HO := Lib.hid hown
      have HB := Lib.hid hbel
      have HP := Lib.hid hp
      clear hown hbel hs hp
      dsimp only
      go_wp2_with fail
      refine (rotr8_any x _ HS.out.1).mono ?_
      rintro e w2 ⟨rfl, hd2⟩
      have HD2 := Lib.hid hd2
      clear hd2
      go_wp2_with fail
      refine (refRotl_any y _ HS.out.2).mono ?_
      rintro e w3 ⟨rfl, hd3⟩
      have hD3 := HD2.out.trans hd3
      have HB3 := Lib.hid (belowB_then HB.out HB.out.size hD3.below)
      have HO3 := Lib.hid (own_below HO.out hD3.below)
      have hx1 := HRR.out.2.1
      have hx2 := HRR.out.2.2
      rw [hx1]
      have HE2 := HE.out
      obtain ⟨q, hq⟩ : ∃ q, q = rnd (x, y) k := ⟨_, rfl⟩
      rw [← hq] at HE2 hx2 ⊢
      have HE3 := Lib.hid HE2
      clear hd3 hD3 hx1 HRR HE HE2 hq
      have HL : Hid ((w3.alloc (.cells #[.int .u64 (q.2 : Int)] 93)).ownsRow w3.heap.size 93 1 (.slice (some ⟨w3.heap.size, 0, none⟩) 1 1) 1 [.int .u64 (q.2 : Int)]) := World.ownsRow_lit w3 #[.int .u64 (q.2 : Int)] 1 (Nat.le_refl _) (by unfold maxLen; omega) rfl
      have HO4 := Lib.hid (own_below HO3.out ((Below.refl w3.heap.size w3).alloc (Nat.le_refl _) (.cells #[.int .u64 (q.2 : Int)] 93)))
      go_wp2_with (at_builtin; refine wp_app w.heap.size rfl (.tmp 29) (.tmp 31) 203 93 (.int .u64 0) 8 rfl Tryz.underlying203 infoU64 rfl (by decide) (.slice A (k + 1) c) ((List.range (k + 1)).map fun j => .int .u64 ((sched K j).2 : Nat)) rfl _ 1 (fun _ => .int .u64 (q.2 : Int)) rfl (rdV_one _ _ _) (fun _ _ => rfl) (by rw [List.length_map, List.length_range]; exact HO4.out) (by have := HB3.out.size; simp; omega) (by simp; omega) ?_; intro v5 w5 hown5 hg5; have HO5 := Lib.hid hown5; have HG5 := Lib.hid hg5; clear hown5 hg5)
      go_roundw
      case rel =>
        refine ⟨k + 1, by omega, by go_num, by rw [HE3.out], by rw [HE3.out], ?_, ?_⟩
        · have := HO5.out
          have e : (List.range (k + 1 + 1)).map (fun j => Value.int .u64 ((sched K j).2 : Nat)) = (List.range (k + 1)).map (fun j => Value.int .u64 ((sched K j).2 : Nat)) ++ [.int .u64 (q.2 : Int)] := by
            rw [List.range_succ, List.map_append, ← HE3.out]; rfl
          rw [e]
          simpa using this
        · exact below_own (HB3.out.alloc HB3.out.size _) HO4.out HG5.out (by have := HB3.out.size; simp; omega)
      case measure => simp [intOf]; omega
    · obtain rfl : k = 31 := by omega
      go_wp2
      go_ret
      exact ⟨_, rfl, rd_of_own hown, hbel⟩
end Go.Proofs.YtmbokpfgnicboaaGreat

/- The walks of the specification of the cipher: Encrypt, Derive, Number. -/
namespace Go.Proofs.YtmbokpfgnicboaaGreat
open Go.RowKit Go.Hd _root_.Hd

set_option maxRecDepth 100000 in
set_option maxHeartbeats 2000000 in
theorem refEncrypt_any (K b : Nat → Nat) (w : World) (hK : Kb K) (hb : Kb b) :
    Calls Tryz.prog 143 #[keyV K, keyV b] w fun e w' => e = .returned (keyV (blockN (encN K (wordsN b) 32))) ∧ Below w.heap.size w w' := by
  have HK := Lib.hid hK
  have HBb := Lib.hid hb
  clear hK hb
  have rk := ((key_row w K 23).alloc (.cells #[.int .u8 (b 0), .int .u8 (b 1), .int .u8 (b 2), .int .u8 (b 3), .int .u8 (b 4), .int .u8 (b 5), .int .u8 (b 6), .int .u8 (b 7), .int .u8 (b 8), .int .u8 (b 9), .int .u8 (b 10), .int .u8 (b 11), .int .u8 (b 12), .int .u8 (b 13), .int .u8 (b 14), .int .u8 (b 15)] 23)).alloc (.cells #[.int .u8 0, .int .u8 0, .int .u8 0, .int .u8 0, .int .u8 0, .int .u8 0, .int .u8 0, .int .u8 0, .int .u8 0, .int .u8 0, .int .u8 0, .int .u8 0, .int .u8 0, .int .u8 0, .int .u8 0, .int .u8 0] 23)
  have rz := zero_row ((w.alloc (.cells #[.int .u8 (K 0), .int .u8 (K 1), .int .u8 (K 2), .int .u8 (K 3), .int .u8 (K 4), .int .u8 (K 5), .int .u8 (K 6), .int .u8 (K 7), .int .u8 (K 8), .int .u8 (K 9), .int .u8 (K 10), .int .u8 (K 11), .int .u8 (K 12), .int .u8 (K 13), .int .u8 (K 14), .int .u8 (K 15)] 23)).alloc (.cells #[.int .u8 (b 0), .int .u8 (b 1), .int .u8 (b 2), .int .u8 (b 3), .int .u8 (b 4), .int .u8 (b 5), .int .u8 (b 6), .int .u8 (b 7), .int .u8 (b 8), .int .u8 (b 9), .int .u8 (b 10), .int .u8 (b 11), .int .u8 (b 12), .int .u8 (b 13), .int .u8 (b 14), .int .u8 (b 15)] 23)) (fun _ => 0) (fun _ _ => rfl) 23
  have hB0 : Below w.heap.size w (((w.alloc (.cells #[.int .u8 (K 0), .int .u8 (K 1), .int .u8 (K 2), .int .u8 (K 3), .int .u8 (K 4), .int .u8 (K 5), .int .u8 (K 6), .int .u8 (K 7), .int .u8 (K 8), .int .u8 (K 9), .int .u8 (K 10), .int .u8 (K 11), .int .u8 (K 12), .int .u8 (K 13), .int .u8 (K 14), .int .u8 (K 15)] 23)).alloc (.cells #[.int .u8 (b 0), .int .u8 (b 1), .int .u8 (b 2), .int .u8 (b 3), .int .u8 (b 4), .int .u8 (b 5), .int .u8 (b 6), .int .u8 (b 7), .int .u8 (b 8), .int .u8 (b 9), .int .u8 (b 10), .int .u8 (b 11), .int .u8 (b 12), .int .u8 (b 13), .int .u8 (b 14), .int .u8 (b 15)] 23)).alloc (.cells #[.int .u8 0, .int .u8 0, .int .u8 0, .int .u8 0, .int .u8 0, .int .u8 0, .int .u8 0, .int .u8 0, .int .u8 0, .int .u8 0, .int .u8 0, .int .u8 0, .int .u8 0, .int .u8 0, .int .u8 0, .int .u8 0] 23)) := by (repeat' (first | (with_reducible exact Below.refl _ _) | (with_reducible assumption) | (with_reducible refine Below.alloc ?_ ?_ _) | (with_reducible refine Below.drew ?_) | (with_reducible refine below_drewN ?_ _) | (with_reducible refine Below.setCell ?_ ?_ _) | omega | (simp only [Go.Hd.size_drewN, World.size_alloc, World.size_setCell, World.size_drew]; omega) | (simp; omega)))
  rw [World.size_alloc, World.size_alloc] at rz
  have HRK := Lib.hid rk
  have HRZ := Lib.hid rz
  have HB0 := Lib.hid hB0
  clear rk rz hB0
  go_enter Tryz.func143, Tryz.ntmps143
  go_wp2_with fail
  refine (refWords2_any b _ HBb.out).mono ?_
  rintro e w1 ⟨rfl, hb1⟩
  have rk1 := HRK.out.of_block (hb1.block _ HRK.out.lt)
  have HRZ1 := Lib.hid (HRZ.out.of_block (hb1.block _ HRZ.out.lt))
  have HB1 := Lib.hid (HB0.out.trans (hb1.mono HB0.out.size))
  have hl0 := rk1.lt
  (have := (rk1).cell (i := 0) (by omega); have := (rk1).cell (i := 1) (by omega); have := (rk1).cell (i := 2) (by omega); have := (rk1).cell (i := 3) (by omega); have := (rk1).cell (i := 4) (by omega); have := (rk1).cell (i := 5) (by omega); have := (rk1).cell (i := 6) (by omega); have := (rk1).cell (i := 7) (by omega); have := (rk1).cell (i := 8) (by omega); have := (rk1).cell (i := 9) (by omega); have := (rk1).cell (i := 10) (by omega); have := (rk1).cell (i := 11) (by omega); have := (rk1).cell (i := 12) (by omega); have := (rk1).cell (i := 13) (by omega); have := (rk1).cell (i := 14) (by omega); have := (rk1).cell (i := 15) (by omega))
  clear rk1 hb1
  go_wp2_with fail
  refine (refRoundKeys_any K w1 HK.out).mono ?_
  rintro e w2 ⟨v, rfl, hr2, hb2⟩
  have HRZ2 := Lib.hid (HRZ1.out.of_block (hb2.block _ HRZ1.out.lt))
  have HB2 := Lib.hid (HB1.out.trans (hb2.mono HB1.out.size))
  have HR2 := Lib.hid hr2
  obtain ⟨A, cap, rfl, _, _, h3⟩ := hr2
  obtain ⟨bk, off, rfl, hc⟩ := h3 (by omega)
  have HC := Lib.hid hc
  clear hb2 hc h3 HRK HRZ HB0 HRZ1 HB1
  go_wp2
  go_loopw [5, 6, 8] (fun x y i wr => ∃ k : Nat, k ≤ 32 ∧ i = .int .i64 k ∧ x = .int .u64 ((encN K (wordsN b) k).1 : Nat) ∧ y = .int .u64 ((encN K (wordsN b) k).2 : Nat) ∧ Drawn w2 wr) (fun _ _ i _ => 32 - (intOf i).toNat)
  case atStart => exact ⟨0, by omega, rfl, rfl, rfl, Drawn.refl _⟩
  case round =>
    obtain ⟨k, hk, rfl, rfl, rfl, hdr⟩ := hrel
    by_cases hlt : k < 32
    · have HS := Lib.hid (sched_wd HK.out k (by omega)).2
      have HE := Lib.hid (encN_wd HK.out (wordsN_wd HBb.out) k (by omega))
      have hs : encN K (wordsN b) (k + 1) = rnd (encN K (wordsN b) k) (sched K k).2 := rfl
      have hci : wr.cell? ⟨bk, off + k, none⟩ = some (.int .u64 ((sched K k).2 : Nat)) := cell_below hdr.below (HC.out k hlt)
      generalize encN K (wordsN b) k = p at *
      generalize (sched K k).2 = s at *
      obtain ⟨x, y⟩ := p
      have HRR := Lib.hid (round_ref x y s HE.out HS.out)
      have HD := Lib.hid hdr
      have HSS := Lib.hid hs
      clear hdr hs
      dsimp only
      go_wp2
      go_quiet ((go_at_call 167; first | exact quiet_add_d (rotr8_any x _ HE.out.1) | exact quiet_one_d (rotr8_any x _ HE.out.1)))
      go_wp2_with fail
      refine (refRotl_any y _ HE.out.2).mono ?_
      rintro e w3 ⟨rfl, hd3⟩
      have hx1 := HRR.out.1
      have hx2 := HRR.out.2.2
      rw [hx1]
      have HD3 := Lib.hid ((HD.out.drewN _).trans hd3)
      obtain ⟨q, hq⟩ : ∃ q, q = rnd (x, y) s := ⟨_, rfl⟩
      have hss := HSS.out
      rw [← hq] at hx2 hss ⊢
      have HSQ := Lib.hid hss
      clear hd3 hx1 HRR hq hss HSS
      go_wp2
      go_roundw
      case rel => exact ⟨k + 1, by omega, by go_num, by rw [HSQ.out], by rw [HSQ.out], HD3.out⟩
      case measure => simp [intOf]; omega
    · obtain rfl : k = 32 := by omega
      have HBk := Lib.hid (refBlk_any (encN K (wordsN b) 32).1 (encN K (wordsN b) 32).2 wr (encN_wd HK.out (wordsN_wd HBb.out) 32 (by omega)).1 (encN_wd HK.out (wordsN_wd HBb.out) 32 (by omega)).2)
      have HB3 := Lib.hid (HB2.out.trans (hdr.below.mono HB2.out.size))
      have HRZ3 := Lib.hid (HRZ2.out.of_block (hdr.below.block _ HRZ2.out.lt))
      have hsz := HB3.out.size
      clear hdr
      go_wp2_with fail
      refine HBk.out.mono ?_
      rintro e w4 ⟨rfl, hb4⟩
      have hz4 := HRZ3.out.of_block (hb4.block _ HRZ3.out.lt)
      have HZ4 := Lib.hid hz4
      have HB4 := Lib.hid (HB3.out.trans (hb4.mono hsz))
      (have := (hz4).cell (i := 0) (by omega); have := (hz4).cell (i := 1) (by omega); have := (hz4).cell (i := 2) (by omega); have := (hz4).cell (i := 3) (by omega); have := (hz4).cell (i := 4) (by omega); have := (hz4).cell (i := 5) (by omega); have := (hz4).cell (i := 6) (by omega); have := (hz4).cell (i := 7) (by omega); have := (hz4).cell (i := 8) (by omega); have := (hz4).cell (i := 9) (by omega); have := (hz4).cell (i := 10) (by omega); have := (hz4).cell (i := 11) (by omega); have := (hz4).cell (i := 12) (by omega); have := (hz4).cell (i := 13) (by omega); have := (hz4).cell (i := 14) (by omega); have := (hz4).cell (i := 15) (by omega))
      (have := (hz4).frozen 0; have := (hz4).frozen 1; have := (hz4).frozen 2; have := (hz4).frozen 3; have := (hz4).frozen 4; have := (hz4).frozen 5; have := (hz4).frozen 6; have := (hz4).frozen 7; have := (hz4).frozen 8; have := (hz4).frozen 9; have := (hz4).frozen 10; have := (hz4).frozen 11; have := (hz4).frozen 12; have := (hz4).frozen 13; have := (hz4).frozen 14; have := (hz4).frozen 15)
      clear hz4 hb4
      go_wp2
      refine bodyPost_ret (v := keyV (blockN (encN K (wordsN b) 32))) ?_ rfl ⟨rfl, ?_⟩
      · exact key_result rfl _ _ (w.heap.size + 1 + 1) _ rfl (row16_set HZ4.out (fun i => .int .u8 (blockN (encN K (wordsN b) 32) i)))
      · exact below16_set HB4.out (by omega) (fun i => .int .u8 (blockN (encN K (wordsN b) 32) i))
end Go.Proofs.YtmbokpfgnicboaaGreat

/- The walks of the specification of the cipher: Derive, Number. -/
namespace Go.Proofs.YtmbokpfgnicboaaGreat
open Go.RowKit Go.Hd _root_.Hd

set_option maxRecDepth 100000 in
set_option maxHeartbeats 2000000 in
theorem refDerive_any (K : Nat → Nat) (tag n : Nat) (w : World) (hK : Kb K) (ht : tag < 256) (hn : n < W64) :
    Calls Tryz.prog 107 #[keyV K, .int .u8 tag, .int .u64 n] w fun e w' => e = .returned (keyV (derN K tag n)) ∧ Below w.heap.size w w' := by
  have HB := Lib.hid (fun W => refBlock_any tag n W ht hn)
  have HE := Lib.hid (fun W => refEncrypt_any K (blockN (tagW tag, n)) W hK (blockN_kb _))
  have HX := Lib.hid (wordsN_blockN (tag_wd ht hn))
  clear ht hn hK
  have rk := (key_row w K 23).alloc (.cells #[.int .u8 0, .int .u8 0, .int .u8 0, .int .u8 0, .int .u8 0, .int .u8 0, .int .u8 0, .int .u8 0, .int .u8 0, .int .u8 0, .int .u8 0, .int .u8 0, .int .u8 0, .int .u8 0, .int .u8 0, .int .u8 0] 23)
  have rz := zero_row (w.alloc (.cells #[.int .u8 (K 0), .int .u8 (K 1), .int .u8 (K 2), .int .u8 (K 3), .int .u8 (K 4), .int .u8 (K 5), .int .u8 (K 6), .int .u8 (K 7), .int .u8 (K 8), .int .u8 (K 9), .int .u8 (K 10), .int .u8 (K 11), .int .u8 (K 12), .int .u8 (K 13), .int .u8 (K 14), .int .u8 (K 15)] 23)) (fun _ => 0) (fun _ _ => rfl) 23
  have hB0 : Below w.heap.size w ((w.alloc (.cells #[.int .u8 (K 0), .int .u8 (K 1), .int .u8 (K 2), .int .u8 (K 3), .int .u8 (K 4), .int .u8 (K 5), .int .u8 (K 6), .int .u8 (K 7), .int .u8 (K 8), .int .u8 (K 9), .int .u8 (K 10), .int .u8 (K 11), .int .u8 (K 12), .int .u8 (K 13), .int .u8 (K 14), .int .u8 (K 15)] 23)).alloc (.cells #[.int .u8 0, .int .u8 0, .int .u8 0, .int .u8 0, .int .u8 0, .int .u8 0, .int .u8 0, .int .u8 0, .int .u8 0, .int .u8 0, .int .u8 0, .int .u8 0, .int .u8 0, .int .u8 0, .int .u8 0, .int .u8 0] 23)) := by (repeat' (first | (with_reducible exact Below.refl _ _) | (with_reducible assumption) | (with_reducible refine Below.alloc ?_ ?_ _) | (with_reducible refine Below.drew ?_) | (with_reducible refine below_drewN ?_ _) | (with_reducible refine Below.setCell ?_ ?_ _) | omega | (simp only [Go.Hd.size_drewN, World.size_alloc, World.size_setCell, World.size_drew]; omega) | (simp; omega)))
  rw [World.size_alloc] at rz
  go_enter Tryz.func107, Tryz.ntmps107
  go_wp2_with fail
  generalize ((w.alloc (.cells #[.int .u8 (K 0), .int .u8 (K 1), .int .u8 (K 2), .int .u8 (K 3), .int .u8 (K 4), .int .u8 (K 5), .int .u8 (K 6), .int .u8 (K 7), .int .u8 (K 8), .int .u8 (K 9), .int .u8 (K 10), .int .u8 (K 11), .int .u8 (K 12), .int .u8 (K 13), .int .u8 (K 14), .int .u8 (K 15)] 23)).alloc (.cells #[.int .u8 0, .int .u8 0, .int .u8 0, .int .u8 0, .int .u8 0, .int .u8 0, .int .u8 0, .int .u8 0, .int .u8 0, .int .u8 0, .int .u8 0, .int .u8 0, .int .u8 0, .int .u8 0, .int .u8 0, .int .u8 0] 23)) = W at *
  have hlt1 := rk.lt
  have hlt2 := rz.lt
  (have := (rk).cell (i := 0) (by omega); have := (rk).cell (i := 1) (by omega); have := (rk).cell (i := 2) (by omega); have := (rk).cell (i := 3) (by omega); have := (rk).cell (i := 4) (by omega); have := (rk).cell (i := 5) (by omega); have := (rk).cell (i := 6) (by omega); have := (rk).cell (i := 7) (by omega); have := (rk).cell (i := 8) (by omega); have := (rk).cell (i := 9) (by omega); have := (rk).cell (i := 10) (by omega); have := (rk).cell (i := 11) (by omega); have := (rk).cell (i := 12) (by omega); have := (rk).cell (i := 13) (by omega); have := (rk).cell (i := 14) (by omega); have := (rk).cell (i := 15) (by omega))
  have RK := Lib.hid rk
  have RZ := Lib.hid rz
  have HB0 := Lib.hid hB0
  clear rk rz hB0
  go_region_with (first
    | (go_at_call 144
       refine (HB.out _).mono ?_
       rintro e w1 ⟨rfl, hb1⟩
       have hk1 := RK.out.of_block (hb1.block _ hlt1)
       have hz1 := RZ.out.of_block (hb1.block _ hlt2)
       have hB1 := HB0.out.drew.trans (hb1.mono HB0.out.size)
       have HK1 := Lib.hid hk1
       have HZ1 := Lib.hid hz1
       have HB1 := Lib.hid hB1
       (have := (hk1).cell (i := 0) (by omega); have := (hk1).cell (i := 1) (by omega); have := (hk1).cell (i := 2) (by omega); have := (hk1).cell (i := 3) (by omega); have := (hk1).cell (i := 4) (by omega); have := (hk1).cell (i := 5) (by omega); have := (hk1).cell (i := 6) (by omega); have := (hk1).cell (i := 7) (by omega); have := (hk1).cell (i := 8) (by omega); have := (hk1).cell (i := 9) (by omega); have := (hk1).cell (i := 10) (by omega); have := (hk1).cell (i := 11) (by omega); have := (hk1).cell (i := 12) (by omega); have := (hk1).cell (i := 13) (by omega); have := (hk1).cell (i := 14) (by omega); have := (hk1).cell (i := 15) (by omega))
       clear hk1 hz1 hB1 hb1)
    | (go_at_call 143
       refine (HE.out _).mono ?_
       rintro e w2 ⟨rfl, hb2⟩
       have hz2 := HZ1.out.of_block (hb2.block _ HZ1.out.lt)
       have hB2 := HB1.out.trans (hb2.mono HB1.out.size)
       have HZ2 := Lib.hid hz2
       have HB2 := Lib.hid hB2
       (have := (hz2).cell (i := 0) (by omega); have := (hz2).cell (i := 1) (by omega); have := (hz2).cell (i := 2) (by omega); have := (hz2).cell (i := 3) (by omega); have := (hz2).cell (i := 4) (by omega); have := (hz2).cell (i := 5) (by omega); have := (hz2).cell (i := 6) (by omega); have := (hz2).cell (i := 7) (by omega); have := (hz2).cell (i := 8) (by omega); have := (hz2).cell (i := 9) (by omega); have := (hz2).cell (i := 10) (by omega); have := (hz2).cell (i := 11) (by omega); have := (hz2).cell (i := 12) (by omega); have := (hz2).cell (i := 13) (by omega); have := (hz2).cell (i := 14) (by omega); have := (hz2).cell (i := 15) (by omega))
       (have := (hz2).frozen 0; have := (hz2).frozen 1; have := (hz2).frozen 2; have := (hz2).frozen 3; have := (hz2).frozen 4; have := (hz2).frozen 5; have := (hz2).frozen 6; have := (hz2).frozen 7; have := (hz2).frozen 8; have := (hz2).frozen 9; have := (hz2).frozen 10; have := (hz2).frozen 11; have := (hz2).frozen 12; have := (hz2).frozen 13; have := (hz2).frozen 14; have := (hz2).frozen 15)
       clear hz2 hB2 hb2))
  all_goals go_wp2
  all_goals refine bodyPost_ret (v := keyV (blockN (encN K (wordsN (blockN (tagW tag, n))) 32))) ?_ rfl ⟨by rw [HX.out]; rfl, ?_⟩
  all_goals first
    | exact key_result rfl _ _ (w.heap.size + 1) _ rfl (row16_set HZ2.out (fun i => .int .u8 (blockN (encN K (wordsN (blockN (tagW tag, n))) 32) i)))
    | exact below16_set HB2.out (show w.heap.size ≤ w.heap.size + 1 by omega) (fun i => .int .u8 (blockN (encN K (wordsN (blockN (tagW tag, n))) 32) i))

set_option maxRecDepth 100000 in
set_option maxHeartbeats 2000000 in
theorem refNumber_any (K : Nat → Nat) (n most : Nat) (w : World) (hK : Kb K) (hn : n < W64) (hm : most < W64) :
    Calls Tryz.prog 138 #[keyV K, .int .u64 n, .int .u64 most] w fun e w' => e = .returned (.int .u64 (numN K n most)) ∧ Below w.heap.size w w' := by
  have HD := Lib.hid (fun W => refDerive_any K 3 n W hK (by omega) hn)
  have HX := Lib.hid (words_derN hK (show 3 < 256 by omega) hn)
  clear hn hK
  by_cases h0 : most = 0
  · subst h0
    go_enter Tryz.func138, Tryz.ntmps138
    go_wp2
    go_ret
    exact ⟨rfl, by (repeat' (first | (with_reducible exact Below.refl _ _) | (with_reducible assumption) | (with_reducible refine Below.alloc ?_ ?_ _) | (with_reducible refine Below.drew ?_) | (with_reducible refine below_drewN ?_ _) | (with_reducible refine Below.setCell ?_ ?_ _) | omega | (simp only [Go.Hd.size_drewN, World.size_alloc, World.size_setCell, World.size_drew]; omega) | (simp; omega)))⟩
  · have h1 : ((most : Int) == 0) = false := by simp; omega
    have h2 : ¬ ((most : Int) = 0) := by omega
    go_enter Tryz.func138, Tryz.ntmps138
    go_wp2_with fail
    refine (HD.out _).mono ?_
    rintro e w1 ⟨rfl, hb1⟩
    have rk := key_row w1 (derN K 3 n) 23
    have r1 := rd_row (off := 0) (n := 8) (cap := 16) rk (by omega) (by omega) (by omega)
    simp only [Nat.zero_add] at r1
    have hv := refValue_any 8 (derN K 3 n) (.slice (some ⟨w1.heap.size, 0, none⟩) 8 16) _ r1 (fun j hj => derN_kb K 3 n j (by omega)) (by omega)
    have hX1 : beN (derN K 3 n) 8 = (encN K (tagW 3, n) 32).1 := by rw [← HX.out]; unfold wordsN; rfl
    rw [hX1] at hv
    have HV := Lib.hid hv
    have hb3 : Below w.heap.size w w1 := by
      rw [World.size_alloc] at hb1
      exact ((Below.refl _ w).alloc (Nat.le_refl _) _).trans (hb1.mono (by omega))
    have hb4 := hb3.alloc hb3.size (.cells #[.int .u8 (derN K 3 n 0), .int .u8 (derN K 3 n 1), .int .u8 (derN K 3 n 2), .int .u8 (derN K 3 n 3), .int .u8 (derN K 3 n 4), .int .u8 (derN K 3 n 5), .int .u8 (derN K 3 n 6), .int .u8 (derN K 3 n 7), .int .u8 (derN K 3 n 8), .int .u8 (derN K 3 n 9), .int .u8 (derN K 3 n 10), .int .u8 (derN K 3 n 11), .int .u8 (derN K 3 n 12), .int .u8 (derN K 3 n 13), .int .u8 (derN K 3 n 14), .int .u8 (derN K 3 n 15)] 23)
    have HB4 := Lib.hid hb4
    have hnum : Hid (((encN K (tagW 3, n) 32).1 : Int) % (most : Int) = ((numN K n most : Nat) : Int)) := by
      show _ = _
      unfold numN; rw [if_neg h0]; norm_cast
    clear hb1 hb3 hb4 rk r1 hv hX1
    generalize (encN K (tagW 3, n) 32).1 = X at *
    go_wp2_with fail
    refine HV.out.mono ?_
    rintro e w2 ⟨rfl, hw2⟩
    rw [hw2] at HB4
    clear hw2 HV
    go_wp2
    go_ret
    exact ⟨by rw [hnum.out]; rfl, HB4.out⟩
end Go.Proofs.YtmbokpfgnicboaaGreat
