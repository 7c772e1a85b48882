import Derived.Test.YtmbokpfgnicboaaC9
import Derived.Deep.RegionWith
set_option linter.unusedVariables false
set_option linter.unusedSimpArgs false
/- The walks of the specification of the cipher: Derive, Number. -/
namespace Go.Proofs.Ytmbokpfgnicboaa
open Go.RowKit Go.Hd _root_.Hd

set_option maxRecDepth 100000 in
set_option maxHeartbeats 2000000 in
theorem refDerive_any (K : Nat → Nat) (tag n : Nat) (w : World) (hK : Kb K) (ht : tag < 256) (hn : n < W64) :
    Calls Try.prog 55 #[keyV K, .int .u8 tag, .int .u64 n] w fun e w' => e = .returned (keyV (derN K tag n)) ∧ Below w.heap.size w w' := by
  have HB := Lib.hid (fun W => refBlock_any tag n W ht hn)
  have HE := Lib.hid (fun W => refEncrypt_any K (blockN (tagW tag, n)) W hK (blockN_kb _))
  have HX := Lib.hid (wordsN_blockN (tag_wd ht hn))
  clear ht hn hK
  have rk := (key_row w K 32).alloc (.cells #[.int .u8 0, .int .u8 0, .int .u8 0, .int .u8 0, .int .u8 0, .int .u8 0, .int .u8 0, .int .u8 0, .int .u8 0, .int .u8 0, .int .u8 0, .int .u8 0, .int .u8 0, .int .u8 0, .int .u8 0, .int .u8 0] 32)
  have rz := zero_row (w.alloc (.cells #[.int .u8 (K 0), .int .u8 (K 1), .int .u8 (K 2), .int .u8 (K 3), .int .u8 (K 4), .int .u8 (K 5), .int .u8 (K 6), .int .u8 (K 7), .int .u8 (K 8), .int .u8 (K 9), .int .u8 (K 10), .int .u8 (K 11), .int .u8 (K 12), .int .u8 (K 13), .int .u8 (K 14), .int .u8 (K 15)] 32)) (fun _ => 0) (fun _ _ => rfl) 32
  have hB0 : Below w.heap.size w ((w.alloc (.cells #[.int .u8 (K 0), .int .u8 (K 1), .int .u8 (K 2), .int .u8 (K 3), .int .u8 (K 4), .int .u8 (K 5), .int .u8 (K 6), .int .u8 (K 7), .int .u8 (K 8), .int .u8 (K 9), .int .u8 (K 10), .int .u8 (K 11), .int .u8 (K 12), .int .u8 (K 13), .int .u8 (K 14), .int .u8 (K 15)] 32)).alloc (.cells #[.int .u8 0, .int .u8 0, .int .u8 0, .int .u8 0, .int .u8 0, .int .u8 0, .int .u8 0, .int .u8 0, .int .u8 0, .int .u8 0, .int .u8 0, .int .u8 0, .int .u8 0, .int .u8 0, .int .u8 0, .int .u8 0] 32)) := by (repeat' (first | (with_reducible exact Below.refl _ _) | (with_reducible assumption) | (with_reducible refine Below.alloc ?_ ?_ _) | (with_reducible refine Below.drew ?_) | (with_reducible refine below_drewN ?_ _) | (with_reducible refine Below.setCell ?_ ?_ _) | omega | (simp only [Go.Hd.size_drewN, World.size_alloc, World.size_setCell, World.size_drew]; omega) | (simp; omega)))
  rw [World.size_alloc] at rz
  go_enter Try.func55, Try.ntmps55
  go_wp2_with fail
  generalize ((w.alloc (.cells #[.int .u8 (K 0), .int .u8 (K 1), .int .u8 (K 2), .int .u8 (K 3), .int .u8 (K 4), .int .u8 (K 5), .int .u8 (K 6), .int .u8 (K 7), .int .u8 (K 8), .int .u8 (K 9), .int .u8 (K 10), .int .u8 (K 11), .int .u8 (K 12), .int .u8 (K 13), .int .u8 (K 14), .int .u8 (K 15)] 32)).alloc (.cells #[.int .u8 0, .int .u8 0, .int .u8 0, .int .u8 0, .int .u8 0, .int .u8 0, .int .u8 0, .int .u8 0, .int .u8 0, .int .u8 0, .int .u8 0, .int .u8 0, .int .u8 0, .int .u8 0, .int .u8 0, .int .u8 0] 32)) = W at *
  have hlt1 := rk.lt
  have hlt2 := rz.lt
  (have := (rk).cell (i := 0) (by omega); have := (rk).cell (i := 1) (by omega); have := (rk).cell (i := 2) (by omega); have := (rk).cell (i := 3) (by omega); have := (rk).cell (i := 4) (by omega); have := (rk).cell (i := 5) (by omega); have := (rk).cell (i := 6) (by omega); have := (rk).cell (i := 7) (by omega); have := (rk).cell (i := 8) (by omega); have := (rk).cell (i := 9) (by omega); have := (rk).cell (i := 10) (by omega); have := (rk).cell (i := 11) (by omega); have := (rk).cell (i := 12) (by omega); have := (rk).cell (i := 13) (by omega); have := (rk).cell (i := 14) (by omega); have := (rk).cell (i := 15) (by omega))
  have RK := Lib.hid rk
  have RZ := Lib.hid rz
  have HB0 := Lib.hid hB0
  clear rk rz hB0
  go_region_with (first
    | (go_at_call 79
       refine (HB.out _).mono ?_
       rintro e w1 ⟨rfl, hb1⟩
       have hk1 := RK.out.of_block (hb1.block _ hlt1)
       have hz1 := RZ.out.of_block (hb1.block _ hlt2)
       have hB1 := HB0.out.drew.trans (hb1.mono HB0.out.size)
       have HK1 := Lib.hid hk1
       have HZ1 := Lib.hid hz1
       have HB1 := Lib.hid hB1
       (have := (hk1).cell (i := 0) (by omega); have := (hk1).cell (i := 1) (by omega); have := (hk1).cell (i := 2) (by omega); have := (hk1).cell (i := 3) (by omega); have := (hk1).cell (i := 4) (by omega); have := (hk1).cell (i := 5) (by omega); have := (hk1).cell (i := 6) (by omega); have := (hk1).cell (i := 7) (by omega); have := (hk1).cell (i := 8) (by omega); have := (hk1).cell (i := 9) (by omega); have := (hk1).cell (i := 10) (by omega); have := (hk1).cell (i := 11) (by omega); have := (hk1).cell (i := 12) (by omega); have := (hk1).cell (i := 13) (by omega); have := (hk1).cell (i := 14) (by omega); have := (hk1).cell (i := 15) (by omega))
       clear hk1 hz1 hB1 hb1)
    | (go_at_call 78
       refine (HE.out _).mono ?_
       rintro e w2 ⟨rfl, hb2⟩
       have hz2 := HZ1.out.of_block (hb2.block _ HZ1.out.lt)
       have hB2 := HB1.out.trans (hb2.mono HB1.out.size)
       have HZ2 := Lib.hid hz2
       have HB2 := Lib.hid hB2
       (have := (hz2).cell (i := 0) (by omega); have := (hz2).cell (i := 1) (by omega); have := (hz2).cell (i := 2) (by omega); have := (hz2).cell (i := 3) (by omega); have := (hz2).cell (i := 4) (by omega); have := (hz2).cell (i := 5) (by omega); have := (hz2).cell (i := 6) (by omega); have := (hz2).cell (i := 7) (by omega); have := (hz2).cell (i := 8) (by omega); have := (hz2).cell (i := 9) (by omega); have := (hz2).cell (i := 10) (by omega); have := (hz2).cell (i := 11) (by omega); have := (hz2).cell (i := 12) (by omega); have := (hz2).cell (i := 13) (by omega); have := (hz2).cell (i := 14) (by omega); have := (hz2).cell (i := 15) (by omega))
       (have := (hz2).frozen 0; have := (hz2).frozen 1; have := (hz2).frozen 2; have := (hz2).frozen 3; have := (hz2).frozen 4; have := (hz2).frozen 5; have := (hz2).frozen 6; have := (hz2).frozen 7; have := (hz2).frozen 8; have := (hz2).frozen 9; have := (hz2).frozen 10; have := (hz2).frozen 11; have := (hz2).frozen 12; have := (hz2).frozen 13; have := (hz2).frozen 14; have := (hz2).frozen 15)
       clear hz2 hB2 hb2))
  all_goals go_wp2
  all_goals refine bodyPost_ret (v := keyV (blockN (encN K (wordsN (blockN (tagW tag, n))) 32))) ?_ rfl ⟨by rw [HX.out]; rfl, ?_⟩
  all_goals first
    | exact key_result rfl _ _ (w.heap.size + 1) _ rfl (row16_set HZ2.out (fun i => .int .u8 (blockN (encN K (wordsN (blockN (tagW tag, n))) 32) i)))
    | exact below16_set HB2.out (show w.heap.size ≤ w.heap.size + 1 by omega) (fun i => .int .u8 (blockN (encN K (wordsN (blockN (tagW tag, n))) 32) i))

set_option maxRecDepth 100000 in
set_option maxHeartbeats 2000000 in
theorem refNumber_any (K : Nat → Nat) (n most : Nat) (w : World) (hK : Kb K) (hn : n < W64) (hm : most < W64) :
    Calls Try.prog 56 #[keyV K, .int .u64 n, .int .u64 most] w fun e w' => e = .returned (.int .u64 (numN K n most)) ∧ Below w.heap.size w w' := by
  have HD := Lib.hid (fun W => refDerive_any K 3 n W hK (by omega) hn)
  have HX := Lib.hid (words_derN hK (show 3 < 256 by omega) hn)
  clear hn hK
  by_cases h0 : most = 0
  · subst h0
    go_enter Try.func56, Try.ntmps56
    go_wp2
    go_ret
    exact ⟨rfl, by (repeat' (first | (with_reducible exact Below.refl _ _) | (with_reducible assumption) | (with_reducible refine Below.alloc ?_ ?_ _) | (with_reducible refine Below.drew ?_) | (with_reducible refine below_drewN ?_ _) | (with_reducible refine Below.setCell ?_ ?_ _) | omega | (simp only [Go.Hd.size_drewN, World.size_alloc, World.size_setCell, World.size_drew]; omega) | (simp; omega)))⟩
  · have h1 : ((most : Int) == 0) = false := by simp; omega
    have h2 : ¬ ((most : Int) = 0) := by omega
    go_enter Try.func56, Try.ntmps56
    go_wp2_with fail
    refine (HD.out _).mono ?_
    rintro e w1 ⟨rfl, hb1⟩
    have rk := key_row w1 (derN K 3 n) 32
    have r1 := rd_row (off := 0) (n := 8) (cap := 16) rk (by omega) (by omega) (by omega)
    simp only [Nat.zero_add] at r1
    have hv := refValue_any 8 (derN K 3 n) (.slice (some ⟨w1.heap.size, 0, none⟩) 8 16) _ r1 (fun j hj => derN_kb K 3 n j (by omega)) (by omega)
    have hX1 : beN (derN K 3 n) 8 = (encN K (tagW 3, n) 32).1 := by rw [← HX.out]; unfold wordsN; rfl
    rw [hX1] at hv
    have HV := Lib.hid hv
    have hb3 : Below w.heap.size w w1 := by
      rw [World.size_alloc] at hb1
      exact ((Below.refl _ w).alloc (Nat.le_refl _) _).trans (hb1.mono (by omega))
    have hb4 := hb3.alloc hb3.size (.cells #[.int .u8 (derN K 3 n 0), .int .u8 (derN K 3 n 1), .int .u8 (derN K 3 n 2), .int .u8 (derN K 3 n 3), .int .u8 (derN K 3 n 4), .int .u8 (derN K 3 n 5), .int .u8 (derN K 3 n 6), .int .u8 (derN K 3 n 7), .int .u8 (derN K 3 n 8), .int .u8 (derN K 3 n 9), .int .u8 (derN K 3 n 10), .int .u8 (derN K 3 n 11), .int .u8 (derN K 3 n 12), .int .u8 (derN K 3 n 13), .int .u8 (derN K 3 n 14), .int .u8 (derN K 3 n 15)] 32)
    have HB4 := Lib.hid hb4
    have hnum : Hid (((encN K (tagW 3, n) 32).1 : Int) % (most : Int) = ((numN K n most : Nat) : Int)) := by
      show _ = _
      unfold numN; rw [if_neg h0]; norm_cast
    clear hb1 hb3 hb4 rk r1 hv hX1
    generalize (encN K (tagW 3, n) 32).1 = X at *
    go_wp2_with fail
    refine HV.out.mono ?_
    rintro e w2 ⟨rfl, hw2⟩
    rw [hw2] at HB4
    clear hw2 HV
    go_wp2
    go_ret
    exact ⟨by rw [hnum.out]; rfl, HB4.out⟩
end Go.Proofs.Ytmbokpfgnicboaa
