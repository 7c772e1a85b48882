import Derived.Test.YtmbokpfgnicboaaC8
set_option linter.unusedVariables false
set_option linter.unusedSimpArgs false
/- The walks of the specification of the cipher: Encrypt, Derive, Number. -/
namespace Go.Proofs.Ytmbokpfgnicboaa
open Go.RowKit Go.Hd _root_.Hd

set_option maxRecDepth 100000 in
set_option maxHeartbeats 2000000 in
theorem refEncrypt_any (K b : Nat → Nat) (w : World) (hK : Kb K) (hb : Kb b) :
    Calls Try.prog 78 #[keyV K, keyV b] w fun e w' => e = .returned (keyV (blockN (encN K (wordsN b) 32))) ∧ Below w.heap.size w w' := by
  have HK := Lib.hid hK
  have HBb := Lib.hid hb
  clear hK hb
  have rk := ((key_row w K 32).alloc (.cells #[.int .u8 (b 0), .int .u8 (b 1), .int .u8 (b 2), .int .u8 (b 3), .int .u8 (b 4), .int .u8 (b 5), .int .u8 (b 6), .int .u8 (b 7), .int .u8 (b 8), .int .u8 (b 9), .int .u8 (b 10), .int .u8 (b 11), .int .u8 (b 12), .int .u8 (b 13), .int .u8 (b 14), .int .u8 (b 15)] 32)).alloc (.cells #[.int .u8 0, .int .u8 0, .int .u8 0, .int .u8 0, .int .u8 0, .int .u8 0, .int .u8 0, .int .u8 0, .int .u8 0, .int .u8 0, .int .u8 0, .int .u8 0, .int .u8 0, .int .u8 0, .int .u8 0, .int .u8 0] 32)
  have rz := zero_row ((w.alloc (.cells #[.int .u8 (K 0), .int .u8 (K 1), .int .u8 (K 2), .int .u8 (K 3), .int .u8 (K 4), .int .u8 (K 5), .int .u8 (K 6), .int .u8 (K 7), .int .u8 (K 8), .int .u8 (K 9), .int .u8 (K 10), .int .u8 (K 11), .int .u8 (K 12), .int .u8 (K 13), .int .u8 (K 14), .int .u8 (K 15)] 32)).alloc (.cells #[.int .u8 (b 0), .int .u8 (b 1), .int .u8 (b 2), .int .u8 (b 3), .int .u8 (b 4), .int .u8 (b 5), .int .u8 (b 6), .int .u8 (b 7), .int .u8 (b 8), .int .u8 (b 9), .int .u8 (b 10), .int .u8 (b 11), .int .u8 (b 12), .int .u8 (b 13), .int .u8 (b 14), .int .u8 (b 15)] 32)) (fun _ => 0) (fun _ _ => rfl) 32
  have hB0 : Below w.heap.size w (((w.alloc (.cells #[.int .u8 (K 0), .int .u8 (K 1), .int .u8 (K 2), .int .u8 (K 3), .int .u8 (K 4), .int .u8 (K 5), .int .u8 (K 6), .int .u8 (K 7), .int .u8 (K 8), .int .u8 (K 9), .int .u8 (K 10), .int .u8 (K 11), .int .u8 (K 12), .int .u8 (K 13), .int .u8 (K 14), .int .u8 (K 15)] 32)).alloc (.cells #[.int .u8 (b 0), .int .u8 (b 1), .int .u8 (b 2), .int .u8 (b 3), .int .u8 (b 4), .int .u8 (b 5), .int .u8 (b 6), .int .u8 (b 7), .int .u8 (b 8), .int .u8 (b 9), .int .u8 (b 10), .int .u8 (b 11), .int .u8 (b 12), .int .u8 (b 13), .int .u8 (b 14), .int .u8 (b 15)] 32)).alloc (.cells #[.int .u8 0, .int .u8 0, .int .u8 0, .int .u8 0, .int .u8 0, .int .u8 0, .int .u8 0, .int .u8 0, .int .u8 0, .int .u8 0, .int .u8 0, .int .u8 0, .int .u8 0, .int .u8 0, .int .u8 0, .int .u8 0] 32)) := by (repeat' (first | (with_reducible exact Below.refl _ _) | (with_reducible assumption) | (with_reducible refine Below.alloc ?_ ?_ _) | (with_reducible refine Below.drew ?_) | (with_reducible refine below_drewN ?_ _) | (with_reducible refine Below.setCell ?_ ?_ _) | omega | (simp only [Go.Hd.size_drewN, World.size_alloc, World.size_setCell, World.size_drew]; omega) | (simp; omega)))
  rw [World.size_alloc, World.size_alloc] at rz
  have HRK := Lib.hid rk
  have HRZ := Lib.hid rz
  have HB0 := Lib.hid hB0
  clear rk rz hB0
  go_enter Try.func78, Try.ntmps78
  go_wp2_with fail
  refine (refWords2_any b _ HBb.out).mono ?_
  rintro e w1 ⟨rfl, hb1⟩
  have rk1 := HRK.out.of_block (hb1.block _ HRK.out.lt)
  have HRZ1 := Lib.hid (HRZ.out.of_block (hb1.block _ HRZ.out.lt))
  have HB1 := Lib.hid (HB0.out.trans (hb1.mono HB0.out.size))
  have hl0 := rk1.lt
  (have := (rk1).cell (i := 0) (by omega); have := (rk1).cell (i := 1) (by omega); have := (rk1).cell (i := 2) (by omega); have := (rk1).cell (i := 3) (by omega); have := (rk1).cell (i := 4) (by omega); have := (rk1).cell (i := 5) (by omega); have := (rk1).cell (i := 6) (by omega); have := (rk1).cell (i := 7) (by omega); have := (rk1).cell (i := 8) (by omega); have := (rk1).cell (i := 9) (by omega); have := (rk1).cell (i := 10) (by omega); have := (rk1).cell (i := 11) (by omega); have := (rk1).cell (i := 12) (by omega); have := (rk1).cell (i := 13) (by omega); have := (rk1).cell (i := 14) (by omega); have := (rk1).cell (i := 15) (by omega))
  clear rk1 hb1
  go_wp2_with fail
  refine (refRoundKeys_any K w1 HK.out).mono ?_
  rintro e w2 ⟨v, rfl, hr2, hb2⟩
  have HRZ2 := Lib.hid (HRZ1.out.of_block (hb2.block _ HRZ1.out.lt))
  have HB2 := Lib.hid (HB1.out.trans (hb2.mono HB1.out.size))
  have HR2 := Lib.hid hr2
  obtain ⟨A, cap, rfl, _, _, h3⟩ := hr2
  obtain ⟨bk, off, rfl, hc⟩ := h3 (by omega)
  have HC := Lib.hid hc
  clear hb2 hc h3 HRK HRZ HB0 HRZ1 HB1
  go_wp2
  go_loopw [5, 6, 8] (fun x y i wr => ∃ k : Nat, k ≤ 32 ∧ i = .int .i64 k ∧ x = .int .u64 ((encN K (wordsN b) k).1 : Nat) ∧ y = .int .u64 ((encN K (wordsN b) k).2 : Nat) ∧ Drawn w2 wr) (fun _ _ i _ => 32 - (intOf i).toNat)
  case atStart => exact ⟨0, by omega, rfl, rfl, rfl, Drawn.refl _⟩
  case round =>
    obtain ⟨k, hk, rfl, rfl, rfl, hdr⟩ := hrel
    by_cases hlt : k < 32
    · have HS := Lib.hid (sched_wd HK.out k (by omega)).2
      have HE := Lib.hid (encN_wd HK.out (wordsN_wd HBb.out) k (by omega))
      have hs : encN K (wordsN b) (k + 1) = rnd (encN K (wordsN b) k) (sched K k).2 := rfl
      have hci : wr.cell? ⟨bk, off + k, none⟩ = some (.int .u64 ((sched K k).2 : Nat)) := cell_below hdr.below (HC.out k hlt)
      generalize encN K (wordsN b) k = p at *
      generalize (sched K k).2 = s at *
      obtain ⟨x, y⟩ := p
      have HRR := Lib.hid (round_ref x y s HE.out HS.out)
      have HD := Lib.hid hdr
      have HSS := Lib.hid hs
      clear hdr hs
      dsimp only
      go_wp2
      go_quiet ((go_at_call 105; first | exact quiet_add_d (rotr8_any x _ HE.out.1) | exact quiet_one_d (rotr8_any x _ HE.out.1)))
      go_wp2_with fail
      refine (refRotl_any y _ HE.out.2).mono ?_
      rintro e w3 ⟨rfl, hd3⟩
      have hx1 := HRR.out.1
      have hx2 := HRR.out.2.2
      rw [hx1]
      have HD3 := Lib.hid ((HD.out.drewN _).trans hd3)
      obtain ⟨q, hq⟩ : ∃ q, q = rnd (x, y) s := ⟨_, rfl⟩
      have hss := HSS.out
      rw [← hq] at hx2 hss ⊢
      have HSQ := Lib.hid hss
      clear hd3 hx1 HRR hq hss HSS
      go_wp2
      go_roundw
      case rel => exact ⟨k + 1, by omega, by go_num, by rw [HSQ.out], by rw [HSQ.out], HD3.out⟩
      case measure => simp [intOf]; omega
    · obtain rfl : k = 32 := by omega
      have HBk := Lib.hid (refBlk_any (encN K (wordsN b) 32).1 (encN K (wordsN b) 32).2 wr (encN_wd HK.out (wordsN_wd HBb.out) 32 (by omega)).1 (encN_wd HK.out (wordsN_wd HBb.out) 32 (by omega)).2)
      have HB3 := Lib.hid (HB2.out.trans (hdr.below.mono HB2.out.size))
      have HRZ3 := Lib.hid (HRZ2.out.of_block (hdr.below.block _ HRZ2.out.lt))
      have hsz := HB3.out.size
      clear hdr
      go_wp2_with fail
      refine HBk.out.mono ?_
      rintro e w4 ⟨rfl, hb4⟩
      have hz4 := HRZ3.out.of_block (hb4.block _ HRZ3.out.lt)
      have HZ4 := Lib.hid hz4
      have HB4 := Lib.hid (HB3.out.trans (hb4.mono hsz))
      (have := (hz4).cell (i := 0) (by omega); have := (hz4).cell (i := 1) (by omega); have := (hz4).cell (i := 2) (by omega); have := (hz4).cell (i := 3) (by omega); have := (hz4).cell (i := 4) (by omega); have := (hz4).cell (i := 5) (by omega); have := (hz4).cell (i := 6) (by omega); have := (hz4).cell (i := 7) (by omega); have := (hz4).cell (i := 8) (by omega); have := (hz4).cell (i := 9) (by omega); have := (hz4).cell (i := 10) (by omega); have := (hz4).cell (i := 11) (by omega); have := (hz4).cell (i := 12) (by omega); have := (hz4).cell (i := 13) (by omega); have := (hz4).cell (i := 14) (by omega); have := (hz4).cell (i := 15) (by omega))
      (have := (hz4).frozen 0; have := (hz4).frozen 1; have := (hz4).frozen 2; have := (hz4).frozen 3; have := (hz4).frozen 4; have := (hz4).frozen 5; have := (hz4).frozen 6; have := (hz4).frozen 7; have := (hz4).frozen 8; have := (hz4).frozen 9; have := (hz4).frozen 10; have := (hz4).frozen 11; have := (hz4).frozen 12; have := (hz4).frozen 13; have := (hz4).frozen 14; have := (hz4).frozen 15)
      clear hz4 hb4
      go_wp2
      refine bodyPost_ret (v := keyV (blockN (encN K (wordsN b) 32))) ?_ rfl ⟨rfl, ?_⟩
      · exact key_result rfl _ _ (w.heap.size + 1 + 1) _ rfl (row16_set HZ4.out (fun i => .int .u8 (blockN (encN K (wordsN b) 32) i)))
      · exact below16_set HB4.out (by omega) (fun i => .int .u8 (blockN (encN K (wordsN b) 32) i))
end Go.Proofs.Ytmbokpfgnicboaa
