import Derived.Test.YtmbokpfgnicboaaGreatN2
import Derived.Deep.RegionHeld3
import Derived.Test.YtmbokpfgnicboaaGreatLen
set_option linter.unusedVariables false
set_option linter.unusedSimpArgs false
/- The walks of package number: leading zeros; what a round of the division does to its digits. -/
namespace Go.Proofs.YtmbokpfgnicboaaGreat
open Go.RowKit Go.Hd _root_.Hd

/-- The zeros ahead of a digit's bits. -/
def lz (x : Nat) : Nat := 32 - Lib.bitLen x
theorem lz_facts {x : Nat} (h0 : 0 < x) (h : x < B) : lz x < 32 ∧ x * 2 ^ lz x < B ∧ B ≤ 2 * (x * 2 ^ lz x) ∧ Lib.bitLen x ≤ 32 := by
  obtain ⟨i1, i2, i3, i4⟩ := bitLen_bounds 64 x (by unfold B at h; omega) h0
  have hle := Lib.bitLen_le x 32 (by omega) h
  have e : Lib.bitLenAux 64 x = Lib.bitLen x := rfl
  rw [e] at i2 i3 i4
  unfold lz
  have e1 : 2 ^ Lib.bitLen x * 2 ^ (32 - Lib.bitLen x) = B := by rw [← Nat.pow_add, show Lib.bitLen x + (32 - Lib.bitLen x) = 32 by omega]; rfl
  have e2 : 2 * 2 ^ (Lib.bitLen x - 1) = 2 ^ Lib.bitLen x := by rw [← Nat.pow_succ', show (Lib.bitLen x - 1).succ = Lib.bitLen x by omega]
  refine ⟨by omega, ?_, ?_, hle⟩
  · rw [← e1]; exact Nat.mul_lt_mul_of_pos_right i3 (Nat.two_pow_pos _)
  · rw [← e1, ← e2, Nat.mul_assoc]
    exact Nat.mul_le_mul_left _ (Nat.mul_le_mul_right _ i2)

theorem lz_any (x : Nat) (w : World) (h0 : 0 < x) (h : x < B) : Calls Tryz.prog 175 #[.int .u32 x] w fun e w' => e = .returned (.int .i64 (lz x)) ∧ w = w' := by
  obtain ⟨_, _, _, hl⟩ := lz_facts h0 h
  have hB : B = 4294967296 := rfl
  have e : ((lz x : Nat) : Int) = 32 - (Lib.bitLen x : Int) := by unfold lz; omega
  have HL := Lib.hid (len32_any x w (by omega) (by omega))
  rw [Int.toNat_natCast] at HL
  have HE := Lib.hid e
  clear e hB h h0
  go_enter Tryz.func175, Tryz.ntmps175
  go_wp2_with fail
  refine HL.out.mono ?_
  rintro e w1 ⟨rfl, rfl⟩
  go_wp2
  go_ret
  exact ⟨by rw [HE.out]; rfl, rfl⟩

/-- v reads as n digits, none of them in the block b. -/
def RdO (b : Nat) (w : World) (v : Value) (n : Nat) (f : Nat → Nat) : Prop :=
  ∃ A cap, v = .slice A n cap ∧ n ≤ cap ∧ cap ≤ maxLen ∧ (0 < n → ∃ b2 off, A = some ⟨b2, off, none⟩ ∧ b2 ≠ b ∧ ∀ j, j < n → w.cell? ⟨b2, off + j, none⟩ = some (.int .u32 (f j)))
theorem RdO.rd {b : Nat} {w : World} {v : Value} {n : Nat} {f : Nat → Nat} (h : RdO b w v n f) : Rd w .u32 v n f := by
  obtain ⟨A, cap, hv, h1, h2, h3⟩ := h
  exact ⟨A, cap, hv, h1, h2, fun hn => by obtain ⟨b2, off, e, _, hc⟩ := h3 hn; exact ⟨b2, off, e, hc⟩⟩
theorem RdO.grown {b : Nat} {w w1 : World} {v : Value} {n : Nat} {f : Nat → Nat} (h : RdO b w v n f) (hg : w.grownBy w1 (some b)) : RdO b w1 v n f := by
  obtain ⟨A, cap, hv, h1, h2, h3⟩ := h
  refine ⟨A, cap, hv, h1, h2, fun hn => ?_⟩
  obtain ⟨b2, off, e, hne, hc⟩ := h3 hn
  refine ⟨b2, off, e, hne, fun j hj => ?_⟩
  have hb := World.block_lt_of_cell? w _ (hc j hj)
  rw [World.cell?_of_block (hg.block b2 hb (by simpa using hne))]
  exact hc j hj
theorem grown_refl (w : World) (r : Option Nat) : w.grownBy w r := ⟨rfl, rfl, rfl, Nat.le_refl _, fun _ _ _ => rfl⟩
theorem grown_set {w w1 : World} {b : Nat} (h : w.grownBy w1 (some b)) (i : Nat) (v : Value) : w.grownBy (w1.setCell ⟨b, i, none⟩ v) (some b) :=
  ⟨h.os, h.tape, h.output, by rw [World.size_setCell]; exact h.size, fun k hk hne => by
    have hb : k ≠ b := by simpa using hne
    rw [Below.heap_setCell _ _ _ _ (by simpa using hb)]
    exact h.block k hk hne⟩
theorem grown_drewN {w w1 : World} {r : Option Nat} (h : w.grownBy w1 r) (n : Nat) : w.grownBy (w1.drewN n) r := ⟨h.os, h.tape, h.output, h.size, h.block⟩

set_option maxRecDepth 100000 in
set_option maxHeartbeats 1000000 in
theorem subtract_any (b off L N cap n x : Nat) (o g : Nat → Nat) (u : Value) (w : World) (hrow : w.rowIs b 158 N (fun j => .int .u32 (o j : Nat))) (ho : ∀ j, j < N → o j < B) (hoff : off + L ≤ N) (hN : N ≤ 1000000) (hcap : L ≤ cap) (hcap2 : cap ≤ 1000000)
    (hu : RdO b w u n g) (hg : ∀ j, j < n → g j < B) (hn : n < L) (hx : x < B) :
    Calls Tryz.prog 177 #[.slice (some ⟨b, off, none⟩) L cap, u, .int .u64 x] w fun e w' => ∃ (o' : Nat → Nat) (bo : Nat), bo ≤ 1 ∧ e = .returned (.bool (tt (bo = 1))) ∧ w'.rowIs b 158 N (fun j => .int .u32 (o' j : Nat)) ∧ (∀ j, j < N → o' j < B) ∧
      (∀ j, j < off ∨ off + L ≤ j → o' j = o j) ∧ val (fun j => o (off + j)) L + bo * B ^ L = val (fun j => o' (off + j)) L + x * val g n ∧ w.grownBy w' (some b) := by
  have HO := Lib.hid ho
  have HU := Lib.hid hu
  have HG := Lib.hid hg
  have HR := Lib.hid hrow
  obtain ⟨A, c2, rfl, _, _, hu3⟩ := hu
  clear hu3 hg ho hrow
  go_enter Tryz.func177, Tryz.ntmps177
  go_wp2
  go_loopw [7, 8, 13] (fun c bo i wr => ∃ (k c0 b0 : Nat) (p : Nat → Nat), k ≤ L ∧ c0 < B ∧ b0 ≤ 1 ∧ i = .int .i64 k ∧ c = .int .u64 c0 ∧ bo = .int .u32 b0 ∧ (n < k → c0 = 0) ∧ Hid (∀ j, j < N → p j < B) ∧ Hid (∀ j, j < off ∨ off + k ≤ j → p j = o j) ∧
      wr.rowIs b 158 N (fun j => .int .u32 (p j : Nat)) ∧ Hid (val (fun j => o (off + j)) k + b0 * B ^ k + c0 * B ^ k = val (fun j => p (off + j)) k + x * val (dig g n) k) ∧ w.grownBy wr (some b))
    (fun _ _ i _ => L - (intOf i).toNat)
  case atStart =>
    exact ⟨0, 0, 0, o, Nat.zero_le _, B_pos, Nat.zero_le _, rfl, rfl, rfl, fun _ => rfl, HO.out, fun _ _ => rfl, HR.out, by show _ = _; simp [val], grown_refl _ _⟩
  case round =>
    obtain ⟨k, c0, b0, p, hk, hc0, hb0, rfl, rfl, rfl, hcz, hpB, hpo, hrow, hval, hgr⟩ := hrel
    have HR2 := Lib.hid hrow
    have HGr := Lib.hid hgr
    have HU2 := Lib.hid (HU.out.grown hgr)
    have HCZ := Lib.hid hcz
    clear hrow hgr hcz
    unfold B at hc0
    by_cases hlt : k < L
    · have hcell := HR2.out.cell (i := off + k) (by omega)
      have hfz := HR2.out.frozen (off + k)
      have hpk : p (off + k) < 4294967296 := hpB.out (off + k) (by omega)
      have d1 : dig g n k < 4294967296 := dig_lt HG.out k
      have hx' : x < 4294967296 := hx
      have hfit : x * dig g n k + c0 < B * B := by have := mul_fits hx' d1 hc0 B_pos; unfold B at *; omega
      have hxy : (0 : Int) ≤ (x : Int) * (dig g n k : Int) := by
        have := Int.natCast_mul x (dig g n k)
        omega
      have hfit2 : (x : Int) * (dig g n k : Int) + (c0 : Int) ≤ 18446744073709551615 := by
        have h1 : ((x * dig g n k + c0 : Nat) : Int) < ((B * B : Nat) : Int) := Int.ofNat_lt.2 hfit
        rw [Int.natCast_add, Int.natCast_mul] at h1
        have h2 : ((B * B : Nat) : Int) = 18446744073709551616 := by decide
        omega
      have HFit := Lib.hid hfit
      obtain ⟨S, hS⟩ : ∃ S, S = x * dig g n k + c0 := ⟨_, rfl⟩
      have hSi : (x : Int) * (dig g n k : Int) + (c0 : Int) = (S : Int) := by rw [hS, Int.natCast_add, Int.natCast_mul]
      have HS := Lib.hid hS
      have HSi := Lib.hid hSi
      clear hfit hx hS hSi
      go_wp2_with fail
      refine (digit_any n g _ k _ HU2.out.rd HG.out).mono ?_
      rintro e w1 ⟨rfl, rfl⟩
      go_wp2_with fail
      refine (halves_any _ _ (by omega) (by omega)).mono ?_
      rintro e w1 ⟨rfl, rfl⟩
      rw [HSi.out]
      have e1 : (S : Int) % 4294967296 = ((S % B : Nat) : Int) := by unfold B; omega
      have e2 : (S : Int) / 4294967296 = ((S / B : Nat) : Int) := by unfold B; omega
      rw [e1, e2]
      have HSub := Lib.hid (fun W => sub32_any (p (off + k)) (S % B) b0 W hpk (Nat.mod_lt _ B_pos) hb0)
      clear e1 e2 hxy hfit2
      have hSB : S % B < B := Nat.mod_lt _ B_pos
      have hSB2 : S / B < B := carry_fits (by rw [HS.out]; exact HFit.out)
      have HB := Lib.hid hSB
      have HB2 := Lib.hid hSB2
      unfold B at hSB hSB2
      go_wp2_with fail
      refine (HSub.out _).mono ?_
      rintro e w1 ⟨rfl, rfl⟩
      go_wp2
      go_roundw
      case rel =>
        obtain ⟨q, hq⟩ : ∃ q, q = (p (off + k) + B - S % B - b0) % B := ⟨_, rfl⟩
        have hqs : q + S % B + b0 = p (off + k) + brw (p (off + k)) (S % B) b0 * B := by
          rw [hq]; unfold brw; unfold B at *; split <;> omega
        refine ⟨k + 1, S / B, brw (p (off + k)) (S % B) b0, upd p (off + k) q, hlt, HB2.out, by unfold brw; split <;> omega, by go_num, rfl, rfl, fun h => ?_, ?_, ?_, ?_, ?_, ?_⟩
        · rw [HS.out, dig_of_ge (by omega : n ≤ k), Nat.mul_zero, Nat.zero_add]
          exact Nat.div_eq_of_lt hc0
        · exact upd_lt hpB.out (by rw [hq]; exact Nat.mod_lt _ B_pos)
        · intro j hj
          rw [upd_other _ _ (by omega)]
          exact hpo.out j (by omega)
        · exact rowIs_upd HR2.out (off + k) q _ (by rw [hq]; rfl)
        · show _ = _
          have hv := hval.out
          have e3 : val (fun j => upd p (off + k) q (off + j)) k = val (fun j => p (off + j)) k := val_congr fun j hj => upd_other _ _ (by omega)
          have hok : o (off + k) = p (off + k) := (hpo.out (off + k) (by omega)).symm
          rw [val_succ, val_succ, val_succ, e3, upd_same, hok]
          exact subtract_round k hv (by rw [HS.out]) (by rw [HS.out]) hqs
        · exact grown_set HGr.out _ _
      case measure => simp [intOf]; omega
    · obtain rfl : k = L := by omega
      have HT : Hid ((((b0 : Nat) : Int) != 0) = tt (b0 = 1)) := by
        show _ = _
        rcases Nat.lt_or_ge b0 1 with h | h
        · obtain rfl : b0 = 0 := by omega
          rw [tt_neg (by omega)]; rfl
        · obtain rfl : b0 = 1 := by omega
          rw [tt_pos rfl]; rfl
      go_wp2
      go_ret
      have hv := hval.out
      rw [HCZ.out hn, Nat.zero_mul, Nat.add_zero, val_dig (Nat.le_of_lt hn)] at hv
      exact ⟨p, b0, hb0, by rw [← HT.out]; rfl, HR2.out, hpB.out, hpo.out, hv, HGr.out⟩

set_option maxRecDepth 100000 in
set_option maxHeartbeats 1000000 in
theorem giveBack_any (b off L N cap n : Nat) (o g : Nat → Nat) (u : Value) (w : World) (hrow : w.rowIs b 158 N (fun j => .int .u32 (o j : Nat))) (ho : ∀ j, j < N → o j < B) (hoff : off + L ≤ N) (hN : N ≤ 1000000) (hcap : L ≤ cap) (hcap2 : cap ≤ 1000000)
    (hu : RdO b w u n g) (hg : ∀ j, j < n → g j < B) (hn : n < L) :
    Calls Tryz.prog 178 #[.slice (some ⟨b, off, none⟩) L cap, u] w fun e w' => ∃ (o' : Nat → Nat) (c : Nat), (∃ v, e = .returned v) ∧ w'.rowIs b 158 N (fun j => .int .u32 (o' j : Nat)) ∧ (∀ j, j < N → o' j < B) ∧
      (∀ j, j < off ∨ off + L ≤ j → o' j = o j) ∧ val (fun j => o (off + j)) L + val g n = val (fun j => o' (off + j)) L + c * B ^ L ∧ w.grownBy w' (some b) := by
  have HO := Lib.hid ho
  have HU := Lib.hid hu
  have HG := Lib.hid hg
  have HR := Lib.hid hrow
  obtain ⟨A, c2, rfl, _, _, hu3⟩ := hu
  clear hu3 hg ho hrow
  go_enter Tryz.func178, Tryz.ntmps178
  go_wp2
  go_loopw [4, 8] (fun c i wr => ∃ (k c0 : Nat) (p : Nat → Nat), k ≤ L ∧ c0 ≤ 1 ∧ i = .int .i64 k ∧ c = .int .u32 c0 ∧ Hid (∀ j, j < N → p j < B) ∧ Hid (∀ j, j < off ∨ off + k ≤ j → p j = o j) ∧
      wr.rowIs b 158 N (fun j => .int .u32 (p j : Nat)) ∧ Hid (val (fun j => o (off + j)) k + val (dig g n) k = val (fun j => p (off + j)) k + c0 * B ^ k) ∧ w.grownBy wr (some b))
    (fun _ i _ => L - (intOf i).toNat)
  case atStart =>
    exact ⟨0, 0, o, Nat.zero_le _, Nat.zero_le _, rfl, rfl, HO.out, fun _ _ => rfl, HR.out, by show _ = _; simp [val], grown_refl _ _⟩
  case round =>
    obtain ⟨k, c0, p, hk, hc0, rfl, rfl, hpB, hpo, hrow, hval, hgr⟩ := hrel
    have HR2 := Lib.hid hrow
    have HGr := Lib.hid hgr
    have HU2 := Lib.hid (HU.out.grown hgr)
    clear hrow hgr
    by_cases hlt : k < L
    · have hcell := HR2.out.cell (i := off + k) (by omega)
      have hfz := HR2.out.frozen (off + k)
      have hpk : p (off + k) < 4294967296 := hpB.out (off + k) (by omega)
      have d1 : dig g n k < 4294967296 := dig_lt HG.out k
      have HD := Lib.hid (digit_any n g _ k wr.drew (HU2.out.rd.below (Below.refl _ _).drew) HG.out)
      have HAd := Lib.hid (fun W => add32_any (p (off + k)) (dig g n k) c0 W hpk d1 hc0)
      have i0 : (0 : Int) ≤ (k : Int) := by omega
      have i1 : (k : Int) < (L : Int) := by omega
      go_wp2
      have hw : IntKind.u32.wrap (dig g n k : Int) = (dig g n k : Int) := by rw [IntKind.wrap_u32]; omega
      go_region_with (first
        | (go_at_call 151; refine HD.out.mono ?_; rintro e w1 ⟨rfl, rfl⟩)
        | (go_at_call 185; refine (HAd.out _).mono ?_; rintro e w1 ⟨rfl, rfl⟩))
      all_goals
        clear hw
        go_wp2
        go_roundw
        case rel =>
          obtain ⟨q, hq⟩ : ∃ q, q = (p (off + k) + dig g n k + c0) % B := ⟨_, rfl⟩
          have hqs : p (off + k) + dig g n k + c0 = q + (p (off + k) + dig g n k + c0) / B * B := by
            rw [hq]; unfold B; omega
          refine ⟨k + 1, (p (off + k) + dig g n k + c0) / B, upd p (off + k) q, hlt, by unfold B; omega, by go_num, rfl, ?_, ?_, ?_, ?_, ?_⟩
          · exact upd_lt hpB.out (by rw [hq]; exact Nat.mod_lt _ B_pos)
          · intro j hj
            rw [upd_other _ _ (by omega)]
            exact hpo.out j (by omega)
          · exact rowIs_upd (HR2.out.drew) (off + k) q _ (by rw [hq]; rfl)
          · show _ = _
            have hv := hval.out
            have e3 : val (fun j => upd p (off + k) q (off + j)) k = val (fun j => p (off + j)) k := val_congr fun j hj => upd_other _ _ (by omega)
            have hok : o (off + k) = p (off + k) := (hpo.out (off + k) (by omega)).symm
            rw [val_succ, val_succ, val_succ, e3, upd_same, hok]
            exact back_round k hv hqs
          · exact grown_set (grown_drewN HGr.out 1) _ _
        case measure => simp [intOf]; omega
    · obtain rfl : k = L := by omega
      go_wp2
      go_end0
      have hv := hval.out
      rw [val_dig (Nat.le_of_lt hn)] at hv
      exact ⟨p, c0, ⟨_, rfl⟩, HR2.out, hpB.out, hpo.out, hv, HGr.out⟩
end Go.Proofs.YtmbokpfgnicboaaGreat
