import Derived.Test.YtmbokpfgnicboaaGreatBase
import Derived.Test.YtmbokpfgnicboaaGreatProg
import Derived.RangeFuncNested
import Derived.RangeFuncBound
import Derived.RangeFuncCalls
import Derived.RangeFuncLeaves
import Derived.RangeFuncBox
import Derived.RangeFuncWrites
import Derived.Shelf.Abstract
import Derived.OwnWalkIn
import Derived.TacticsInMore
import Derived.LoopNIn
import Derived.LoopIn
set_option linter.unusedVariables false
set_option linter.unusedSimpArgs false
/- The walks of package number: digits, sums, products. -/
namespace Go.Proofs.YtmbokpfgnicboaaGreat
open Go.RowKit Go.Hd _root_.Hd

theorem infoU32 : (Tryz.prog.info? 158).map (fun i => (i.zero, i.size, i.bytes)) = some (some (.int .u32 0), 1, 4) := by kernel_rfl

theorem halves_any (x : Int) (w : World) (h0 : 0 ≤ x) (h1 : x ≤ 18446744073709551615) :
    Calls Tryz.prog 150 #[.int .u64 x] w fun e w' => e = .returned (.tuple #[.int .u32 (x % 4294967296), .int .u64 (x / 4294967296)]) ∧ w = w' := by
  go_enter Tryz.func150, Tryz.ntmps150
  go_wp2
  go_ret2
  exact ⟨rfl, rfl⟩

theorem digit_any (n : Nat) (f : Nat → Nat) (v : Value) (i : Nat) (w : World) (h : Rd w .u32 v n f) (hf : ∀ j, j < n → f j < B) :
    Calls Tryz.prog 151 #[v, .int .i64 i] w fun e w' => e = .returned (.int .u64 (dig f n i)) ∧ w = w' := by
  obtain ⟨A, cap, rfl, h1, h2, h3⟩ := h
  have hl : n ≤ 9223372036854775807 := by unfold maxLen at h2; omega
  by_cases hi : i < n
  · obtain ⟨b, off, rfl, hc⟩ := h3 (by omega)
    have hci := hc i hi
    have hf' : f i < 4294967296 := hf i hi
    rw [dig_of_lt hi]
    have hi2 : ¬ (n ≤ i) := by omega
    clear hc h3 hf
    go_enter Tryz.func151, Tryz.ntmps151
    go_wp2
    go_ret
    exact ⟨rfl, rfl⟩
  · rw [dig_of_ge (by omega)]
    clear h3 hf
    go_enter Tryz.func151, Tryz.ntmps151
    go_wp2
    go_ret
    exact ⟨rfl, rfl⟩

def TrimPost (n : Nat) (f : Nat → Nat) (w : World) (e : Ending) (w' : World) : Prop :=
  ∃ v' k, e = .returned v' ∧ Rd w .u32 v' k f ∧ k ≤ n ∧ (∀ j, k ≤ j → j < n → f j = 0) ∧ (0 < k → f (k - 1) ≠ 0) ∧ w = w'

theorem trim_any (n : Nat) (f : Nat → Nat) (v : Value) (w : World) (h : Rd w .u32 v n f) (hf : ∀ j, j < n → f j < B) :
    Calls Tryz.prog 152 #[v] w (TrimPost n f w) := by
  have hR := h
  obtain ⟨A, cap, rfl, h1, h2, h3⟩ := h
  have hl : n ≤ 9223372036854775807 := by unfold maxLen at h2; omega
  have H3 := Lib.hid h3
  have HF := Lib.hid hf
  clear h3 hf
  go_enter Tryz.func152, Tryz.ntmps152
  go_wp2
  go_loop [3] (fun i => ∃ k : Nat, k ≤ n ∧ i = .int .i64 k ∧ Hid (∀ j, k ≤ j → j < n → f j = 0)) (fun i => (intOf i).toNat)
  case atStart => exact ⟨n, Nat.le_refl _, rfl, fun j h1 h2 => by omega⟩
  case round =>
    obtain ⟨k, hk, rfl, hz⟩ := hrel
    by_cases hk0 : 0 < k
    · obtain ⟨b, off, rfl, hc⟩ := H3.out (by omega)
      have hci := hc (k - 1) (by omega)
      have hfi : f (k - 1) < 4294967296 := HF.out (k - 1) (by omega)
      by_cases hz0 : f (k - 1) = 0
      · have HZ := Lib.hid hz0
        have hq : ((f (k - 1) : Nat) : Int) = 0 := by omega
        rw [hz0] at hci
        clear hc hz0 hq
        go_wp2
        go_round
        case rel => exact ⟨k - 1, by omega, by go_num, fun j h1 h2 => by
          rcases Nat.lt_or_ge j k with h3 | h3
          · have : j = k - 1 := by omega
            rw [this]; exact HZ.out
          · exact hz.out j h3 h2⟩
        case measure => simp [intOf]; omega
      · have HZ := Lib.hid hz0
        have HC := Lib.hid hc
        clear hc
        go_wp2
        go_ret
        exact ⟨_, k, rfl, ⟨_, _, rfl, by omega, h2, fun _ => ⟨b, off, rfl, fun j hj => HC.out j (by omega)⟩⟩, hk, hz.out, fun _ => HZ.out, rfl⟩
    · obtain rfl : k = 0 := by omega
      go_wp2
      go_ret
      exact ⟨_, 0, rfl, ⟨_, _, rfl, by omega, h2, fun h => by omega⟩, by omega, hz.out, fun h => by omega, rfl⟩

/-- A number out of digits: what trim leaves. -/
theorem TrimPost.nt {n : Nat} {f : Nat → Nat} {w w' : World} {e : Ending} (h : TrimPost n f w e w') (hf : ∀ j, j < n → f j < B) : ∃ v', e = .returned v' ∧ Nt w v' (val f n) ∧ w = w' := by
  obtain ⟨v', k, he, hR, hk, hz, ht, hw⟩ := h
  obtain ⟨hcan, hv⟩ := canon_trim hf hk hz ht
  exact ⟨v', he, ⟨k, f, hR, hcan, hv⟩, hw⟩

def NtPost (m : Nat) (w : World) (e : Ending) (w' : World) : Prop := ∃ v', e = .returned v' ∧ Nt w' v' m ∧ Below w.heap.size w w'

set_option maxRecDepth 100000 in
set_option maxHeartbeats 1000000 in
theorem plus_any (n m : Nat) (f g : Nat → Nat) (v u : Value) (w : World) (hv : Rd w .u32 v n f) (hu : Rd w .u32 u m g) (hf : ∀ j, j < n → f j < B) (hg : ∀ j, j < m → g j < B) (hn : n ≤ 1000000) (hm : m ≤ 1000000) :
    Calls Tryz.prog 117 #[v, u] w (NtPost (val f n + val g m) w) := by
  have HV := Lib.hid hv
  have HU := Lib.hid hu
  obtain ⟨A, cap, rfl, hv⟩ := hv
  obtain ⟨A2, cap2, rfl, hu⟩ := hu
  clear hv hu
  have HF := Lib.hid hf
  have HG := Lib.hid hg
  clear hf hg
  obtain ⟨N, hN⟩ : ∃ N, N = max n m := ⟨_, rfl⟩
  have hN1 : n ≤ N := by omega
  have hN2 : m ≤ N := by omega
  have hN3 : N ≤ 1000000 := by omega
  have hmx : max (n : Int) (m : Int) = (N : Int) := by omega
  have hmk := run_make_row' (P := Tryz.prog) 25 158 (.int .u32 0) 4 Tryz.underlying25 infoU32 rfl .i64 .i64 (N + 1) (by omega) (by omega)
  have ec : ((N + 1 : Nat) : Int) = (N : Int) + 1 := by omega
  rw [ec] at hmk
  clear hN ec
  go_enter Tryz.func117, Tryz.ntmps117
  go_wp2
  go_loopw [7, 18] (fun c i wr => ∃ (k c0 : Nat) (o : Nat → Nat), k ≤ N ∧ c0 ≤ 1 ∧ i = .int .i64 k ∧ c = .int .u64 c0 ∧ Hid (∀ j, j < N + 1 → o j < B) ∧
      wr.rowIs w.heap.size 158 (N + 1) (fun j => .int .u32 (o j)) ∧ Hid (val o k + c0 * B ^ k = val (dig f n) k + val (dig g m) k) ∧ Below w.heap.size w wr)
    (fun _ i _ => N - (intOf i).toNat)
  case atStart =>
    exact ⟨0, 0, fun _ => 0, Nat.zero_le _, Nat.zero_le _, rfl, rfl, fun j _ => B_pos, World.rowIs_made _ _ _ _, by show 0 + 0 * B ^ 0 = 0 + 0; omega, (Below.refl _ _).alloc (Nat.le_refl _) _⟩
  case round =>
    obtain ⟨k, c0, o, hk, hc0, rfl, rfl, hoB, hrow, hval, hbel⟩ := hrel
    have HR := Lib.hid hrow
    have HBel := Lib.hid hbel
    have HV2 := Lib.hid (HV.out.below hbel)
    have HU2 := Lib.hid (HU.out.below hbel)
    have hfz := hrow.frozen k
    clear hrow hbel
    by_cases hlt : k < N
    · have hcell := HR.out.cell (i := k) (by omega)
      have d1 : dig f n k < 4294967296 := dig_lt HF.out k
      have d2 : dig g m k < 4294967296 := dig_lt HG.out k
      go_wp2_with fail
      refine (digit_any n f _ k _ HV2.out HF.out).mono ?_
      rintro e w1 ⟨rfl, rfl⟩
      go_wp2_with fail
      refine (digit_any m g _ k _ HU2.out HG.out).mono ?_
      rintro e w1 ⟨rfl, rfl⟩
      go_wp2_with fail
      refine (halves_any _ _ (by omega) (by omega)).mono ?_
      rintro e w1 ⟨rfl, rfl⟩
      go_wp2
      go_roundw
      case rel =>
        have e : ((dig f n k : Int) + dig g m k + c0) = ((dig f n k + dig g m k + c0 : Nat) : Int) := by omega
        refine ⟨k + 1, (dig f n k + dig g m k + c0) / B, upd o k ((dig f n k + dig g m k + c0) % B), hlt, ?_, by go_num, ?_, upd_lt hoB.out (Nat.mod_lt _ B_pos), ?_, ?_, ?_⟩
        · show _ / 4294967296 ≤ 1
          omega
        · rw [e]; rfl
        · exact rowIs_upd HR.out k _ _ (by rw [e]; rfl)
        · show _ = _
          rw [val_upd_next, val_succ, val_succ]
          exact add_round k hval.out rfl rfl
        · exact HBel.out.setCell (p := ⟨w.heap.size, k, none⟩) (Nat.le_refl _) _
      case measure => simp [intOf]; omega
    · obtain rfl : k = N := by omega
      have hcell := HR.out.cell (i := k) (by omega)
      have hrow' := rowIs_upd HR.out k c0 c0 rfl
      have hB1 : 1 < B := by decide
      have hlt' := upd_lt (i := k) hoB.out (d := c0) (by omega)
      have hrd := Lib.hid (rd_of_row hrow' (by omega))
      have HL := Lib.hid hlt'
      have hbel' := Lib.hid (HBel.out.setCell (p := ⟨w.heap.size, k, none⟩) (Nat.le_refl _) (.int .u32 c0))
      clear hrow' hlt'
      go_wp2_with fail
      refine (trim_any (k + 1) _ _ _ hrd.out HL.out).mono ?_
      intro e w' hp
      obtain ⟨v', rfl, hN, rfl⟩ := hp.nt HL.out
      go_wp2
      go_ret
      refine ⟨_, rfl, ?_, hbel'.out⟩
      have hs : val (upd o k c0) (k + 1) = val f n + val g m := by
        rw [val_upd_next, hval.out, val_dig hN1, val_dig hN2]
      rw [← hs]
      exact hN
set_option maxRecDepth 100000 in
set_option maxHeartbeats 1000000 in
theorem times_any (n m : Nat) (f g : Nat → Nat) (v u : Value) (w : World) (hv : Rd w .u32 v n f) (hu : Rd w .u32 u m g) (hf : ∀ j, j < n → f j < B) (hg : ∀ j, j < m → g j < B) (hn : n ≤ 1000000) (hm : m ≤ 1000000) :
    Calls Tryz.prog 118 #[v, u] w (NtPost (val f n * val g m) w) := by
  have HV := Lib.hid hv
  have HU := Lib.hid hu
  obtain ⟨A, cap, rfl, hv⟩ := hv
  obtain ⟨A2, cap2, rfl, hu⟩ := hu
  have HA := Lib.hid hv.2.2
  have HA2 := Lib.hid hu.2.2
  clear hv hu
  have HF := Lib.hid hf
  have HG := Lib.hid hg
  clear hf hg
  have hmk := run_make_row' (P := Tryz.prog) 25 158 (.int .u32 0) 4 Tryz.underlying25 infoU32 rfl .i64 .i64 (n + m) (by omega) (by omega)
  have ec : ((n + m : Nat) : Int) = (n : Int) + m := by omega
  rw [ec] at hmk
  clear ec
  go_enter Tryz.func118, Tryz.ntmps118
  go_wp2
  go_loopw [19] (fun i wr => ∃ (k : Nat) (o : Nat → Nat), k ≤ n ∧ i = .int .i64 k ∧ Hid (∀ j, j < n + m → o j < B) ∧
      wr.rowIs w.heap.size 158 (n + m) (fun j => .int .u32 (o j)) ∧ Hid (val o (k + m) = val f k * val g m) ∧ Hid (∀ j, k + m ≤ j → o j = 0) ∧ Below w.heap.size w wr)
    (fun i _ => n - (intOf i).toNat)
  case atStart =>
    exact ⟨0, fun _ => 0, Nat.zero_le _, rfl, fun j _ => B_pos, World.rowIs_made _ _ _ _, by show val _ _ = 0 * val g m; rw [val_zeros (fun _ _ => rfl)]; omega, fun _ _ => rfl, (Below.refl _ _).alloc (Nat.le_refl _) _⟩
  case round =>
    obtain ⟨k, o, hk, rfl, hoB, hrow, hval, hz, hbel⟩ := hrel
    obtain ⟨wo, hwo⟩ : ∃ wo : World, wo = wr := ⟨_, rfl⟩
    rw [← hwo] at hrow hbel ⊢
    clear hwo
    have HR := Lib.hid hrow
    have HBel := Lib.hid hbel
    clear hrow
    by_cases hlt : k < n
    · obtain ⟨b, off, rfl, hc⟩ := HA.out (by omega)
      have hci := cell_below hbel (hc k hlt)
      have HFk : f k < 4294967296 := HF.out k hlt
      clear hc hbel
      go_wp2
      go_loopw [8, 26] (fun c i wr => ∃ (j c0 : Nat) (p : Nat → Nat), j ≤ m ∧ c0 < 4294967296 ∧ i = .int .i64 j ∧ c = .int .u64 c0 ∧ Hid (∀ t, t < n + m → p t < B) ∧
          wr.rowIs w.heap.size 158 (n + m) (fun t => .int .u32 (p t)) ∧ Hid (val p (k + j) + c0 * B ^ (k + j) = val o (k + j) + f k * val g j * B ^ k) ∧ Hid (∀ t, k + j ≤ t → p t = o t) ∧ Below w.heap.size w wr)
        (fun _ i _ => m - (intOf i).toNat)
      case atStart => exact ⟨0, 0, o, Nat.zero_le _, by omega, rfl, rfl, hoB, HR.out, by show _ = _; simp [val], fun _ _ => rfl, HBel.out⟩
      case round =>
        obtain ⟨j, c0, p, hj, hc0, rfl, rfl, hpB, hrow, hpv, hpo, hbel⟩ := hrel
        have HR2 := Lib.hid hrow
        have HBel2 := Lib.hid hbel
        clear hrow
        by_cases hlt2 : j < m
        · obtain ⟨b2, off2, rfl, hc2⟩ := HA2.out (by omega)
          have hcj := cell_below hbel (hc2 j hlt2)
          have hcp := HR2.out.cell (i := k + j) (by omega)
          have hfz := HR2.out.frozen (k + j)
          have HGj : g j < 4294967296 := HG.out j hlt2
          have HPj : p (k + j) < 4294967296 := hpB.out (k + j) (by omega)
          have hfit : f k * g j + p (k + j) + c0 < B * B := mul_fits HFk HGj HPj hc0
          have hxy : (0 : Int) ≤ (f k : Int) * (g j : Int) := by
            have := Int.natCast_mul (f k) (g j)
            omega
          have hfit2 : (f k : Int) * (g j : Int) + (p (k + j) : Int) + (c0 : Int) ≤ 18446744073709551615 := by
            have h1 : ((f k * g j + p (k + j) + c0 : Nat) : Int) < ((B * B : Nat) : Int) := Int.ofNat_lt.2 hfit
            rw [Int.natCast_add, Int.natCast_add, Int.natCast_mul] at h1
            have h2 : ((B * B : Nat) : Int) = 18446744073709551616 := by decide
            omega
          have HFit := Lib.hid hfit
          clear hc2 hbel hfit
          go_wp2_with fail
          refine (halves_any _ _ (by omega) (by omega)).mono ?_
          rintro e w1 ⟨rfl, rfl⟩
          go_wp2
          go_roundw
          case rel =>
            have e : ((f k : Int) * (g j : Int) + (p (k + j) : Int) + (c0 : Int)) = ((f k * g j + p (k + j) + c0 : Nat) : Int) := by
              rw [Int.natCast_add, Int.natCast_add, Int.natCast_mul]
            refine ⟨j + 1, (f k * g j + p (k + j) + c0) / B, upd p (k + j) ((f k * g j + p (k + j) + c0) % B), hlt2, carry_fits HFit.out, by go_num, by rw [e]; rfl, upd_lt hpB.out (Nat.mod_lt _ B_pos), ?_, ?_, ?_, ?_⟩
            · exact rowIs_upd HR2.out (k + j) _ _ (by rw [e]; rfl)
            · show _ = _
              rw [← Nat.add_assoc, val_upd_next, val_succ, val_succ]
              have := mul_round k j hpv.out (o' := (f k * g j + p (k + j) + c0) % B) (c' := (f k * g j + p (k + j) + c0) / B) (y := g j) (old := p (k + j)) rfl rfl
              rw [hpo.out (k + j) (Nat.le_refl _)] at this ⊢
              exact this
            · intro t ht
              rw [upd_other _ _ (by omega)]
              exact hpo.out t (by omega)
            · exact HBel2.out.setCell (p := ⟨w.heap.size, k + j, none⟩) (Nat.le_refl _) _
          case measure => simp [intOf]; omega
        · obtain rfl : j = m := by omega
          have hcp := HR2.out.cell (i := k + j) (by omega)
          have hfz := HR2.out.frozen (k + j)
          clear hbel
          go_wp2
          go_roundw
          case rel =>
            refine ⟨k + 1, upd p (k + j) c0, hlt, by go_num, upd_lt hpB.out hc0, rowIs_upd HR2.out (k + j) _ _ rfl, ?_, ?_, HBel2.out.setCell (p := ⟨w.heap.size, k + j, none⟩) (Nat.le_refl _) _⟩
            · show _ = _
              rw [show k + 1 + j = k + j + 1 by omega, val_upd_next, hpv.out, hval.out, val_succ, Nat.add_mul]
              rw [Nat.mul_assoc (f k), Nat.mul_comm (val g j), Nat.mul_assoc (f k)]
            · intro t ht
              rw [upd_other _ _ (by omega), hpo.out t (by omega)]
              exact hz.out t (by omega)
          case measure => simp [intOf]; omega
    · obtain rfl : k = n := by omega
      have hrd := Lib.hid (rd_of_row HR.out (by omega))
      clear hbel
      go_wp2_with fail
      refine (trim_any (k + m) _ _ _ hrd.out hoB.out).mono ?_
      intro e w' hp
      obtain ⟨v', rfl, hN, rfl⟩ := hp.nt hoB.out
      go_wp2
      go_ret
      refine ⟨_, rfl, ?_, HBel.out⟩
      rw [← hval.out]
      exact hN
end Go.Proofs.YtmbokpfgnicboaaGreat

/- The walks of package number: valid numbers. -/
namespace Go.Proofs.YtmbokpfgnicboaaGreat
open Go.RowKit Go.Hd _root_.Hd

/-- Too many digits, or a zero at the end. -/
def bad (n : Nat) (f : Nat → Nat) : Bool := decide (16 < n) || (decide (0 < n) && decide (f (n - 1) = 0))

theorem bad_any (n : Nat) (f : Nat → Nat) (v : Value) (w : World) (h : Rd w .u32 v n f) :
    Calls Tryz.prog 147 #[v] w fun e w' => e = .returned (.bool (bad n f)) ∧ w = w' := by
  obtain ⟨A, cap, rfl, h1, h2, h3⟩ := h
  have hl : n ≤ 9223372036854775807 := by unfold maxLen at h2; omega
  by_cases h16 : 16 < n
  · have hb : bad n f = true := by simp [bad, h16]
    rw [hb]
    clear h3 hb
    go_enter Tryz.func147, Tryz.ntmps147
    go_wp2
    go_ret
    exact ⟨rfl, rfl⟩
  · by_cases h0 : 0 < n
    · obtain ⟨b, off, rfl, hc⟩ := h3 h0
      have hci := hc (n - 1) (by omega)
      clear hc
      by_cases hz : f (n - 1) = 0
      · have hb : bad n f = true := by simp [bad, h0, hz]
        rw [hb]
        rw [hz] at hci
        clear h3 hb hz
        go_enter Tryz.func147, Tryz.ntmps147
        go_wp2
        go_ret
        exact ⟨by first | rfl | (simp; omega), rfl⟩
      · have hb : bad n f = false := by simp [bad, hz]; omega
        rw [hb]
        clear h3 hb
        go_enter Tryz.func147, Tryz.ntmps147
        go_wp2
        go_ret
        exact ⟨by first | rfl | (simp; omega), rfl⟩
    · have hb : bad n f = false := by simp [bad]; omega
      rw [hb]
      clear h3 hb
      go_enter Tryz.func147, Tryz.ntmps147
      go_wp2
      go_ret
      exact ⟨by first | rfl | (simp; omega), rfl⟩

def IdxPost (n : Nat) (p : Nat → Bool) (w : World) (e : Ending) (w' : World) : Prop :=
  ∃ r : Int, e = .returned (.int .i64 r) ∧ (r = -1 ∧ (∀ j, j < n → p j = false) ∨ ∃ j : Nat, r = j ∧ j < n ∧ p j = true) ∧ w = w'

theorem index_bad_any (n : Nat) (F : Nat → Value) (N : Nat → Nat) (G : Nat → Nat → Nat) (v : Value) (w : World) (h : RdV w v n F) (hF : ∀ j, j < n → Rd w .u32 (F j) (N j) (G j)) :
    Calls Tryz.prog 172 #[v, .func (.func 147) #[] #[]] w (IdxPost n (fun j => bad (N j) (G j)) w) := by
  obtain ⟨A, cap, rfl, h1, h2, h3⟩ := h
  have hl : n ≤ 9223372036854775807 := by unfold maxLen at h2; omega
  have H3 := Lib.hid h3
  have HF := Lib.hid hF
  clear h3 hF
  go_enter Tryz.func172, Tryz.ntmps172
  go_wp2
  go_loop [8] (fun i => ∃ k : Nat, k ≤ n ∧ i = .int .i64 k ∧ Hid (∀ j, j < k → bad (N j) (G j) = false)) (fun i => n - (intOf i).toNat)
  case atStart => exact ⟨0, Nat.zero_le _, rfl, fun j hj => by omega⟩
  case round =>
    obtain ⟨k, hk, rfl, hz⟩ := hrel
    by_cases hlt : k < n
    · obtain ⟨b, off, rfl, hc⟩ := H3.out (by omega)
      have hci := hc k hlt
      have HR := Lib.hid (HF.out k hlt)
      clear hc
      obtain ⟨c, hc⟩ : ∃ c, c = bad (N k) (G k) := ⟨_, rfl⟩
      have HC := Lib.hid hc
      cases c with
      | true =>
        clear hc
        go_wp2_with (go_at_call 147; refine (bad_any _ _ _ _ HR.out).mono ?_; rw [← HC.out]; rintro e w1 ⟨rfl, rfl⟩)
        go_ret
        exact ⟨_, rfl, .inr ⟨k, rfl, hlt, HC.out.symm⟩, rfl⟩
      | false =>
        clear hc
        go_wp2_with (go_at_call 147; refine (bad_any _ _ _ _ HR.out).mono ?_; rw [← HC.out]; rintro e w1 ⟨rfl, rfl⟩)
        go_round
        case rel => exact ⟨k + 1, hlt, by go_num, fun j hj => by
          rcases Nat.lt_or_ge j k with h | h
          · exact hz.out j h
          · have : j = k := by omega
            rw [this]; exact HC.out.symm⟩
        case measure => simp [intOf]; omega
    · obtain rfl : k = n := by omega
      go_wp2
      go_ret
      exact ⟨_, rfl, .inl ⟨rfl, hz.out⟩, rfl⟩

/-- All of them are valid. -/
def allOk (n : Nat) (N : Nat → Nat) (G : Nat → Nat → Nat) : Prop := ∀ j, j < n → bad (N j) (G j) = false

theorem contains_bad_any (n : Nat) (F : Nat → Value) (N : Nat → Nat) (G : Nat → Nat → Nat) (v : Value) (w : World) (h : RdV w v n F) (hF : ∀ j, j < n → Rd w .u32 (F j) (N j) (G j)) (c : Bool) (hc : c = false ↔ allOk n N G) :
    Calls Tryz.prog 146 #[v, .func (.func 147) #[] #[]] w fun e w' => e = .returned (.bool c) ∧ w = w' := by
  have H := Lib.hid h
  have HF := Lib.hid hF
  have HC := Lib.hid hc
  obtain ⟨A, cap, rfl, _⟩ := h
  clear hF hc
  go_enter Tryz.func146, Tryz.ntmps146
  go_wp2_with fail
  refine (index_bad_any n F N G _ _ H.out HF.out).mono ?_
  rintro e w1 ⟨r, rfl, hr, rfl⟩
  rcases hr with ⟨rfl, hr⟩ | ⟨j, rfl, hj, hr⟩
  · obtain rfl : c = false := HC.out.2 hr
    clear hr
    go_wp2
    go_ret
    exact ⟨rfl, rfl⟩
  · obtain rfl : c = true := by
      cases c with
      | true => rfl
      | false => have h1 := HC.out.1 rfl j hj; have h2 : bad (N j) (G j) = true := hr; rw [h1] at h2; cases h2
    clear hr
    go_wp2
    go_ret
    exact ⟨rfl, rfl⟩

theorem valid_any (n : Nat) (F : Nat → Value) (N : Nat → Nat) (G : Nat → Nat → Nat) (v : Value) (w : World) (h : RdV w v n F) (hF : ∀ j, j < n → Rd w .u32 (F j) (N j) (G j)) (c : Bool) (hc : c = true ↔ allOk n N G) :
    Calls Tryz.prog 111 #[v] w fun e w' => e = .returned (.bool c) ∧ w = w' := by
  have H := Lib.hid h
  have HF := Lib.hid hF
  have HC : Hid ((!c) = false ↔ allOk n N G) := by show _ ↔ _; rw [← hc]; cases c <;> simp
  obtain ⟨A, cap, rfl, _⟩ := h
  clear hF hc
  go_enter Tryz.func111, Tryz.ntmps111
  go_wp2_with fail
  refine (contains_bad_any n F N G _ _ H.out HF.out (!c) HC.out).mono ?_
  rintro e w1 ⟨rfl, rfl⟩
  go_wp2
  go_ret
  exact ⟨by simp, rfl⟩
end Go.Proofs.YtmbokpfgnicboaaGreat

/- The walks of package number: sums, products and comparisons of valid numbers. -/
namespace Go.Proofs.YtmbokpfgnicboaaGreat
open Go.RowKit Go.Hd _root_.Hd

/-- The greatest number and one. -/
def Lim : Nat := B ^ 16

theorem bad_canon {n : Nat} {f : Nat → Nat} (h : Canon f n) : bad n f = false ↔ val f n < Lim := by
  unfold Lim
  rw [← h.len_le_iff 16]
  simp only [bad, Bool.or_eq_false_iff, decide_eq_false_iff_not, Bool.and_eq_false_iff]
  constructor
  · rintro ⟨h1, _⟩; omega
  · intro h1
    refine ⟨by omega, ?_⟩
    rcases Nat.eq_zero_or_pos n with h0 | h0
    · left; omega
    · right; exact h.top h0

theorem len_le_16 {n : Nat} {f : Nat → Nat} (h : Canon f n) (hv : val f n < Lim) : n ≤ 16 := (h.len_le_iff 16).2 hv

theorem limited_ok (n : Nat) (f : Nat → Nat) (v : Value) (w : World) (h : Rd w .u32 v n f) (hn : n ≤ 16) :
    Calls Tryz.prog 140 #[v] w fun e w' => e = .returned (.tuple #[v, .int .i64 0]) ∧ w = w' := by
  obtain ⟨A, cap, rfl, h1, h2, h3⟩ := h
  have hl : n ≤ 9223372036854775807 := by unfold maxLen at h2; omega
  clear h3
  go_enter Tryz.func140, Tryz.ntmps140
  go_wp2
  go_ret2
  exact ⟨rfl, rfl⟩

theorem must_any (v : Value) (r : Int) (w : World) : Calls Tryz.prog 102 #[v, .int .i64 r] w fun e w' => e = .returned v ∧ w = w' := by
  go_enter Tryz.func102, Tryz.ntmps102
  go_wp2
  go_ret
  exact ⟨rfl, rfl⟩

/-- The two digits of a word. -/
def two (x : Nat) : Nat → Nat := fun j => if j = 0 then x % B else x / B
theorem two_val {x : Nat} : val (two x) 2 = x := by
  show (0 + two x 0 * B ^ 0) + two x 1 * B ^ 1 = x
  have h0 : two x 0 = x % B := rfl
  have h1 : two x 1 = x / B := rfl
  rw [h0, h1, Nat.pow_one, Nat.pow_zero]
  have := Nat.div_add_mod x B
  have := Nat.mul_comm (x / B) B
  omega
theorem two_lt {x : Nat} (h : x < 18446744073709551616) : ∀ j, j < 2 → two x j < B := by
  intro j _
  unfold two; split
  · exact Nat.mod_lt _ B_pos
  · exact Nat.div_lt_of_lt_mul h

theorem of_nt (x : Nat) (w : World) (hx : x < 18446744073709551616) : Calls Tryz.prog 159 #[.int .u64 x] w (NtPost x w) := by
  have hx1 : x ≤ 18446744073709551615 := by omega
  have hrow : (w.alloc (.cells #[.int .u32 ((x : Int) % 4294967296), .int .u32 ((x : Int) / 4294967296)] 158)).rowIs w.heap.size 158 2 (fun j => .int .u32 (two x j)) :=
    World.rowIs_alloc w _ _ _ (fun i hi => by
      have : i < 2 := hi
      rcases Nat.lt_or_ge i 1 with h | h
      · obtain rfl : i = 0 := by omega
        rfl
      · obtain rfl : i = 1 := by omega
        rfl)
  have HR := Lib.hid (rd_of_row hrow (by omega))
  clear hrow
  go_enter Tryz.func159, Tryz.ntmps159
  go_wp2_with fail
  refine (trim_any 2 _ _ _ HR.out (two_lt hx)).mono ?_
  intro e w' hp
  obtain ⟨v', rfl, hN, rfl⟩ := hp.nt (two_lt hx)
  rw [two_val] at hN
  have HN := Lib.hid hN
  clear hN
  go_wp2
  go_ret
  exact ⟨_, rfl, HN.out, (Below.refl _ _).alloc (Nat.le_refl _) _⟩

theorem one_nt (w : World) : Calls Tryz.prog 157 #[] w (NtPost 1 w) := by
  go_enter Tryz.func157, Tryz.ntmps157
  go_wp2_with fail
  refine (of_nt 1 _ (by omega)).mono ?_
  rintro e w1 ⟨v', rfl, hN, hB⟩
  have HN := Lib.hid hN
  have HB := Lib.hid hB
  clear hN hB
  go_wp2
  go_ret
  exact ⟨_, rfl, HN.out, HB.out⟩

/-- A number and no error. -/
def Nt2Post (m : Nat) (w : World) (e : Ending) (w' : World) : Prop := ∃ v', e = .returned (.tuple #[v', .int .i64 0]) ∧ Nt w' v' m ∧ Below w.heap.size w w'

/-- Both of two numbers are valid. -/
theorem valid_two {a b : Nat} {v u : Value} (w : World) (hv : Nt w v a) (hu : Nt w u b) (ha : a < Lim) (hb : b < Lim) :
    Calls Tryz.prog 111 #[.slice (some ⟨w.heap.size, 0, none⟩) 2 2] (w.alloc (.cells #[v, u] 25)) fun e w' => e = .returned (.bool true) ∧ w.alloc (.cells #[v, u] 25) = w' := by
  have hv' := hv.below ((Below.refl _ w).alloc (Nat.le_refl _) (.cells #[v, u] 25))
  have hu' := hu.below ((Below.refl _ w).alloc (Nat.le_refl _) (.cells #[v, u] 25))
  obtain ⟨n, f, h1, h2, h3⟩ := hv'
  obtain ⟨m, g, k1, k2, k3⟩ := hu'
  refine valid_any 2 _ (fun j => if j = 0 then n else m) (fun j => if j = 0 then f else g) _ _ (rdV_two w v u _) (fun j hj => ?_) true ⟨fun _ j hj => ?_, fun _ => rfl⟩
  · by_cases h : j = 0
    · simp only [h, if_true]; exact h1
    · simp only [h, if_false]; exact k1
  · by_cases h : j = 0
    · simp only [h, if_true]; rw [bad_canon h2, h3]; exact ha
    · simp only [h, if_false]; rw [bad_canon k2, k3]; exact hb

theorem add_nt (a b : Nat) (v u : Value) (w : World) (hv : Nt w v a) (hu : Nt w u b) (ha : a < Lim) (hb : b < Lim) (hs : a + b < Lim) : Calls Tryz.prog 103 #[v, u] w (Nt2Post (a + b) w) := by
  have HV := Lib.hid hv
  have HU := Lib.hid hu
  have HS := Lib.hid hs
  have HV1 := Lib.hid (valid_two w hv hu ha hb)
  have hal := Lib.hid ((Below.refl _ w).alloc (Nat.le_refl _) (.cells #[v, u] 25))
  obtain ⟨A, n, c, rfl⟩ := hv.shape
  obtain ⟨A2, n2, c2, rfl⟩ := hu.shape
  have hvl := hv
  obtain ⟨n, f, h1, h2, h3⟩ := hv.below hal.out
  obtain ⟨m, g, k1, k2, k3⟩ := hu.below hal.out
  have hn := len_le_16 h2 (h3 ▸ ha)
  have hm := len_le_16 k2 (k3 ▸ hb)
  have HP := Lib.hid (plus_any n m f g _ _ _ h1 k1 h2.lt k2.lt (by omega) (by omega))
  rw [h3, k3] at HP
  clear h1 h2 h3 k1 k2 k3 hvl hn hm hv hu ha hb hs
  go_enter Tryz.func103, Tryz.ntmps103
  go_wp2_with fail
  refine HV1.out.mono ?_
  rintro e w1 ⟨rfl, rfl⟩
  go_wp2_with fail
  refine HP.out.mono ?_
  rintro e w1 ⟨v', rfl, hN, hB⟩
  have HN := Lib.hid hN
  have HB := Lib.hid (below_then hal.out hB)
  obtain ⟨n', f', q1, q2, q3⟩ := hN
  have HL := Lib.hid (limited_ok n' f' v' w1 q1 (len_le_16 q2 (by rw [q3]; exact HS.out)))
  obtain ⟨A3, c3, rfl, _⟩ := q1
  clear q2 q3 hB
  go_wp2_with fail
  refine HL.out.mono ?_
  rintro e w2 ⟨rfl, rfl⟩
  go_wp2
  go_ret2
  exact ⟨_, rfl, HN.out, HB.out⟩

theorem mul_nt (a b : Nat) (v u : Value) (w : World) (hv : Nt w v a) (hu : Nt w u b) (ha : a < Lim) (hb : b < Lim) (hs : a * b < Lim) : Calls Tryz.prog 141 #[v, u] w (Nt2Post (a * b) w) := by
  have HV := Lib.hid hv
  have HU := Lib.hid hu
  have HS := Lib.hid hs
  have HV1 := Lib.hid (valid_two w hv hu ha hb)
  have hal := Lib.hid ((Below.refl _ w).alloc (Nat.le_refl _) (.cells #[v, u] 25))
  obtain ⟨A, n, c, rfl⟩ := hv.shape
  obtain ⟨A2, n2, c2, rfl⟩ := hu.shape
  have hvl := hv
  obtain ⟨n, f, h1, h2, h3⟩ := hv.below hal.out
  obtain ⟨m, g, k1, k2, k3⟩ := hu.below hal.out
  have hn := len_le_16 h2 (h3 ▸ ha)
  have hm := len_le_16 k2 (k3 ▸ hb)
  have HP := Lib.hid (times_any n m f g _ _ _ h1 k1 h2.lt k2.lt (by omega) (by omega))
  rw [h3, k3] at HP
  clear h1 h2 h3 k1 k2 k3 hvl hn hm hv hu ha hb hs
  go_enter Tryz.func141, Tryz.ntmps141
  go_wp2_with fail
  refine HV1.out.mono ?_
  rintro e w1 ⟨rfl, rfl⟩
  go_wp2_with fail
  refine HP.out.mono ?_
  rintro e w1 ⟨v', rfl, hN, hB⟩
  have HN := Lib.hid hN
  have HB := Lib.hid (below_then hal.out hB)
  obtain ⟨n', f', q1, q2, q3⟩ := hN
  have HL := Lib.hid (limited_ok n' f' v' w1 q1 (len_le_16 q2 (by rw [q3]; exact HS.out)))
  obtain ⟨A3, c3, rfl, _⟩ := q1
  clear q2 q3 hB
  go_wp2_with fail
  refine HL.out.mono ?_
  rintro e w2 ⟨rfl, rfl⟩
  go_wp2
  go_ret2
  exact ⟨_, rfl, HN.out, HB.out⟩

end Go.Proofs.YtmbokpfgnicboaaGreat

/- The walks of package number: a slice ranged over backward; the order of two numbers. -/
namespace Go.Proofs.YtmbokpfgnicboaaGreat
open Go.RowKit Go.Shelf Go.Hd _root_.Hd

attribute [local go_sem] Oper.semAt_some

/-- What has come when k rounds are over. -/
def upto {α : Type} (f : Nat → α) (k : Nat) : List α := (List.range k).map f
theorem upto_succ {α : Type} (f : Nat → α) (k : Nat) : upto f (k + 1) = upto f k ++ [f k] := by simp [upto, List.range_succ]
theorem upto_length {α : Type} (f : Nat → α) (k : Nat) : (upto f k).length = k := by simp [upto]

/-- The index that comes at the round k: from the last one on. -/
def bk (n k : Nat) : Nat := n - 1 - k

set_option maxRecDepth 100000 in
set_option maxHeartbeats 2000000 in
theorem back1_in (F : Fence) (n : Nat) (hF : F.fn 160) (hro : F.round = none) (hn : 1 ≤ n) (l Bs n₀ : Nat) (A : Option Addr) (len cap : Nat) (f : Nat → Nat) (hl : len ≤ 9223372036854775807) (W : World) (hR : 0 < len → ∃ b off, A = some ⟨b, off, none⟩ ∧ b < n₀ ∧ ∀ j, j < len → W.cell? ⟨b, off + j, none⟩ = some (.int .u32 (f j)))
    (hBn : Bs < n₀) (J Jx : List (Fin len) → World → Prop)
    (hY : ∀ pre x W, J pre W → pre.length < len → YieldAt F (n - 1) Tryz.prog l #[.int .i64 (x.val : Int), .int .u32 (f x.val : Int)] W fun e W' =>
      (e = .returned (.bool true) ∧ J (pre ++ [x]) W' ∧ Below n₀ W W') ∨ (e = .returned (.bool false) ∧ Jx (pre ++ [x]) W'))
    (hBs : W.cell? ⟨Bs, 0, none⟩ = some (.slice A len cap)) (h0 : J [] W) :
    CallsIn F n Tryz.prog 160 #[.func (.yield l) #[] #[], .pointer (some ⟨Bs, 0, none⟩)] W fun e W' => (∃ v, e = .returned v) ∧
      ((∃ ys, ys.map (·.val) = upto (bk len) len ∧ J ys W') ∨ (∃ pre, (∃ k, k ≤ len ∧ pre.map (·.val) = upto (bk len) k) ∧ Jx pre W')) := by
  have HR := Lib.hid hR
  clear hR
  refine callsIn_of_wp Tryz.func160 rfl hF ?_ hro
  simp only [Tryz.ntmps160, List.size_toArray, List.length_cons, List.length_nil, Nat.reduceAdd, Nat.reduceSub, Array.replicate_succ, Array.replicate_zero, List.push_toArray, List.append_toArray, List.nil_append, List.cons_append]
  gi_wp2
  gi_loopw [3] (fun i wr => ∃ (k : Nat) (pre : List (Fin len)), k ≤ len ∧ i = .int .i64 ((len : Int) - 1 - k) ∧ Hid (pre.map (·.val) = upto (bk len) k) ∧ J pre wr ∧ Below n₀ W wr)
    (fun i _ => (intOf i + 1).toNat)
  case atStart => exact ⟨0, [], Nat.zero_le _, by simp, rfl, h0, Below.refl _ _⟩
  case round =>
    obtain ⟨k, pre, hk, rfl, hpre, hJs, hnx⟩ := hrel
    have hbs := (hnx.cell (p := ⟨Bs, 0, none⟩) hBn).trans hBs
    by_cases hlt : k < len
    · obtain ⟨b, off, rfl, hb, hc⟩ := HR.out (by omega)
      have hcx := (hnx.cell (p := ⟨b, off + (len - 1 - k), none⟩) hb).trans (hc (len - 1 - k) (by omega))
      obtain ⟨i, hi⟩ : ∃ i, i = len - 1 - k := ⟨_, rfl⟩
      have hi2 : (len : Int) - 1 - k = (i : Int) := by omega
      have hil : i < len := by omega
      have hpl : pre.length = k := by
        have := congrArg List.length hpre.out
        rw [upto_length, List.length_map] at this
        exact this
      obtain ⟨fn, tmps, assign, body, hy, hR⟩ := hY _ ⟨i, hil⟩ wr hJs (by omega)
      dsimp only at hy
      rw [← hi] at hcx
      rw [hi2]
      have HI := Lib.hid hi
      have HI2 := Lib.hid hi2
      have HE : Hid ((pre ++ [(⟨i, hil⟩ : Fin len)]).map (·.val) = upto (bk len) (k + 1)) := by
        show _ = _
        have e : bk len k = i := hi.symm
        rw [upto_succ, e, List.map_append, hpre.out]; rfl
      clear hi hi2 hc hBs hpl
      gi_wp2
      refine hR.mono ?_
      rintro e W3 (⟨rfl, hJ3, hk3⟩ | ⟨rfl, hJx3⟩)
      · gi_wp2
        go_roundw
        case rel =>
          have q1 := HI.out
          refine ⟨k + 1, _, by omega, ?_, HE, hJ3, hnx.trans hk3⟩
          congr 1; omega
        case measure =>
          have q1 := HI.out
          have q2 := HI2.out
          simp [intOf] <;> omega
      · gi_wp2
        refine bodyPost_ret (results_none rfl _ _ _) rfl ?_
        exact ⟨⟨_, rfl⟩, .inr ⟨_, ⟨k + 1, by omega, HE.out⟩, hJx3⟩⟩
    · obtain rfl : k = len := by omega
      have he : (k : Int) - 1 - k = -1 := by omega
      rw [he]
      clear he
      gi_wp2
      go_end0
      exact ⟨⟨_, rfl⟩, .inl ⟨_, hpre.out, hJs⟩⟩

set_option maxHeartbeats 1000000 in
theorem back_in (F : Fence) (n : Nat) (hF : F.fn 133) (hro : F.round = none) (A : Option Addr) (len cap : Nat) (w : World) :
    CallsIn F n Tryz.prog 133 #[.slice A len cap] w fun e w' => e = .returned (.func (.func 160) #[] #[.pointer (some ⟨w.heap.size, 0, none⟩)]) ∧ w' = w.alloc (.cells #[.slice A len cap] 25) := by
  refine callsIn_of_wp Tryz.func133 rfl hF ?_ hro
  simp only [Tryz.ntmps133, List.size_toArray, List.length_cons, List.length_nil, Nat.reduceAdd, Nat.reduceSub, Array.replicate_succ, Array.replicate_zero, List.push_toArray, List.append_toArray, List.nil_append, List.cons_append]
  gi_wp2
  go_ret
  exact ⟨rfl, rfl⟩

/-- The range over a slice backward: what a caller owes and is told. -/
theorem back_stops (F : Fence) (n : Nat) (hF : F.fn 160) (hro : F.round = none) (hn : 1 ≤ n) (Bs n₀ : Nat) (v : Value) (len : Nat) (f : Nat → Nat) (w w0 : World) (hBs : Bs < w.heap.size) (hB0 : Bs < n₀) (hn₀ : n₀ ≤ w.heap.size) (hw0 : w0.heap.size ≤ n₀) (hw : Below w0.heap.size w0 w)
    (hc : w.cell? ⟨Bs, 0, none⟩ = some v) (hR : Rd w0 .u32 v len f) :
    SeqStopsK F n Tryz.prog 160 #[.pointer (some ⟨Bs, 0, none⟩)] (fun x : Fin len => #[Value.int .i64 (x.val : Int), Value.int .u32 (f x.val : Int)]) (Below n₀) (fun ys => ys.map (·.val) = upto (bk len) len)
      (fun pre => ∃ k, k ≤ len ∧ pre.map (·.val) = upto (bk len) k) len w := fun l J Jx W hW _ _ hY h0 => by
  have hc' := (hW.cell (p := ⟨Bs, 0, none⟩) hBs).trans hc
  have hlen := hR.len_le
  obtain ⟨A, cap, rfl, h1, h2, h3⟩ := hR
  refine back1_in F n hF hro hn l Bs n₀ A len cap f hlen W (fun h => ?_) hB0 J Jx hY hc' h0
  obtain ⟨b, off, rfl, hcs⟩ := h3 h
  have hb := World.block_lt_of_cell? w0 _ (hcs 0 h)
  refine ⟨b, off, rfl, by simp at hb; omega, fun j hj => ?_⟩
  exact (hW.cell (p := ⟨b, off + j, none⟩) (by have := hw.size; simp at hb; show b < _; omega)).trans ((hw.cell (p := ⟨b, off + j, none⟩) (by simpa using hb)).trans (hcs j hj))

/-- The order of two numbers as -1, 0 or 1. -/
def ord (a b : Nat) : Int := if a < b then -1 else if b < a then 1 else 0

theorem order_len (n m : Nat) (f g : Nat → Nat) (v u : Value) (w : World) (hv : Rd w .u32 v n f) (hu : Rd w .u32 u m g) (h : n ≠ m) :
    Calls Tryz.prog 89 #[v, u] w fun e w' => e = .returned (.int .i64 (if n < m then -1 else 1)) ∧ Below w.heap.size w w' := by
  have hl := hv.len_le
  have hl2 := hu.len_le
  obtain ⟨A, cap, rfl, _, _, hA⟩ := hv
  obtain ⟨A2, cap2, rfl, _, _, hA2⟩ := hu
  clear hA hA2
  by_cases hlt : n < m
  · rw [if_pos hlt]
    have hne : ((n : Int) != (m : Int)) = true := by simp; omega
    clear h
    go_enter Tryz.func89, Tryz.ntmps89
    go_wp2
    refine bodyPost_ret (v := .int .i64 (-1)) (by simp [results, Tryz.f89, go_sem]) rfl ⟨rfl, ?_⟩
    exact (((Below.refl _ w).alloc (Nat.le_refl _) _).alloc (by simp) _)
  · rw [if_neg hlt]
    have hne : ((n : Int) != (m : Int)) = true := by simp; omega
    clear h
    go_enter Tryz.func89, Tryz.ntmps89
    go_wp2
    refine bodyPost_ret (v := .int .i64 1) (by simp [results, Tryz.f89, go_sem]) rfl ⟨rfl, ?_⟩
    exact (((Below.refl _ w).alloc (Nat.le_refl _) _).alloc (by simp) _)

set_option maxRecDepth 100000 in
set_option maxHeartbeats 2000000 in
theorem order_eq_in (F : Fence) (n : Nat) (h4 : F.fn 89) (h6 : F.fn 133) (h8 : F.fn 160) (hro : F.round = none) (hn : 3 ≤ n) (len : Nat) (f g : Nat → Nat) (v u : Value) (w : World) (hv : Rd w .u32 v len f) (hu : Rd w .u32 u len g) (hf : ∀ j, j < len → f j < B) (hg : ∀ j, j < len → g j < B) :
    CallsIn F n Tryz.prog 89 #[v, u] w fun e W' =>
      ((e = .returned (.int .i64 0) ∧ ∀ j, j < len → f j = g j) ∨ (∃ k : Nat, k < len ∧ e = .returned (.int .i64 (if f k < g k then -1 else 1)) ∧ f k ≠ g k ∧ ∀ j, k < j → j < len → f j = g j)) ∧ Below w.heap.size w W' := by
  have HV := Lib.hid hv
  have HU := Lib.hid hu
  have hl := hv.len_le
  obtain ⟨A, cap, rfl, _, _, hA⟩ := hv
  obtain ⟨A2, cap2, rfl, _, _, hA2⟩ := hu
  have HA2 := Lib.hid hA2
  have HG := Lib.hid hg
  have HF := Lib.hid hf
  clear hA hA2 hg hf
  have h1 : 1 ≤ n := by omega
  have hne : ((len : Int) != (len : Int)) = false := by simp
  refine callsIn_of_wp_marks Tryz.func89 rfl h4 ?_ hro
  simp only [Tryz.ntmps89, List.size_toArray, List.length_cons, List.length_nil, Nat.reduceAdd, Nat.reduceSub, Array.replicate_succ, Array.replicate_zero, List.push_toArray, List.append_toArray, List.nil_append, List.cons_append]
  gi_wp2_with (gi_at_call 133; refine (back_in F (n - 1) h6 hro _ _ _ _).mono ?_; rintro e w' ⟨rfl, rfl⟩)
  have hB0 : Below w.heap.size w (((w.alloc (.cells #[.slice A2 len cap2] 25)).alloc (.cells #[.int .i64 0] 3)).alloc (.cells #[.slice A len cap] 25)) := (((Below.refl _ w).alloc (Nat.le_refl _) _).alloc (by simp) _).alloc (by simp; omega) _
  have bB := Boxed.new w 25 (.slice A2 len cap2)
  have bR := Boxed.new (w.alloc (.cells #[.slice A2 len cap2] 25)) 3 (.int .i64 0)
  have bN := Boxed.new ((w.alloc (.cells #[.slice A2 len cap2] 25)).alloc (.cells #[.int .i64 0] 3)) 25 (.slice A len cap)
  rw [World.size_alloc] at bR bN
  rw [World.size_alloc] at bN
  refine wpIn_rangeFunc_ownG hro h1 (gf := 160) (lb := #[.pointer (some ⟨w.heap.size + 1 + 1, 0, none⟩)]) rfl h8 (enters_of Tryz.func160 (by kernel_rfl) rfl)
    (back_stops F (n - 1) h8 hro (by omega) (w.heap.size + 1 + 1) (w.heap.size + 1 + 1 + 1) (.slice A len cap) len f _ w (by simp) (by simp) (by simp) (by omega) hB0 bN.cell HV.out) belowK_t (belowK_b (by first | (simp; done) | (simp; omega))) (Below.refl _ _) (fun _ => rfl)
    (fun pre W => ((∀ p ∈ pre, f p.val = g p.val) ∧ W.cell? ⟨w.heap.size + 1, 0, none⟩ = some (.int .i64 0) ∧ W.frozen? ⟨w.heap.size + 1, 0, none⟩ = false ∧ W.cell? ⟨w.heap.size, 0, none⟩ = some (.slice A2 len cap2)) ∧ Below w.heap.size w W)
    (fun c pre W => (c = .ret ∧ ∃ ini last, pre = ini ++ [last] ∧ (∀ p ∈ ini, f p.val = g p.val) ∧ f last.val ≠ g last.val ∧ W.cell? ⟨w.heap.size + 1, 0, none⟩ = some (.int .i64 (if f last.val < g last.val then -1 else 1))) ∧ Below w.heap.size w W)
    (OwnFrom.and (Own.from (fun s A B row hs hg hr => ⟨hs.1, cell_kept hs.2.1 hg hr, (frozen_kept hs.2.1 hg hr).trans hs.2.2.1, cell_kept hs.2.2.2 hg hr⟩) _) (ownFrom_below (Nat.le_refl _) (by first | (simp; done) | (simp; omega))))
    (fun c => OwnFrom.and (Own.from (fun s A B row hs hg hr => by obtain ⟨hc, ini, last, e1, e2, e3, e4⟩ := hs; exact ⟨hc, ini, last, e1, e2, e3, cell_kept e4 hg hr⟩) _) (ownFrom_below (Nat.le_refl _) (by first | (simp; done) | (simp; omega))))
    ⟨⟨by simp, (bR.alloc _).cell, (bR.alloc _).frozen, ((bB.alloc _).alloc _).cell⟩, hB0⟩
    (fun x => { tmps := #[.slice A len cap, .slice A2 len cap2, undef, .pointer (some ⟨w.heap.size, 0, none⟩), .pointer (some ⟨w.heap.size + 1, 0, none⟩), .int .i64 (x.val : Int), .int .u32 (f x.val : Int), .slice A len cap, .int .i64 len, .slice A2 len cap2, .int .i64 len, .bool false, undef, undef, undef, undef, undef, .slice A len cap,
      .func (.func 160) #[] #[.pointer (some ⟨w.heap.size + 1 + 1, 0, none⟩)], .int .i64 (x.val : Int), .int .u32 (f x.val : Int), undef, undef, undef, undef, undef, undef, undef, undef, undef, undef, undef, undef, undef, undef], defers := [] }) ?assign ?body ?done ?stop
  case assign =>
    intro l x W K hK
    gi_wp2
    exact hK
  case body =>
    rintro l pre x W ⟨⟨hp, hcr, hfr, hcb⟩, hB⟩ _
    have hxl := x.isLt
    obtain ⟨b2, off2, rfl, hc2⟩ := HA2.out (by omega)
    have hcx := cell_below hB (hc2 x.val hxl)
    have hq1 : f x.val < 4294967296 := HF.out _ hxl
    have hq2 : g x.val < 4294967296 := HG.out _ hxl
    have HP := Lib.hid hp
    clear hc2 hp
    by_cases hlt : f x.val < g x.val
    · gi_wp2
      exact ⟨(KeepsOthers.setCell _ _ _).from _, ⟨rfl, pre, x, rfl, HP.out, by omega, by rw [if_pos hlt]; exact World.cell?_setCell_same' _ _ _ (by rw [hcr]; rfl)⟩, hB.setCell (p := ⟨w.heap.size + 1, 0, none⟩) (Nat.le_succ _) _⟩
    · by_cases hgt : g x.val < f x.val
      · gi_wp2
        exact ⟨(KeepsOthers.setCell _ _ _).from _, ⟨rfl, pre, x, rfl, HP.out, by omega, by rw [if_neg hlt]; exact World.cell?_setCell_same' _ _ _ (by rw [hcr]; rfl)⟩, hB.setCell (p := ⟨w.heap.size + 1, 0, none⟩) (Nat.le_succ _) _⟩
      · have heq : f x.val = g x.val := by omega
        have HE := Lib.hid heq
        clear heq
        gi_wp2
        exact ⟨KeepsFrom.refl _ _, Below.refl _ _, ⟨fun p hp' => (List.mem_append.1 hp').elim (HP.out p) (fun e => by simp at e; subst e; exact HE.out), hcr, hfr, hcb⟩, hB⟩
  case done =>
    rintro D ys W hD hys ⟨⟨hne, hcr, hfr, hcb⟩, hB⟩ hK
    have HN := Lib.hid hne
    have HY := Lib.hid hys
    clear hne hys
    gi_wp2
    have hK' := (KeepsOthers.setCell W ⟨w.heap.size + 1, 0, none⟩ (.int .i64 0)).same D _ hK rfl
    refine ⟨by simp, .inl ⟨_, _, rfl, run_takeDeferred hK', ?_⟩⟩
    have hc5 := cell_kept (World.cell?_setCell_same' W ⟨w.heap.size + 1, 0, none⟩ (.int .i64 0) (by rw [hcr]; rfl)) (grownBy_putObj' _ D (.deferred none)) (fun r e => by cases e; exact ⟨_, hK', rfl⟩)
    refine ⟨.int .i64 0, ?_, .inl ⟨rfl, fun j hj => ?_⟩, (hB.setCell (p := ⟨w.heap.size + 1, 0, none⟩) (Nat.le_succ _) _).trans (belowK_b (w := w) (Nat.le_refl _) _ D _ _ (by simp at hD; omega) hK' rfl rfl)⟩
    · simp [results, Tryz.f89, go_sem, hc5]
    · have hm : j ∈ ys.map (·.val) := by
        rw [HY.out]
        simp only [upto, List.mem_map, List.mem_range]
        exact ⟨len - 1 - j, by omega, by show len - 1 - (len - 1 - j) = j; omega⟩
      obtain ⟨p, hp, rfl⟩ := List.mem_map.1 hm
      exact HN.out p hp
  case stop =>
    rintro D c pre W hD ⟨k, hk, hpre⟩ ⟨⟨rfl, ini, last, e1, e2, e3, hcr⟩, hB⟩ hK
    have HPR := Lib.hid hpre
    have HE1 := Lib.hid e1
    have HE2 := Lib.hid e2
    have HE3 := Lib.hid e3
    clear hpre e1 e2 e3
    gi_wp2
    refine ⟨by simp, .inl ⟨_, _, rfl, run_takeDeferred hK, ?_⟩⟩
    have hc5 := cell_kept hcr (grownBy_putObj' _ D (.deferred none)) (fun r e => by cases e; exact ⟨_, hK, rfl⟩)
    have hpre := HPR.out
    obtain ⟨k', rfl⟩ : ∃ k', k = k' + 1 := by
      cases k with
      | zero => rw [HE1.out] at hpre; simp [upto] at hpre
      | succ k' => exact ⟨k', rfl⟩
    rw [HE1.out, upto_succ, List.map_append] at hpre
    obtain ⟨e4, e5⟩ := List.append_inj' hpre rfl
    have e6 : last.val = len - 1 - k' := by
      have : last.val = bk len k' := by simpa using e5
      exact this
    refine ⟨.int .i64 (if f last.val < g last.val then -1 else 1), ?_, .inr ⟨last.val, last.isLt, rfl, HE3.out, fun j hj1 hj2 => ?_⟩, hB.trans (belowK_b (w := w) (Nat.le_refl _) W D _ _ (by simp at hD; omega) hK rfl rfl)⟩
    · simp [results, Tryz.f89, go_sem, hc5]
    · have hm : j ∈ ini.map (·.val) := by
        rw [e4]
        simp only [upto, List.mem_map, List.mem_range]
        exact ⟨len - 1 - j, by omega, by show len - 1 - (len - 1 - j) = j; omega⟩
      obtain ⟨p, hp, rfl⟩ := List.mem_map.1 hm
      exact HE2.out p hp

theorem order_nt (a b : Nat) (v u : Value) (w : World) (hv : Nt w v a) (hu : Nt w u b) : Calls Tryz.prog 89 #[v, u] w fun e w' => e = .returned (.int .i64 (ord a b)) ∧ Below w.heap.size w w' := by
  obtain ⟨n, f, h1, h2, h3⟩ := hv
  obtain ⟨m, g, k1, k2, k3⟩ := hu
  by_cases hnm : n = m
  · subst hnm
    refine (callsIn_wide (n := 3)).1 ((order_eq_in Fence.wide 3 trivial trivial trivial rfl (by omega) n f g v u w h1 k1 h2.lt k2.lt).mono ?_)
    rintro e W' ⟨⟨rfl, he⟩ | ⟨k, hk, rfl, hne, he⟩, hB⟩
    · refine ⟨?_, hB⟩
      have : a = b := by rw [← h3, ← k3]; exact val_congr he
      simp [ord, this]
    · refine ⟨?_, hB⟩
      by_cases hlt : f k < g k
      · have : a < b := by rw [← h3, ← k3]; exact val_lt_of hk h2.lt he hlt
        simp [ord, this, hlt]
      · have : b < a := by rw [← h3, ← k3]; exact val_lt_of hk k2.lt (fun j h1 h2 => (he j h1 h2).symm) (by omega)
        simp [ord, this, hlt, show ¬ a < b by omega]
  · refine (order_len n m f g v u w h1 k1 hnm).mono ?_
    rintro e W' ⟨rfl, hB⟩
    refine ⟨?_, hB⟩
    by_cases hlt : n < m
    · have := h2.len_lt k2 hlt
      simp [ord, hlt, show a < b by omega]
    · have := k2.len_lt h2 (show m < n by omega)
      simp [ord, hlt, show b < a by omega, show ¬ a < b by omega]
end Go.Proofs.YtmbokpfgnicboaaGreat
