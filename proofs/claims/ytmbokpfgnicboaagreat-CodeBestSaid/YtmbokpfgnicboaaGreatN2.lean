import Derived.Test.YtmbokpfgnicboaaGreatN1
import Derived.Test.YtmbokpfgnicboaaGreatPlain
import Derived.Test.YtmbokpfgnicboaaGreatApp
import Derived.Lib.BitFns
set_option linter.unusedVariables false
set_option linter.unusedSimpArgs false
/- The walks of package number: shifted digits; Clone. -/
namespace Go.Proofs.YtmbokpfgnicboaaGreat
open Go.RowKit Go.Hd _root_.Hd

theorem or_shift_int {s c x : Nat} (hs : s < 32) (hc : c < 2 ^ s) : bits .or .u32 (c : Int) ((x : Int) * 2 ^ s % 4294967296) = ((c + x * 2 ^ s % B : Nat) : Int) := by
  have e : (x : Int) * 2 ^ s % 4294967296 = ((x * 2 ^ s % B : Nat) : Int) := by
    have : ((x * 2 ^ s : Nat) : Int) = (x : Int) * 2 ^ s := by rw [Int.natCast_mul, Int.natCast_pow]; rfl
    rw [← this]; unfold B; omega
  have h1 := sum_shift hs hc x
  rw [e, u32_or_nat _ _ (by unfold B at h1; omega) (by unfold B at h1 ⊢; omega), or_shift hs hc]
theorem high_shift_int {s x : Nat} (hs : s < 32) (hx : x < B) : IntKind.u64.wrap ((x : Int) * 2 ^ s) / 4294967296 % 4294967296 = ((x * 2 ^ s / B : Nat) : Int) := by
  have h1 : x * 2 ^ s < B * B := Nat.mul_lt_mul_of_lt_of_lt hx (Nat.pow_lt_pow_right (a := 2) (by omega) hs : 2 ^ s < 2 ^ 32)
  have : ((x * 2 ^ s : Nat) : Int) = (x : Int) * 2 ^ s := by rw [Int.natCast_mul, Int.natCast_pow]; rfl
  rw [IntKind.wrap_u64, ← this]
  unfold B at *
  omega
theorem shift_round {s x : Nat} {o : Nat → Nat} {k : Nat} {V : Nat} (hz : o (k + 1) = 0) (hv : val o (k + 1) = V * 2 ^ s) :
    val (upd (upd o k (o k + x * 2 ^ s % B)) (k + 1) (x * 2 ^ s / B)) (k + 1 + 1) = (V + x * B ^ k) * 2 ^ s := by
  rw [val_upd_next, val_succ, val_upd_ge _ _ (Nat.le_refl _), upd_same]
  rw [val_succ] at hv
  have h := Nat.div_add_mod (x * 2 ^ s) B
  have e : x * 2 ^ s * B ^ k = (B * (x * 2 ^ s / B) + x * 2 ^ s % B) * B ^ k := by rw [h]
  rw [Nat.add_mul] at e
  have e2 : x * 2 ^ s / B * B ^ (k + 1) = B * (x * 2 ^ s / B) * B ^ k := by rw [Nat.pow_succ, Nat.mul_comm (B ^ k) B, ← Nat.mul_assoc, Nat.mul_comm B (x * 2 ^ s / B)]
  have e3 : (V + x * B ^ k) * 2 ^ s = V * 2 ^ s + x * 2 ^ s * B ^ k := by rw [Nat.add_mul, Nat.mul_assoc, Nat.mul_comm (B ^ k), ← Nat.mul_assoc]
  rw [Nat.add_mul, e3, e2, ← hv, e]
  omega

set_option maxRecDepth 100000 in
set_option maxHeartbeats 1000000 in
theorem shifted_any (n s : Nat) (f : Nat → Nat) (v : Value) (w : World) (hv : Rd w .u32 v n f) (hf : ∀ j, j < n → f j < B) (hn : n ≤ 1000000) (hs : s < 32) :
    Calls Tryz.prog 176 #[v, .int .u64 s] w fun e w' => ∃ b o, e = .returned (.slice (some ⟨b, 0, none⟩) (n + 1) (n + 1)) ∧ w.heap.size ≤ b ∧ w'.rowIs b 158 (n + 1) (fun j => .int .u32 (o j : Nat)) ∧ (∀ j, j < n + 1 → o j < B) ∧ val o (n + 1) = val f n * 2 ^ s ∧ Below w.heap.size w w' := by
  have HV := Lib.hid hv
  obtain ⟨A, cap, rfl, hv⟩ := hv
  have HA := Lib.hid hv.2.2
  clear hv
  have HF := Lib.hid hf
  clear hf
  have hmk := run_make_row' (P := Tryz.prog) 25 158 (.int .u32 0) 4 Tryz.underlying25 infoU32 rfl .i64 .i64 (n + 1) (by omega) (by omega)
  have ec : ((n + 1 : Nat) : Int) = (n : Int) + 1 := by omega
  rw [ec] at hmk
  clear ec
  go_enter Tryz.func176, Tryz.ntmps176
  go_wp2
  go_loopw [14] (fun i wr => ∃ (k : Nat) (o : Nat → Nat), k ≤ n ∧ i = .int .i64 k ∧ Hid (∀ j, j < n + 1 → o j < B) ∧ Hid (o k < 2 ^ s) ∧ Hid (∀ j, k < j → o j = 0) ∧
      wr.rowIs w.heap.size 158 (n + 1) (fun j => .int .u32 (o j)) ∧ Hid (val o (k + 1) = val f k * 2 ^ s) ∧ Below w.heap.size w wr)
    (fun i _ => n - (intOf i).toNat)
  case atStart =>
    exact ⟨0, fun _ => 0, Nat.zero_le _, rfl, fun j _ => B_pos, Nat.two_pow_pos s, fun _ _ => rfl, World.rowIs_made _ _ _ _, by show 0 + 0 * B ^ 0 = 0 * 2 ^ s; omega, (Below.refl _ _).alloc (Nat.le_refl _) _⟩
  case round =>
    obtain ⟨k, o, hk, rfl, hoB, hok, hoz, hrow, hval, hbel⟩ := hrel
    have HR := Lib.hid hrow
    have HBel := Lib.hid hbel
    have hfz := hrow.frozen k
    have hfz2 := hrow.frozen (k + 1)
    clear hrow
    by_cases hlt : k < n
    · obtain ⟨b, off, rfl, hc⟩ := HA.out (by omega)
      have hci := cell_below hbel (hc k hlt)
      have hcell := HR.out.cell (i := k) (by omega)
      have hcell2 := HR.out.cell (i := k + 1) (by omega)
      have HFk : f k < 4294967296 := HF.out k hlt
      have hs0 : (0 : Int) ≤ (s : Int) := by omega
      have hs1 : (s : Int) ≤ 32 := by omega
      clear hc hbel
      go_wp2
      go_roundw
      case rel =>
        have hz := hoz.out (k + 1) (by omega)
        have e1 := or_shift_int (x := f k) hs hok.out
        have e2 := high_shift_int hs HFk
        refine ⟨k + 1, upd (upd o k (o k + f k * 2 ^ s % B)) (k + 1) (f k * 2 ^ s / B), hlt, by go_num, ?_, ?_, ?_, ?_, ?_, ?_⟩
        · exact upd_lt (upd_lt hoB.out (sum_shift hs hok.out _)) (Nat.lt_of_lt_of_le (high_shift HFk) (Nat.pow_le_pow_right (n := 2) (by omega) (Nat.le_of_lt hs)))
        · show upd _ _ _ _ < _
          rw [upd_same]
          exact high_shift HFk
        · intro j hj
          rw [upd_other _ _ (by omega), upd_other _ _ (by omega)]
          exact hoz.out j (by omega)
        · exact rowIs_upd (rowIs_upd HR.out k _ _ e1) (k + 1) _ _ e2
        · exact shift_round hz hval.out
        · exact (HBel.out.setCell (p := ⟨w.heap.size, k, none⟩) (Nat.le_refl _) _).setCell (p := ⟨w.heap.size, k + 1, none⟩) (Nat.le_refl _) _
      case measure => simp [intOf]; omega
    · obtain rfl : k = n := by omega
      clear hbel
      go_wp2
      go_ret
      exact ⟨_, o, rfl, Nat.le_refl _, HR.out, hoB.out, hval.out, HBel.out⟩

theorem shr_int {d1 d0 s : Nat} (h1 : d1 < 4294967296) (h0 : d0 < 4294967296) : bits .or .u64 ((d1 : Int) * 4294967296) (d0 : Int) / 2 ^ s % 4294967296 = (((d1 * B + d0) / 2 ^ s % B : Nat) : Int) := by
  have h := Nat.two_pow_add_eq_or_of_lt (i := 32) (b := d0) h0 d1
  have e1 : (d1 : Int) * 4294967296 = ((d1 * 4294967296 : Nat) : Int) := by omega
  rw [e1, u64_or_nat _ _ (by omega) (by omega), show d1 * 4294967296 = 2 ^ 32 * d1 by omega, ← h]
  have e2 : (2 : Int) ^ s = ((2 ^ s : Nat) : Int) := by rw [Int.natCast_pow]; rfl
  rw [e2, show d1 * B + d0 = 2 ^ 32 * d1 + d0 by unfold B; omega]
  generalize 2 ^ 32 * d1 + d0 = X
  rw [Int.natCast_emod, Int.natCast_ediv]
  rfl

set_option maxRecDepth 100000 in
set_option maxHeartbeats 1000000 in
theorem unshifted_any (n s : Nat) (f : Nat → Nat) (v : Value) (w : World) (hv : Rd w .u32 v n f) (hf : ∀ j, j < n → f j < B) (hn : n ≤ 1000000) (hs : s < 32) :
    Calls Tryz.prog 179 #[v, .int .u64 s] w (NtPost (val f n / 2 ^ s) w) := by
  have HV := Lib.hid hv
  obtain ⟨A, cap, rfl, hv⟩ := hv
  clear hv
  have HF := Lib.hid hf
  clear hf
  have hmk := run_make_row' (P := Tryz.prog) 25 158 (.int .u32 0) 4 Tryz.underlying25 infoU32 rfl .i64 .i64 n (by omega) (by omega)
  go_enter Tryz.func179, Tryz.ntmps179
  go_wp2
  go_loopw [12] (fun i wr => ∃ (k : Nat) (o : Nat → Nat), k ≤ n ∧ i = .int .i64 k ∧ wr.rowIs w.heap.size 158 n (fun j => .int .u32 (o j)) ∧ Hid (∀ j, j < k → o j = shr (dig f n) s j) ∧ Below w.heap.size w wr)
    (fun i _ => n - (intOf i).toNat)
  case atStart =>
    exact ⟨0, fun _ => 0, Nat.zero_le _, rfl, World.rowIs_made _ _ _ _, fun j hj => by omega, (Below.refl _ _).alloc (Nat.le_refl _) _⟩
  case round =>
    obtain ⟨k, o, hk, rfl, hrow, ho, hbel⟩ := hrel
    have HR := Lib.hid hrow
    have HBel := Lib.hid hbel
    have HV2 := Lib.hid (HV.out.below hbel)
    have hfz := hrow.frozen k
    clear hrow hbel
    by_cases hlt : k < n
    · have hcell := HR.out.cell (i := k) (by omega)
      have d1 : dig f n k < 4294967296 := dig_lt HF.out k
      have d2 : dig f n (k + 1) < 4294967296 := dig_lt HF.out (k + 1)
      have hs0 : (0 : Int) ≤ (s : Int) := by omega
      have hs1 : (s : Int) ≤ 32 := by omega
      have HD1 := Lib.hid (fun W (h : Rd W .u32 (.slice A n cap) n f) => digit_any n f _ (k + 1) W h HF.out)
      rw [show ((k + 1 : Nat) : Int) = (k : Int) + 1 by omega] at HD1
      go_wp2_with fail
      refine (HD1.out _ HV2.out).mono ?_
      rintro e w1 ⟨rfl, rfl⟩
      go_wp2_with fail
      refine (digit_any n f _ k _ HV2.out HF.out).mono ?_
      rintro e w1 ⟨rfl, rfl⟩
      go_wp2
      go_roundw
      case rel =>
        refine ⟨k + 1, upd o k (shr (dig f n) s k), hlt, by go_num, rowIs_upd HR.out k _ _ (shr_int d2 d1), fun j hj => ?_, HBel.out.setCell (p := ⟨w.heap.size, k, none⟩) (Nat.le_refl _) _⟩
        rcases Nat.lt_or_ge j k with h | h
        · rw [upd_other _ _ (by omega)]; exact ho.out j h
        · obtain rfl : j = k := by omega
          rw [upd_same]
      case measure => simp [intOf]; omega
    · obtain rfl : k = n := by omega
      have hrd := Lib.hid (rd_of_row HR.out (by omega))
      have HL : Hid (∀ j, j < k → o j < B) := fun j hj => by rw [ho.out j hj]; exact Nat.mod_lt _ B_pos
      go_wp2_with fail
      refine (trim_any k _ _ _ hrd.out HL.out).mono ?_
      intro e w' hp
      obtain ⟨v', rfl, hN, rfl⟩ := hp.nt HL.out
      go_wp2
      go_ret
      refine ⟨_, rfl, ?_, HBel.out⟩
      have hs2 : val o k = val f k / 2 ^ s := by
        rw [val_congr (g := shr (dig f k) s) ho.out, val_shr hs k _ (fun j => dig_lt HF.out j) (dig_of_ge (Nat.le_refl _)), val_dig (Nat.le_refl _)]
      rw [← hs2]
      exact hN

/-- A number without its zeros. -/
theorem nt_trim {n k : Nat} {f : Nat → Nat} {v : Value} {w : World} (h : Rd w .u32 v n f) (hf : Canon f n) : Nt w v (val f n) := ⟨n, f, h, hf, rfl⟩

set_option maxRecDepth 100000 in
theorem clone_rd (n : Nat) (f : Nat → Nat) (v : Value) (w : World) (h : Rd w .u32 v n f) (hn : n ≤ 1000000) :
    Calls Tryz.prog 173 #[v] w fun e w' => (∃ v', e = .returned v' ∧ Rd w' .u32 v' n f) ∧ Below w.heap.size w w' := by
  have HV := Lib.hid h
  obtain ⟨A, cap, rfl, h1, h2, h3⟩ := h
  rcases A with _ | ad
  · have h0 : n = 0 := by
      rcases Nat.eq_zero_or_pos n with h0 | h0
      · exact h0
      · obtain ⟨b, off, hA, _⟩ := h3 h0
        cases hA
    subst h0
    clear h3
    have hq := fun w => Lib.run_eql_slice_nil (P := Tryz.prog) w 25 158 none 0 cap 0 0 Tryz.underlying25
    go_enter Tryz.func173, Tryz.ntmps173
    go_wp2
    go_ret
    exact ⟨⟨_, rfl, Rd.nil _ _ _⟩, Below.refl _ _⟩
  · clear h3
    have HE : Hid ((w.alloc (.cells #[] 158)).ownsRow w.heap.size 158 1 (.slice (some ⟨w.heap.size, 0, none⟩) 0 0) 0 []) := World.ownsRow_lit w #[] 0 (Nat.le_refl _) (by unfold maxLen; omega) rfl
    have HV2 := Lib.hid (HV.out.below ((Below.refl _ w).alloc (Nat.le_refl _) (.cells #[] 158)))
    have hq := fun w => Lib.run_eql_slice_nil (P := Tryz.prog) w 25 158 (some ad) n cap 0 0 Tryz.underlying25
    go_enter Tryz.func173, Tryz.ntmps173
    go_wp2_with (at_builtin; refine wp_app w.heap.size rfl (.tmp 5) (.tmp 6) 25 158 (.int .u32 0) 4 rfl Tryz.underlying25 infoU32 rfl (by decide) _ [] rfl _ n _ rfl HV2.out.toV (fun _ _ => rfl) HE.out (by simp) (by simp; omega) ?_; intro v1 w1 hown1 hg1; simp only [List.length_nil, Nat.zero_add, List.nil_append] at hown1; have HO := Lib.hid hown1; have HB1 := Lib.hid (below_own ((Below.refl w.heap.size w).alloc (Nat.le_refl _) _) HE.out hg1 (by simp)); obtain ⟨A1, c1, rfl⟩ := own_slice hown1; clear hown1 hg1)
    go_ret
    exact ⟨⟨_, rfl, rd_of_own HO.out⟩, HB1.out⟩

theorem clone_nt (a : Nat) (v : Value) (w : World) (h : Nt w v a) (n : Nat) (ha : a < B ^ 1000) : Calls Tryz.prog 173 #[v] w (NtPost a w) := by
  obtain ⟨n, f, h1, h2, h3⟩ := h
  have := (h2.len_le_iff 1000).2 (by rw [h3]; exact ha)
  refine (clone_rd n f v w h1 (by omega)).mono ?_
  rintro e w' ⟨⟨v', rfl, h4⟩, hB⟩
  exact ⟨v', rfl, ⟨n, f, h4, h2, h3⟩, hB⟩

theorem bitLen_bounds : ∀ (k x : Nat), x < 2 ^ k → 0 < x → Lib.bitLenAux k x ≤ k ∧ 2 ^ (Lib.bitLenAux k x - 1) ≤ x ∧ x < 2 ^ Lib.bitLenAux k x ∧ 0 < Lib.bitLenAux k x
  | 0, x, h, h0 => by simp at h; omega
  | k + 1, x, h, h0 => by
    unfold Lib.bitLenAux
    rw [if_neg (by omega)]
    by_cases h2 : x / 2 = 0
    · have h1 : x = 1 := by omega
      have e : Lib.bitLenAux k (x / 2) = 0 := by rw [h2]; cases k <;> simp [Lib.bitLenAux]
      rw [e]; subst h1; simp
    · obtain ⟨i1, i2, i3, i4⟩ := bitLen_bounds k (x / 2) (by rw [Nat.pow_succ] at h; omega) (by omega)
      refine ⟨by omega, ?_, ?_, by omega⟩
      · rw [show 1 + Lib.bitLenAux k (x / 2) - 1 = (Lib.bitLenAux k (x / 2) - 1) + 1 by omega, Nat.pow_succ]; omega
      · rw [Nat.add_comm 1, Nat.pow_succ]; omega
end Go.Proofs.YtmbokpfgnicboaaGreat
