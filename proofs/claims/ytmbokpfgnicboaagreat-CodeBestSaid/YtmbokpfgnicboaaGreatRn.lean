import Derived.Test.YtmbokpfgnicboaaGreatRm
import Derived.Test.YtmbokpfgnicboaaGreatPm
import Derived.Test.YtmbokpfgnicboaaGreatPlain
set_option linter.unusedVariables false
set_option linter.unusedSimpArgs false
/- The walks of the reference's package of numbers: bit, Parted, Common. -/
namespace Go.Proofs.YtmbokpfgnicboaaGreat
open Go.RowKit Go.Hd _root_.Hd

set_option maxRecDepth 100000 in
/-- A bit of a number. -/
theorem rbit_any (n : Nat) (f : Nat → Nat) (i t s : Nat) (v : Value) (w : World) (h : Rd w .u32 v n f) (hf : ∀ j, j < n → f j < B) (hi : i < 9223372036854775807) (ht : t = i / 32) (hs0 : s = i % 32) :
    Calls Tryz.prog 161 #[v, .int .i64 i] w fun e w' => e = .returned (.int .u64 (dig f n t / 2 ^ s % 2 : Nat)) ∧ w = w' := by
  have HA := Lib.hid (rat_any n f t v w h hf)
  have hd : dig f n t < 4294967296 := dig_lt hf _
  obtain ⟨A, cap, rfl, h1, h2, h3⟩ := h
  have e1 : ((i : Int) / 32) = (t : Int) := by omega
  have e2 : ((i : Int) % 32) = (s : Int) := by omega
  have hs : s < 32 := by omega
  have w1 : IntKind.i64.wrap (t : Int) = (t : Int) := by rw [IntKind.wrap_i64]; omega
  have w2 : IntKind.i64.wrap (s : Int) = (s : Int) := by rw [IntKind.wrap_i64]; omega
  clear h3 hf h2 ht hs0
  generalize dig f n t = x at *
  go_enter Tryz.func161, Tryz.ntmps161
  go_wp2_with fail
  refine HA.out.mono ?_
  rintro e wm ⟨rfl, rfl⟩
  go_wp2
  go_ret
  exact ⟨rfl, rfl⟩

theorem nt_rd {w : World} {v : Value} {a : Nat} (h : Nt w v a) (ha : a < Big) : ∃ n f, Rd w .u32 v n f ∧ Canon f n ∧ val f n = a ∧ n ≤ 1000 := by
  obtain ⟨n, f, h1, h2, h3⟩ := h
  exact ⟨n, f, h1, h2, h3, len_big h2 (by rw [h3]; exact ha)⟩
/-- So great that no sum and no product of two of these is greater. -/
def Huge : Nat := B ^ 2000
set_option exponentiation.threshold 3000 in
theorem nt_rh {w : World} {v : Value} {a : Nat} (h : Nt w v a) (ha : a < Huge) : ∃ n f, Rd w .u32 v n f ∧ Canon f n ∧ val f n = a ∧ n ≤ 2000 := by
  obtain ⟨n, f, h1, h2, h3⟩ := h
  exact ⟨n, f, h1, h2, h3, (h2.len_le_iff 2000).2 (by rw [h3]; exact ha)⟩
set_option exponentiation.threshold 3000 in
theorem huge_eq : Huge = Big * Big := (Nat.pow_add B 1000 1000)
theorem huge_of {a : Nat} (h : a < Big) : a < Huge := by
  rw [huge_eq]
  exact Nat.lt_of_lt_of_le h (Nat.le_mul_of_pos_left _ (by omega))
theorem huge_add {a b : Nat} (h : a < Big) (k : b < Big) : a + b < Huge := by
  rw [huge_eq]
  rcases Nat.lt_or_ge Big 2 with h2 | h2
  · have : a = 0 := by omega
    have : b = 0 := by omega
    subst a b
    exact Nat.mul_pos (by omega) (by omega)
  · have := Nat.mul_le_mul_right Big h2
    omega
theorem huge_mul {a b : Nat} (h : a < Big) (k : b < Big) : a * b < Huge := by
  rw [huge_eq]
  exact Nat.mul_lt_mul'' h k
theorem rplus_nt (a b : Nat) (v u : Value) (w : World) (hv : Nt w v a) (hu : Nt w u b) (ha : a < Huge) (hb : b < Huge) : Calls Tryz.prog 92 #[v, u] w (RfPost (a + b) w) := by
  obtain ⟨n, f, h1, h2, h3, h4⟩ := nt_rh hv ha
  obtain ⟨m, g, k1, k2, k3, k4⟩ := nt_rh hu hb
  rw [← h3, ← k3]
  exact rplus_any n m f g v u w h1 k1 h2.lt k2.lt (by omega) (by omega)
theorem rtimes_nt (a b : Nat) (v u : Value) (w : World) (hv : Nt w v a) (hu : Nt w u b) (ha : a < Huge) (hb : b < Huge) : Calls Tryz.prog 135 #[v, u] w (NtPost (a * b) w) := by
  obtain ⟨n, f, h1, h2, h3, h4⟩ := nt_rh hv ha
  obtain ⟨m, g, k1, k2, k3, k4⟩ := nt_rh hu hb
  rw [← h3, ← k3]
  exact rtimes_any n m f g v u w h1 k1 h2.lt k2.lt (by omega) (by omega)
theorem rminus_nt (a b : Nat) (v u : Value) (w : World) (hv : Nt w v a) (hu : Nt w u b) (ha : a < Huge) (hab : b ≤ a) : Calls Tryz.prog 162 #[v, u] w (RfPost (a - b) w) := by
  obtain ⟨n, f, h1, h2, h3, h4⟩ := nt_rh hv ha
  obtain ⟨m, g, k1, k2, k3, k4⟩ := nt_rh hu (Nat.lt_of_le_of_lt hab ha)
  rw [← h3, ← k3]
  refine rminus_any n m f g v u w h1 k1 h2.lt k2.lt (by omega) (by omega) ?_
  rcases Nat.lt_or_ge n m with h | h
  · have := h2.len_lt k2 h
    omega
  · exact h
theorem rorder_nt (a b : Nat) (v u : Value) (w : World) (hv : Nt w v a) (hu : Nt w u b) : Calls Tryz.prog 81 #[v, u] w fun e w' => e = .returned (.int .i64 (ord a b)) ∧ w = w' := by
  obtain ⟨n, f, h1, h2, h3⟩ := hv
  obtain ⟨m, g, k1, k2, k3⟩ := hu
  rw [← h3, ← k3]
  exact rorder_any n m f g v u w h1 k1 h2.lt k2.lt

/-- What a loop that divides bit by bit has done: k bits are left. -/
def BitAt (X b n k : Nat) (q : Nat → Nat) (r : Nat) : Prop := ∃ Q, X / 2 ^ k = Q * b + r ∧ r < b ∧ (∀ j, j < n → q j < B) ∧ val q n = Q * 2 ^ k ∧ Lo q n k
theorem BitAt.skip {X b n i : Nat} {q : Nat → Nat} {r : Nat} (h : BitAt X b n (i + 1) q r) (hlt : 2 * r + X / 2 ^ i % 2 < b) : BitAt X b n i q (2 * r + X / 2 ^ i % 2) := by
  obtain ⟨Q, h1, h2, h3, h4, h5⟩ := h
  refine ⟨2 * Q, bit_round h1, hlt, h3, ?_, h5.mono (Nat.le_succ _)⟩
  rw [h4, Nat.pow_succ, Nat.mul_comm 2 Q, Nat.mul_assoc, Nat.mul_comm (2 ^ i) 2]
theorem BitAt.take {X b n i t s : Nat} {q : Nat → Nat} {r : Nat} (h : BitAt X b n (i + 1) q r) (hi : i = 32 * t + s) (hs : s < 32) (ht : t < n) (hge : b ≤ 2 * r + X / 2 ^ i % 2) : q t + 2 ^ s < B ∧ BitAt X b n i (upd q t (q t + 2 ^ s)) (2 * r + X / 2 ^ i % 2 - b) := by
  obtain ⟨Q, h1, h2, h3, h4, h5⟩ := h
  have h5' : Lo q n (32 * t + s + 1) := hi ▸ h5
  have hr := h5'.room hs ht (h3 t ht)
  refine ⟨hr, 2 * Q + 1, bit_round_up h1 hge, by omega, upd_lt h3 hr, ?_, hi ▸ h5'.set hs⟩
  rw [val_add_at q _ ht, h4, Bpow_two, ← Nat.pow_add, Nat.add_comm s, ← hi, Nat.add_mul, Nat.one_mul, Nat.pow_succ, Nat.mul_comm 2 Q, Nat.mul_assoc, Nat.mul_comm (2 ^ i) 2]
theorem BitAt.done {X b n : Nat} {q : Nat → Nat} {r : Nat} (h : BitAt X b n 0 q r) : val q n = X / b ∧ r = X % b := by
  obtain ⟨Q, h1, h2, h3, h4, h5⟩ := h
  rw [Nat.pow_zero, Nat.div_one] at h1
  rw [Nat.pow_zero, Nat.mul_one] at h4
  have hb : 0 < b := by omega
  rw [h1, Nat.mul_comm Q b, Nat.mul_add_div hb, Nat.mul_add_mod, Nat.div_eq_of_lt h2, Nat.mod_eq_of_lt h2]
  exact ⟨by omega, rfl⟩
theorem BitAt.start {f : Nat → Nat} {n m k : Nat} {b : Nat} (hk : k + (m - 1) = n) (hm : 0 < m) (hf : ∀ j, j < n → f j < B) (hb : B ^ (m - 1) ≤ b) : BitAt (val f n) b n (32 * k) (fun _ => 0) (val (fun j => f (k + j)) (m - 1)) := by
  subst hk
  have hv : val (fun j => f (k + j)) (m - 1) < B ^ (m - 1) := val_lt (fun j hj => hf _ (by omega))
  refine ⟨0, ?_, by omega, fun j hj => B_pos, ?_, Lo.zero _ _⟩
  · rw [← Bpow_two, val_top hf]; omega
  · rw [val_zeros (fun _ _ => rfl)]; omega
end Go.Proofs.YtmbokpfgnicboaaGreat

/- The walks of the reference's package of numbers: Parted. -/
namespace Go.Proofs.YtmbokpfgnicboaaGreat
open Go.RowKit Go.Hd _root_.Hd
set_option exponentiation.threshold 2000

/-- The digits from k on. -/
theorem rd_from {w : World} {k : IntKind} {b off n cap : Nat} {f : Nat → Nat} (h : Rd w k (.slice (some ⟨b, off, none⟩) n cap) n f) (i : Nat) (hi : i ≤ n) : Rd w k (.slice (some ⟨b, off + i, none⟩) (n - i) (cap - i)) (n - i) (fun j => f (i + j)) := by
  obtain ⟨A, c, e, h1, h2, h3⟩ := h
  cases e
  refine ⟨_, _, rfl, by omega, by omega, fun h0 => ?_⟩
  obtain ⟨b', off', e, hc⟩ := h3 (by omega)
  cases e
  exact ⟨b, off + i, rfl, fun j hj => by rw [Nat.add_assoc]; exact hc (i + j) (by omega)⟩

/-- A number that lies above a block is not touched by a store in it. -/
theorem nt_apart {w : World} {b : Nat} {x : Value} {m : Nat} (h : Nt w x m) (hf : Fresh (b + 1) x) (i : Nat) (u : Value) : Nt (w.setCell ⟨b, i, none⟩ u) x m := by
  obtain ⟨n, f, ⟨A, cap, hv, h1, h2, h3⟩, h4⟩ := h
  refine ⟨n, f, ⟨A, cap, hv, h1, h2, fun hn => ?_⟩, h4⟩
  obtain ⟨b', off, hA, hc⟩ := h3 hn
  refine ⟨b', off, hA, fun j hj => ?_⟩
  obtain ⟨A', n', c', e, hA'⟩ := hf
  rw [hv] at e
  cases e
  rcases hA' with hA' | ⟨b2, off2, hA', hge⟩
  · rw [hA] at hA'; cases hA'
  · rw [hA] at hA'
    cases hA'
    rw [World.cell?_setCell_other (h := fun e => by cases e; omega)]
    exact hc j hj
theorem nt_drew {w : World} {x : Value} {m : Nat} (h : Nt w x m) : Nt w.drew x m := h.below (Below.refl _ _).drew

set_option maxRecDepth 100000 in
set_option maxHeartbeats 1000000 in
/-- The quotient and the rest. -/
theorem rparted_nt (a b : Nat) (v u : Value) (w : World) (hv : Nt w v a) (hu : Nt w u b) (ha : a < Big) (hb0 : 0 < b) (hb : b < Big) :
    Calls Tryz.prog 136 #[v, u] w fun e w' => ∃ q r, e = .returned (.tuple #[q, r]) ∧ Nt w' q (a / b) ∧ Nt w' r (a % b) ∧ Below w.heap.size w w' := by
  obtain ⟨n, f, hv, cf, ea, hn⟩ := nt_rd hv ha
  obtain ⟨m, g, hu2, cg, eb, hm⟩ := nt_rd hu hb
  have hm0 : 1 ≤ m := by
    rcases Nat.eq_zero_or_pos m with h0 | h0
    · subst h0; simp [val] at eb; omega
    · exact h0
  have HV := Lib.hid hv
  have HU := Lib.hid hu
  obtain ⟨A2, cap2, rfl, _, _, _⟩ := hu2
  by_cases hnm : n < m
  · have HL : Hid (a < b) := by show a < b; rw [← ea, ← eb]; exact cf.len_lt cg hnm
    have HT := Lib.hid (rtrim_any n f v w hv cf.lt (by omega))
    rw [ea] at HT
    obtain ⟨A, cap, rfl, _, _, _⟩ := hv
    clear hu cf cg ea eb
    go_enter Tryz.func136, Tryz.ntmps136
    go_wp2_with fail
    refine HT.out.mono ?_
    rintro e w1 ⟨v1, rfl, hN, hB, _⟩
    have HN := Lib.hid hN
    have HB1 := Lib.hid hB
    clear hN hB
    go_wp2
    go_ret2
    exact ⟨_, v1, rfl, by rw [Nat.div_eq_of_lt HL.out]; exact Nt.nil _, by rw [Nat.mod_eq_of_lt HL.out]; exact HN.out, HB1.out⟩
  · obtain ⟨A, cap, rfl, hc1, hc2, hc3⟩ := hv
    obtain ⟨bb, off, rfl, hc4⟩ := hc3 (by omega)
    obtain ⟨k, hk⟩ : ∃ k, k = n - m + 1 := ⟨_, rfl⟩
    have hkn : k ≤ n := by omega
    have hcapm : cap ≤ 9223372036854775807 := by unfold maxLen at hc2; omega
    have hRf := rd_from HV.out k hkn
    have hdf : ∀ j, j < n - k → f (k + j) < B := fun j hj => cf.lt _ (by omega)
    have HT := Lib.hid (fun W (h : Below w.heap.size w W) => rtrim_any (n - k) (fun j => f (k + j)) _ W (hRf.below h) hdf (by omega))
    have HS : Hid (BitAt a b n (32 * k) (fun _ => 0) (val (fun j => f (k + j)) (n - k))) := by
      have h := BitAt.start (f := f) (n := n) (m := m) (k := k) (b := b) (by omega) hm0 cf.lt (by rw [← eb]; exact cg.lower hm0)
      rw [ea, show m - 1 = n - k by omega] at h
      exact h
    have HBt := Lib.hid (fun i t s W (h : Below w.heap.size w W) (h1 : i < 32 * n) (ht : t = i / 32) (hs : s = i % 32) => rbit_any n f i t s _ W (HV.out.below h) cf.lt (by omega) ht hs)
    have HBv := Lib.hid (fun t s (hs : s < 32) (ht : t < n) => bit_val (f := f) (n := n) hs ht cf.lt)
    rw [ea] at HBv
    have HDg := Lib.hid (fun t (ht : t < n) => dig_of_lt (f := f) ht)
    have hmk := run_make_row' (P := Tryz.prog) 25 158 (.int .u32 0) 4 Tryz.underlying25 infoU32 rfl .i64 .i64 n (by omega) (by omega)
    have hkZ : (n : Int) - m + 1 = (k : Int) := by omega
    have hk1 : (k : Int) ≤ (n : Int) := by omega
    have hk2 : (k : Int) ≤ (cap : Int) := by omega
    have Hb := Lib.hid hb
    have Hb0 := Lib.hid hb0
    have HK := Lib.hid hk
    clear hu cf cg ea eb hRf hdf hc3 hc4 hc2 hb hb0 ha hk
    have HT0 : Hid (cap = k → ∀ W, Calls Tryz.prog 113 #[.slice (some ⟨bb, off, none⟩) (n - k) 0] W (RfPost (val (fun j => f (k + j)) (n - k)) W)) := fun hck W => by
      have h0 : n - k = 0 := by omega
      rw [h0]
      exact rtrim_any 0 (fun j => f (k + j)) _ W ⟨_, _, rfl, Nat.le_refl _, by unfold maxLen; omega, fun h => absurd h (by omega)⟩ (fun j hj => absurd hj (by omega)) (by omega)
    generalize val (fun j => f (k + j)) (n - k) = r0 at *
    go_enter Tryz.func136, Tryz.ntmps136
    go_upto_region 5 with fail
    go_cut [8] (fun s8 wx => Hid (Nt wx s8 r0 ∧ Fresh (w.heap.size + 1) s8) ∧ wx.rowIs w.heap.size 158 n (fun j => .int .u32 (((fun _ => 0 : Nat → Nat) j : Nat) : Int)) ∧ Below w.heap.size w wx)
    case first =>
      have hr0 := Lib.hid (World.rowIs_made w (.int .u32 0) n 158)
      by_cases hck : cap = k
      · have HT1 := Lib.hid (HT0.out hck)
        go_wp2_with fail
        refine (HT1.out _).mono ?_
        rintro e w1 ⟨v1, rfl, hN, hB, hFr⟩
        have HN := Lib.hid hN
        have HB1 := Lib.hid hB
        have HFr := Lib.hid hFr
        clear hN hB hFr
        go_wp2_with fail
        subst hck
        go_meet
        case rel => exact ⟨⟨HN.out, HFr.out.mono (by simp)⟩, hr0.out.of_block (HB1.out.block _ hr0.out.lt), below_then ((Below.refl _ _).alloc (Nat.le_refl _) _) HB1.out⟩
      · go_wp2_with fail
        refine (HT.out _ ((Below.refl _ _).alloc (Nat.le_refl _) _)).mono ?_
        rintro e w1 ⟨v1, rfl, hN, hB, hFr⟩
        have HN := Lib.hid hN
        have HB1 := Lib.hid hB
        have HFr := Lib.hid hFr
        clear hN hB hFr
        go_wp2_with fail
        go_meet
        case rel => exact ⟨⟨HN.out, HFr.out.mono (by simp)⟩, hr0.out.of_block (HB1.out.block _ hr0.out.lt), below_then ((Below.refl _ _).alloc (Nat.le_refl _) _) HB1.out⟩
    case rest =>
      obtain ⟨hN, hrow, hbel⟩ := hcut
      have HN := Lib.hid hN.out
      have HR := Lib.hid hrow
      have HB := Lib.hid hbel
      clear hN hrow hbel HT HT0
      have h32 : ((32 * k : Nat) : Int) = 32 * (k : Int) := by omega
      go_wp2_with fail
      go_loopw [8, 9] (fun s8 s9 wr => ∃ (i r : Nat) (q : Nat → Nat), i ≤ 32 * k ∧ s9 = .int .i64 ((i : Int) - 1) ∧ Hid (Nt wr s8 r ∧ Fresh (w.heap.size + 1) s8) ∧ wr.rowIs w.heap.size 158 n (fun j => .int .u32 (q j : Nat)) ∧ Hid (BitAt a b n i q r) ∧ Below w.heap.size w wr) (fun _ s9 _ => (intOf s9 + 1).toNat)
      case atStart => exact ⟨32 * k, r0, fun _ => 0, Nat.le_refl _, rfl, HN.out, HR.out, HS.out, HB.out⟩
      case round =>
        obtain ⟨i1, r, q, hi, rfl, hN, hrow, hbit, hbel⟩ := hrel
        obtain ⟨W0, rfl⟩ : ∃ W0 : World, W0 = wr := ⟨_, rfl⟩
        have HRo := Lib.hid hrow
        have HBel := Lib.hid hbel
        have hsz := hbel.size
        clear hrow
        obtain ⟨A8, n8, c8, rfl⟩ := hN.out.1.shape
        rcases i1 with _ | i
        · obtain ⟨e1, e2⟩ := hbit.out.done
          have HQ : Hid (val q n = a / b) := e1
          have HRr : Hid (Nt W0 (.slice A8 n8 c8) (a % b)) := by rw [← e2]; exact hN.out.1
          have hqB : ∀ j, j < n → q j < B := by obtain ⟨Q, _, _, h, _⟩ := hbit.out; exact h
          have HT := Lib.hid (rtrim_any n q _ _ (rd_of_row HRo.out (by omega)) hqB (by omega))
          rw [HQ.out] at HT
          clear e1 e2 hqB hbel
          go_wp2_with fail
          refine HT.out.mono ?_
          rintro e w1 ⟨v1, rfl, hN1, hB1, _⟩
          have HN1 := Lib.hid hN1
          have HB1 := Lib.hid (HBel.out.trans (hB1.mono hsz))
          have HRr1 := Lib.hid (HRr.out.below hB1)
          clear hN1 hB1
          go_wp2
          go_ret2
          exact ⟨v1, _, rfl, HN1.out, HRr1.out, HB1.out⟩
        · have ei : ((i + 1 : Nat) : Int) - 1 = (i : Int) := by omega
          rw [ei]
          have hr : r < b := by obtain ⟨Q, _, h, _⟩ := hbit.out; exact h
          have hqB : ∀ j, j < n → q j < B := by obtain ⟨Q, _, _, h, _⟩ := hbit.out; exact h
          have hrB : r < Big := Nat.lt_trans hr Hb.out
          have hiN : i < 32 * n := by omega
          obtain ⟨t, ht⟩ : ∃ t, t = i / 32 := ⟨_, rfl⟩
          obtain ⟨s, hs⟩ : ∃ s, s = i % 32 := ⟨_, rfl⟩
          have hs32 : s < 32 := by omega
          have htn : t < n := by omega
          have his : i = 32 * t + s := by omega
          have hB1 := Lib.hid (HBt.out i t s)
          have hbv := HBv.out t s hs32 htn
          rw [HDg.out t htn, ← hbv, ← his] at hB1
          have HSk := Lib.hid (fun h => hbit.out.skip (i := i) h)
          have HTk := Lib.hid (fun h => hbit.out.take his hs32 htn h)
          have hβ : a / 2 ^ i % 2 < 2 := Nat.mod_lt _ (by omega)
          generalize a / 2 ^ i % 2 = β at *
          have HP1 := Lib.hid (rplus_nt r r _ _ W0 hN.out.1 hN.out.1 (huge_of hrB) (huge_of hrB))
          have HP2 := Lib.hid (fun W x y h1 h2 => rplus_nt (r + r) β x y W h1 h2 (huge_add hrB hrB) (huge_of (by have := Hb.out; have := Hb0.out; omega)))
          have HOf := Lib.hid (fun W => rof_any β W (by omega))
          have e2r : r + r + β = 2 * r + β := by omega
          rw [e2r] at HP2
          have HU0 := Lib.hid (HU.out.below hbel)
          have HBit := Lib.hid (fun W (h : Below W0.heap.size W0 W) => hB1.out W (hbel.trans (h.mono hsz)) hiN ht hs)
          have His := Lib.hid his
          have HqB := Lib.hid hqB
          have e1 : ((i : Int) / 32) = (t : Int) := by omega
          have e2 : ((i : Int) % 32) = (s : Int) := by omega
          have w1 : IntKind.i64.wrap (t : Int) = (t : Int) := by rw [IntKind.wrap_i64]; omega
          have w2 : IntKind.i64.wrap (s : Int) = (s : Int) := by rw [IntKind.wrap_i64]; omega
          have i1 : (0 : Int) ≤ (t : Int) := by omega
          have i2 : (t : Int) < (n : Int) := by omega
          have i3 : (0 : Int) ≤ (s : Int) := by omega
          clear hbel hB1 hbv e2r ei ht hs his hqB
          go_wp2_with fail
          refine HP1.out.mono ?_
          rintro e wa ⟨va, rfl, hNa, hBa, _⟩
          have HBa := Lib.hid hBa
          have HNa := Lib.hid hNa
          obtain ⟨Aa, na, ca, rfl⟩ := hNa.shape
          clear hNa hBa
          go_wp2_with fail
          refine (HBit.out _ HBa.out).mono ?_
          rintro e wm ⟨rfl, rfl⟩
          go_wp2_with fail
          refine (HOf.out _).mono ?_
          rintro e wb ⟨vb, rfl, hNb, hBb⟩
          have HBb := Lib.hid (below_then HBa.out hBb)
          have HNb := Lib.hid hNb
          have HNa2 := Lib.hid (HNa.out.below hBb)
          obtain ⟨Ab, nb, cb, rfl⟩ := hNb.shape
          clear hNb hBb
          go_wp2_with fail
          refine (HP2.out _ _ _ HNa2.out HNb.out).mono ?_
          rintro e wc ⟨vc, rfl, hNc, hBc, hFc⟩
          have HBc := Lib.hid (below_then HBb.out hBc)
          have HNc := Lib.hid hNc
          obtain ⟨Ac, nc, cc, rfl⟩ := hNc.shape
          have HOr := Lib.hid (rorder_nt _ _ _ _ wc hNc (HU0.out.below HBc.out))
          have HMn := Lib.hid (fun h1 h2 => rminus_nt (2 * r + β) b _ _ wc hNc (HU0.out.below HBc.out) h1 h2)
          clear hNc hBc
          by_cases hge : b ≤ 2 * r + β
          · have ho : (0 : Int) ≤ ord (2 * r + β) b := by unfold ord; rw [if_neg (by omega)]; split <;> omega
            have HMn2 := Lib.hid (HMn.out (by have := huge_add hrB hrB; have := huge_add hrB (show β < Big by have := Hb.out; have := Hb0.out; omega); have := Hb.out; have := Hb0.out; have := huge_add (a := Big - 1) (b := Big - 1) (by omega) (by omega); omega) hge)
            have HOr2 := HOr.out
            generalize ord (2 * r + β) b = oo at *
            go_wp2_with fail
            refine HOr2.mono ?_
            rintro e wm ⟨rfl, rfl⟩
            obtain ⟨hq1, hq2⟩ := HTk.out hge
            have HBit2 := Lib.hid hq2
            have HRc := Lib.hid (HRo.out.of_block (HBc.out.block _ HRo.out.lt))
            clear hge hq2 HOr2 HTk HSk
            go_wp2_with fail
            refine HMn2.out.mono ?_
            rintro e wd ⟨vd, rfl, hNd, hBd, hFd⟩
            have HBd := Lib.hid (below_then HBc.out hBd)
            have HNd := Lib.hid hNd
            have hrl := HRo.out.lt
            have HFd : Hid (Fresh (w.heap.size + 1) (vd : Value)) := hFd.mono (by have := HBc.out.size; omega)
            have HRd := Lib.hid (HRc.out.of_block (hBd.block _ HRc.out.lt))
            have hcell := HRd.out.cell (i := t) htn
            have hfrz := HRd.out.frozen t
            obtain ⟨Ad, nd, cd, rfl⟩ := hNd.shape
            have hqt : q t < 4294967296 := HqB.out t htn
            obtain ⟨P2, hP2⟩ : ∃ P2 : Nat, P2 = 2 ^ s := ⟨_, rfl⟩
            rw [← hP2] at hq1
            have hP3 : P2 < 4294967296 := by unfold B at hq1; omega
            have hsh : IntKind.u32.wrap ((2 : Int) ^ s) = (P2 : Int) := by
              have : ((2 : Int) ^ s) = ((2 ^ s : Nat) : Int) := by simp
              rw [this, ← hP2, IntKind.wrap_u32]; omega
            have hsum : IntKind.u32.wrap ((q t : Int) + (P2 : Int)) = ((q t + P2 : Nat) : Int) := by unfold B at hq1; rw [IntKind.wrap_u32]; omega
            have HP := Lib.hid hP2
            clear hNd hBd hP2
            go_upto_region 12 with fail
            go_region
            go_wp2
            go_roundw
            case rel =>
              refine ⟨i, 2 * r + β - b, upd q t (q t + P2), by omega, by go_num, ⟨nt_drew (nt_apart HNd.out HFd.out _ _), HFd.out⟩, (rowIs_upd HRd.out t _ _ (by omega)).of_block rfl, ?_, ?_⟩
              · rw [HP.out]; exact HBit2.out
              · exact ((HBel.out.trans (HBd.out.mono hsz)).setCell (p := ⟨w.heap.size, t, none⟩) (Nat.le_refl _) _).drew
            case measure => simp [intOf]
          · have ho : ¬ ((0 : Int) ≤ ord (2 * r + β) b) := by unfold ord; rw [if_pos (by omega)]; omega
            have HOr2 := HOr.out
            have HBit2 := Lib.hid (HSk.out (by omega))
            have hrl := HRo.out.lt
            have HFc : Hid (Fresh (w.heap.size + 1) (.slice Ac nc cc)) := hFc.mono (by have := HBb.out.size; omega)
            have HRc := Lib.hid (HRo.out.of_block (HBc.out.block _ hrl))
            clear hge HTk HSk HMn
            generalize ord (2 * r + β) b = oo at *
            go_wp2_with fail
            refine HOr2.mono ?_
            rintro e wm ⟨rfl, rfl⟩
            go_wp2
            go_roundw
            case rel => exact ⟨i, 2 * r + β, q, by omega, by go_num, ⟨HNc.out, HFc.out⟩, HRc.out, HBit2.out, HBel.out.trans (HBc.out.mono hsz)⟩
            case measure => simp [intOf]
end Go.Proofs.YtmbokpfgnicboaaGreat

/- The walks of the reference's package of numbers: Common, Lowest, ValidFraction, SameFraction. -/
namespace Go.Proofs.YtmbokpfgnicboaaGreat
open Go.RowKit Go.Hd _root_.Hd

theorem rtrim_nt (a : Nat) (v : Value) (w : World) (hv : Nt w v a) (ha : a < Big) : Calls Tryz.prog 113 #[v] w (RfPost a w) := by
  obtain ⟨n, f, h1, h2, h3, h4⟩ := nt_rd hv ha
  rw [← h3]
  exact rtrim_any n f v w h1 h2.lt (by omega)

set_option maxRecDepth 100000 in
set_option maxHeartbeats 1000000 in
theorem rcommon_nt (a b : Nat) (v u : Value) (w : World) (hv : Nt w v a) (hu : Nt w u b) (ha : a < Big) (hb : b < Big) :
    Calls Tryz.prog 128 #[v, u] w (NtPost (Nat.gcd a b) w) := by
  have HV := Lib.hid hv
  have HU := Lib.hid hu
  have HAB := Lib.hid ha
  have HBB := Lib.hid hb
  obtain ⟨A, n, c, rfl⟩ := hv.shape
  obtain ⟨A2, n2, c2, rfl⟩ := hu.shape
  clear hv hu ha hb
  go_enter Tryz.func128, Tryz.ntmps128
  go_wp2
  go_loopg [0, 1] b (fun k s0 s1 wr => ∃ x : Nat, Hid (Nt wr s0 x) ∧ Hid (Nt wr s1 k) ∧ Hid (Nat.gcd x k = Nat.gcd a b) ∧ Hid (x < Big) ∧ Hid (k < Big) ∧ Below w.heap.size w wr)
  case atStart => exact ⟨a, HV.out, HU.out, rfl, HAB.out, HBB.out, Below.refl _ _⟩
  case round =>
    obtain ⟨x, hx, hk, hg, hxB, hkB, hbel⟩ := hrel
    have HBel := Lib.hid hbel
    clear hbel
    obtain ⟨A3, n3, c3, rfl⟩ := hx.out.shape
    obtain ⟨A4, n4, c4, rfl, h4, hl4⟩ := nt_len hk.out
    rcases Nat.eq_zero_or_pos gk with h0 | h0
    · obtain rfl : n4 = 0 := h4.2 h0
      have hgx : Hid (Nat.gcd a b = x) := by show _ = _; rw [← hg.out, h0, Nat.gcd_zero_right]
      have HCl := Lib.hid (rtrim_nt x _ wr hx.out hxB.out)
      clear h4
      go_wp2_with fail
      refine HCl.out.mono ?_
      rintro e w2 ⟨v', rfl, hN, hB, _⟩
      have HN := Lib.hid hN
      have HB2 := Lib.hid (below_then HBel.out hB)
      clear hN hB
      go_wp2
      go_ret
      exact ⟨_, rfl, by rw [hgx.out]; exact HN.out, HB2.out⟩
    · have hn4 : 0 < n4 := by
        rcases Nat.eq_zero_or_pos n4 with h | h
        · have := h4.1 h; omega
        · exact h
      have HP := Lib.hid (rparted_nt x gk _ _ wr hx.out hk.out hxB.out h0 hkB.out)
      clear h4
      go_wp2_with fail
      refine HP.out.mono ?_
      rintro e w2 ⟨v', u', rfl, hN1, hN2, hB⟩
      have HN2 := Lib.hid hN2
      have HB2 := Lib.hid (below_then HBel.out hB)
      have HK2 := Lib.hid (hk.out.below hB)
      clear hN1 hN2 hB
      go_wp2
      go_roundg (x % gk)
      case measure => exact Nat.mod_lt _ h0
      case rel => exact ⟨gk, HK2.out, HN2.out, by show _ = _; rw [← hg.out, Nat.gcd_comm x gk, Nat.gcd_rec gk x, Nat.gcd_comm], hkB.out, Nat.lt_trans (Nat.mod_lt _ h0) hkB.out, HB2.out⟩
set_option maxRecDepth 100000 in
set_option maxHeartbeats 1000000 in
theorem rlowest_nt (a b : Nat) (v u : Value) (w : World) (hv : Nt w v a) (hu : Nt w u b) (ha : a < Big) (hb : b < Big) (hb0 : 0 < b) :
    Calls Tryz.prog 93 #[v, u] w (FrPost (a / Nat.gcd a b) (b / Nat.gcd a b) w) := by
  have hg0 : 0 < Nat.gcd a b := Nat.gcd_pos_of_pos_right _ hb0
  have hgB : Nat.gcd a b < Big := Nat.lt_of_le_of_lt (Nat.gcd_le_right _ hb0) hb
  have hal := (Below.refl _ w).alloc (Nat.le_refl _) (.cells #[.slice none 0 0, .slice none 0 0] 27)
  have HC := Lib.hid (rcommon_nt a b v u _ (hv.below hal) (hu.below hal) ha hb)
  have HP1 := Lib.hid (fun W x (h1 : Nt W v a) (h2 : Nt W x (Nat.gcd a b)) => rparted_nt a (Nat.gcd a b) v x W h1 h2 ha hg0 hgB)
  have HP2 := Lib.hid (fun W x (h1 : Nt W u b) (h2 : Nt W x (Nat.gcd a b)) => rparted_nt b (Nat.gcd a b) u x W h1 h2 hb hg0 hgB)
  have HV := Lib.hid hv
  have HU := Lib.hid hu
  have HA := Lib.hid hal
  have HR := Lib.hid (row2 w (.slice none 0 0) (.slice none 0 0) 27)
  obtain ⟨A, n, c, rfl⟩ := hv.shape
  obtain ⟨A2, n2, c2, rfl⟩ := hu.shape
  clear hv hu ha hb hb0 hg0 hgB hal
  generalize Nat.gcd a b = g at *
  go_enter Tryz.func93, Tryz.ntmps93
  go_wp2_with fail
  refine HC.out.mono ?_
  rintro e w1 ⟨v1, rfl, hN1, hB1⟩
  have HB1 := Lib.hid (below_then HA.out hB1)
  have HR1 := Lib.hid (HR.out.of_block (hB1.block _ HR.out.lt))
  have HN1 := Lib.hid hN1
  obtain ⟨A3, n3, c3, rfl⟩ := hN1.shape
  clear hN1 hB1
  go_wp2_with fail
  refine (HP1.out _ _ (HV.out.below HB1.out) HN1.out).mono ?_
  rintro e w2 ⟨v2, x2, rfl, hN2, _, hB2⟩
  have HB2 := Lib.hid (below_then HB1.out hB2)
  have HR2 := Lib.hid (HR1.out.of_block (hB2.block _ HR1.out.lt))
  have HN2 := Lib.hid hN2
  obtain ⟨A4, n4, c4, rfl⟩ := hN2.shape
  have HN1' := Lib.hid (HN1.out.below hB2)
  clear hN2 hB2
  go_wp2_with fail
  refine (HP2.out _ _ (HU.out.below HB2.out) HN1'.out).mono ?_
  rintro e w3 ⟨v3, x3, rfl, hN3, _, hB3⟩
  have HB3 := Lib.hid (below_then HB2.out hB3)
  have HR3 := Lib.hid (HR2.out.of_block (hB3.block _ HR2.out.lt))
  have HN3 := Lib.hid hN3
  obtain ⟨A5, n5, c5, rfl⟩ := hN3.shape
  have HN2' := Lib.hid (HN2.out.below hB3)
  have c0 : w3.cell? ⟨w.heap.size, 0, none⟩ = some (.slice none 0 0) := HR3.out.cell (i := 0) (by omega)
  have c1 : w3.cell? ⟨w.heap.size, 1, none⟩ = some (.slice none 0 0) := HR3.out.cell (i := 1) (by omega)
  have z0 := HR3.out.frozen 0
  have z1 := HR3.out.frozen 1
  clear hN3 hB3
  go_wp2
  refine bodyPost_ret (v := .agg #[.slice A4 n4 c4, .slice A5 n5 c5]) ?_ rfl ⟨_, _, rfl, ?_, ?_, ?_⟩
  · simp [results, Tryz.f93, go_sem, c0, c1]
  · exact nt_over2 HN2'.out c0 c1 (by omega) _ _
  · exact nt_over2 HN3.out c0 c1 (by omega) _ _
  · exact (HB3.out.setCell (p := ⟨w.heap.size, 0, none⟩) (Nat.le_refl _) _).setCell (p := ⟨w.heap.size, 1, none⟩) (Nat.le_refl _) _

end Go.Proofs.YtmbokpfgnicboaaGreat

/- The walks of the reference's package of numbers: SameFraction, ValidFraction. -/
namespace Go.Proofs.YtmbokpfgnicboaaGreat
open Go.RowKit Go.Hd _root_.Hd

theorem rsame_nt (a b : Nat) (v u : Value) (w : World) (hv : Nt w v a) (hu : Nt w u b) : Calls Tryz.prog 95 #[v, u] w fun e w' => e = .returned (.bool (tt (a = b))) ∧ Below w.heap.size w w' := by
  obtain ⟨n, f, h1, h2, h3⟩ := hv
  obtain ⟨m, g, k1, k2, k3⟩ := hu
  refine (rsame_any n m f g v u w h1 k1 h2.lt k2.lt).mono ?_
  rintro e w' ⟨rfl, hb⟩
  refine ⟨?_, hb⟩
  rw [tt_congr (show (n = m ∧ ∀ j, j < n → f j = g j) ↔ a = b from ⟨?_, ?_⟩)]
  · rintro ⟨rfl, h⟩
    rw [← h3, ← k3]; exact val_congr h
  · intro h
    exact h2.unique k2 (by rw [h3, k3, h])

set_option maxRecDepth 100000 in
/-- Whether two fractions have the same parts. -/
theorem rsamefrac_nt (a b c d : Nat) (v u x y : Value) (w : World) (hv : Nt w v a) (hu : Nt w u b) (hx : Nt w x c) (hy : Nt w y d) :
    Calls Tryz.prog 39 #[.agg #[v, u], .agg #[x, y]] w fun e w' => e = .returned (.bool (tt (a = c ∧ b = d))) ∧ Below w.heap.size w w' := by
  have hal := ((Below.refl _ w).alloc (Nat.le_refl _) (.cells #[v, u] 27)).alloc (by simp) (.cells #[x, y] 27)
  have HS1 := Lib.hid (rsame_nt a c v x _ (hv.below hal) (hx.below hal))
  have HS2 := Lib.hid (fun W (h : Below w.heap.size w W) => rsame_nt b d u y W (hu.below h) (hy.below h))
  have HA := Lib.hid hal
  have r1 := (row2 w v u 27).alloc (.cells #[x, y] 27)
  have r2 := row2 (w.alloc (.cells #[v, u] 27)) x y 27
  rw [World.size_alloc] at r2
  have HR1 := Lib.hid r1
  have HR2 := Lib.hid r2
  have c0 : ((w.alloc (.cells #[v, u] 27)).alloc (.cells #[x, y] 27)).cell? ⟨w.heap.size, 0, none⟩ = some v := HR1.out.cell (i := 0) (by omega)
  have c2 : ((w.alloc (.cells #[v, u] 27)).alloc (.cells #[x, y] 27)).cell? ⟨w.heap.size + 1, 0, none⟩ = some x := HR2.out.cell (i := 0) (by omega)
  obtain ⟨A1, n1, c1', rfl⟩ := hv.shape
  obtain ⟨A2, n2, c2', rfl⟩ := hu.shape
  obtain ⟨A3, n3, c3', rfl⟩ := hx.shape
  obtain ⟨A4, n4, c4', rfl⟩ := hy.shape
  clear hv hu hx hy hal r1 r2
  have HT : Hid (a = c → tt (a = c ∧ b = d) = tt (b = d)) := fun h => tt_congr ⟨fun h => h.2, fun h2 => ⟨h, h2⟩⟩
  have HF : Hid (a ≠ c → tt (a = c ∧ b = d) = false) := fun h => tt_neg (fun h2 => h h2.1)
  by_cases hac : a = c
  · have HT2 := Lib.hid (HT.out hac)
    rw [tt_pos hac] at HS1
    clear hac HT HF
    generalize tt (b = d) = bd at *
    go_enter Tryz.func39, Tryz.ntmps39
    go_wp2_with fail
    refine HS1.out.mono ?_
    rintro e w1 ⟨rfl, hB⟩
    have HB1 := Lib.hid (below_then HA.out hB)
    have p1 : w1.cell? ⟨w.heap.size, 1, none⟩ = some (.slice A2 n2 c2') := cell_below hB (HR1.out.cell (i := 1) (by omega))
    have p3 : w1.cell? ⟨w.heap.size + 1, 1, none⟩ = some (.slice A4 n4 c4') := cell_below hB (HR2.out.cell (i := 1) (by omega))
    clear hB
    go_wp2_with fail
    refine (HS2.out _ HB1.out).mono ?_
    rintro e w2 ⟨rfl, hB⟩
    have HB2 := Lib.hid (below_then HB1.out hB)
    clear hB
    go_wp2
    go_ret
    exact ⟨by rw [HT2.out]; rfl, HB2.out⟩
  · have HF2 := Lib.hid (HF.out hac)
    rw [tt_neg hac] at HS1
    clear hac HT HF
    go_enter Tryz.func39, Tryz.ntmps39
    go_wp2_with fail
    refine HS1.out.mono ?_
    rintro e w1 ⟨rfl, hB⟩
    have HB1 := Lib.hid (below_then HA.out hB)
    clear hB
    go_wp2
    go_ret
    exact ⟨by rw [HF2.out]; rfl, HB1.out⟩

set_option maxRecDepth 100000 in
set_option maxHeartbeats 1000000 in
/-- Whether a fraction is valid. -/
theorem rvalidfrac_any (n m : Nat) (f g : Nat → Nat) (v u : Value) (w : World) (hv : Rd w .u32 v n f) (hu : Rd w .u32 u m g) (hf : ∀ j, j < n → f j < B) (hg : ∀ j, j < m → g j < B) :
    Calls Tryz.prog 80 #[.agg #[v, u]] w fun e w' => e = .returned (.bool (tt (VF n f m g))) ∧ Below w.heap.size w w' := by
  have hal := (Below.refl _ w).alloc (Nat.le_refl _) (.cells #[v, u] 27)
  have HV1 := Lib.hid (rvalid_any n f v _ (hv.below hal) hf)
  have HV2 := Lib.hid (rvalid_any m g u _ (hu.below hal) hg)
  have HA := Lib.hid hal
  have HR := Lib.hid (row2 w v u 27)
  have hlm := hu.len_le
  have HV := Lib.hid (hv.below hal)
  have HU := Lib.hid (hu.below hal)
  have HF := Lib.hid hf
  have HG := Lib.hid hg
  obtain ⟨A, c, rfl, _, _, hv3⟩ := hv
  obtain ⟨A2, c2, rfl, _, _, hu3⟩ := hu
  have c0 : (w.alloc (.cells #[.slice A n c, .slice A2 m c2] 27)).cell? ⟨w.heap.size, 0, none⟩ = some (.slice A n c) := HR.out.cell (i := 0) (by omega)
  have c1 : (w.alloc (.cells #[.slice A n c, .slice A2 m c2] 27)).cell? ⟨w.heap.size, 1, none⟩ = some (.slice A2 m c2) := HR.out.cell (i := 1) (by omega)
  clear hv3 hu3 hf hg hal
  cases hbn : bad n f with
  | true =>
    have HT : Hid (tt (VF n f m g) = false) := tt_neg (fun h => by rw [h.1] at hbn; cases hbn)
    rw [hbn] at HV1
    clear hbn
    go_enter Tryz.func80, Tryz.ntmps80
    go_wp2_with fail
    refine HV1.out.mono ?_
    rintro e wm ⟨rfl, rfl⟩
    go_wp2
    go_ret
    exact ⟨by rw [HT.out]; rfl, HA.out⟩
  | false =>
    rw [hbn] at HV1
    cases hbm : bad m g with
    | true =>
      have HT : Hid (tt (VF n f m g) = false) := tt_neg (fun h => by rw [h.2.1] at hbm; cases hbm)
      rw [hbm] at HV2
      clear hbn hbm
      go_enter Tryz.func80, Tryz.ntmps80
      go_wp2_with fail
      refine HV1.out.mono ?_
      rintro e wm ⟨rfl, rfl⟩
      go_wp2_with fail
      refine HV2.out.mono ?_
      rintro e wm2 ⟨rfl, rfl⟩
      go_wp2
      go_ret
      exact ⟨by rw [HT.out]; rfl, HA.out⟩
    | false =>
      rw [hbm] at HV2
      obtain ⟨cf, hn16⟩ := canon_of_fine HF.out hbn
      obtain ⟨cg, hm16⟩ := canon_of_fine HG.out hbm
      have HC := Lib.hid (rcommon_nt (val f n) (val g m) _ _ _ ⟨n, f, HV.out, cf, rfl⟩ ⟨m, g, HU.out, cg, rfl⟩ (lim_big (fine_lim HF.out hbn)) (lim_big (fine_lim HG.out hbm)))
      rcases Nat.eq_zero_or_pos m with hm0 | hm0
      · have HT : Hid (tt (VF n f m g) = false) := tt_neg (fun h => by have := h.2.2.1; omega)
        subst hm0
        clear hbn hbm cf cg
        go_enter Tryz.func80, Tryz.ntmps80
        go_wp2_with fail
        refine HV1.out.mono ?_
        rintro e wm ⟨rfl, rfl⟩
        go_wp2_with fail
        refine HV2.out.mono ?_
        rintro e wm2 ⟨rfl, rfl⟩
        go_wp2
        go_ret
        exact ⟨by rw [HT.out]; rfl, HA.out⟩
      · have HT : Hid (tt (VF n f m g) = tt (Nat.gcd (val f n) (val g m) = 1)) := tt_congr ⟨fun h => h.2.2.2, fun h => ⟨hbn, hbm, hm0, h⟩⟩
        have HOf := Lib.hid (fun W => rof_any 1 W (by omega))
        clear hbn hbm cf cg
        generalize Nat.gcd (val f n) (val g m) = gg at *
        go_enter Tryz.func80, Tryz.ntmps80
        go_wp2_with fail
        refine HV1.out.mono ?_
        rintro e wm ⟨rfl, rfl⟩
        go_wp2_with fail
        refine HV2.out.mono ?_
        rintro e wm2 ⟨rfl, rfl⟩
        go_wp2_with fail
        refine HC.out.mono ?_
        rintro e w2 ⟨v2, rfl, hN, hB⟩
        have HB2 := Lib.hid (below_then HA.out hB)
        have HN := Lib.hid hN
        obtain ⟨A3, n3, c3, rfl⟩ := hN.shape
        clear hN hB
        go_wp2_with fail
        refine (HOf.out _).mono ?_
        rintro e w3 ⟨v3, rfl, hN3, hB⟩
        have HB3 := Lib.hid (below_then HB2.out hB)
        have HSm := Lib.hid (rsame_nt gg 1 _ _ _ (HN.out.below hB) hN3)
        obtain ⟨A4, n4, c4, rfl⟩ := hN3.shape
        clear hN3 hB
        go_wp2_with fail
        refine HSm.out.mono ?_
        rintro e w4 ⟨rfl, hB⟩
        have HB4 := Lib.hid (below_then HB3.out hB)
        clear hB
        go_wp2
        go_ret
        exact ⟨by rw [HT.out]; rfl, HB4.out⟩
end Go.Proofs.YtmbokpfgnicboaaGreat
