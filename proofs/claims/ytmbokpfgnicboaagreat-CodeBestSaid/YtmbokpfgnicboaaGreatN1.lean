import Derived.Test.YtmbokpfgnicboaaGreatWm
import Derived.Test.YtmbokpfgnicboaaGreatBel
import Derived.Test.YtmbokpfgnicboaaGreatPlain
set_option linter.unusedVariables false
set_option linter.unusedSimpArgs false
/- The walks of package number: small functions on digits; Compare. -/
namespace Go.Proofs.YtmbokpfgnicboaaGreat
open Go.RowKit Go.Hd _root_.Hd

theorem brw_int (x y b : Nat) (hx : x < 4294967296) (hy : y < 4294967296) (hb : b ≤ 1) :
    bits .or .u32 (bits .and .u32 (bits .xor .u32 IntKind.u32.max (x : Int)) (y : Int)) (bits .and .u32 (bits .xor .u32 IntKind.u32.max (bits .xor .u32 (x : Int) (y : Int))) (((x : Int) - y - b) % 4294967296)) / 2147483648 = ((brw x y b : Nat) : Int) := by
  obtain ⟨d, hd⟩ : ∃ d, d = (x + 4294967296 - y - b) % 4294967296 := ⟨_, rfl⟩
  have hd2 : d < 4294967296 := by rw [hd]; exact Nat.mod_lt _ (by decide)
  have e : ((x : Int) - y - b) % 4294967296 = (d : Int) := by omega
  have hm : IntKind.u32.max = ((4294967295 : Nat) : Int) := rfl
  have b1 : 4294967295 ^^^ x < 4294967296 := Nat.xor_lt_two_pow (n := 32) (by decide) hx
  have b2 : x ^^^ y < 4294967296 := Nat.xor_lt_two_pow (n := 32) hx hy
  have b3 : 4294967295 ^^^ (x ^^^ y) < 4294967296 := Nat.xor_lt_two_pow (n := 32) (by decide) b2
  have b4 : (4294967295 ^^^ x) &&& y < 4294967296 := Nat.and_lt_two_pow (n := 32) _ hy
  have b5 : (4294967295 ^^^ (x ^^^ y)) &&& d < 4294967296 := Nat.and_lt_two_pow (n := 32) _ hd2
  rw [e, hm, u32_xor_nat _ _ (by decide) hx, u32_xor_nat _ _ hx hy, u32_xor_nat _ _ (by decide) b2, u32_and_nat _ _ b1 hy, u32_and_nat _ _ b3 hd2, u32_or_nat _ _ b4 b5, ← brw_bits x y b d hx hy hb hd]
  omega

set_option maxRecDepth 100000 in
theorem sub32_any (x y b : Nat) (w : World) (hx : x < B) (hy : y < B) (hb : b ≤ 1) :
    Calls Tryz.prog 184 #[.int .u32 x, .int .u32 y, .int .u32 b] w fun e w' => e = .returned (.tuple #[.int .u32 ((x + B - y - b) % B : Nat), .int .u32 (brw x y b : Nat)]) ∧ w = w' := by
  have H1 := Lib.hid (brw_int x y b hx hy hb)
  have H2 : Hid (((x : Int) - y - b) % 4294967296 = (((x + B - y - b) % B : Nat) : Int)) := by show _ = _; unfold B at *; omega
  generalize (x + B - y - b) % B = D at *
  generalize brw x y b = Br at *
  go_enter Tryz.func184, Tryz.ntmps184
  go_wp2
  go_ret2
  refine ⟨?_, rfl⟩
  rw [← H1.out, ← H2.out]
  rfl
set_option maxRecDepth 100000 in
theorem add32_any (x y b : Nat) (w : World) (hx : x < B) (hy : y < B) (hb : b ≤ 1) :
    Calls Tryz.prog 185 #[.int .u32 x, .int .u32 y, .int .u32 b] w fun e w' => e = .returned (.tuple #[.int .u32 ((x + y + b) % B : Nat), .int .u32 ((x + y + b) / B : Nat)]) ∧ w = w' := by
  unfold B at *
  go_enter Tryz.func185, Tryz.ntmps185
  go_wp2
  go_ret2
  have e1 : (((x + y + b) % 4294967296 : Nat) : Int) = ((x : Int) + y + b) % 4294967296 := by omega
  have e2 : (((x + y + b) / 4294967296 : Nat) : Int) = ((x : Int) + y + b) / 4294967296 := by omega
  rw [e1, e2]
  exact ⟨rfl, rfl⟩
theorem join32 (h l : Nat) (hh : h < 4294967296) (hl : l < 4294967296) : bits .or .u64 (IntKind.u64.wrap (IntKind.u64.wrap (h : Int) * 4294967296)) (IntKind.u64.wrap (l : Int)) = ((h * 4294967296 + l : Nat) : Int) := by
  have e1 : IntKind.u64.wrap (IntKind.u64.wrap (h : Int) * 4294967296) = ((h * 4294967296 : Nat) : Int) := by rw [IntKind.wrap_u64, IntKind.wrap_u64]; omega
  have e2 : IntKind.u64.wrap (l : Int) = (l : Int) := by rw [IntKind.wrap_u64]; omega
  have := Nat.two_pow_add_eq_or_of_lt (i := 32) (b := l) hl h
  rw [e1, e2, u64_or_nat _ _ (by omega) (by omega), show h * 4294967296 = 2 ^ 32 * h by omega, ← this]
set_option maxRecDepth 100000 in
theorem div32_any (h l y : Nat) (w : World) (hh : h < y) (hl : l < B) (hy : y < B) :
    Calls Tryz.prog 174 #[.int .u32 h, .int .u32 l, .int .u32 y] w fun e w' => e = .returned (.tuple #[.int .u32 ((h * B + l) / y : Nat), .int .u32 ((h * B + l) % y : Nat)]) ∧ Drawn w w' := by
  have hne : ((y : Int) != 0) = true := by simp; omega
  have hlt : ¬ ((y : Int) ≤ (h : Int)) := by omega
  have hz : ¬ ((y : Int) = 0) := by omega
  have hwy : IntKind.u64.wrap (y : Int) = (y : Int) := by rw [IntKind.wrap_u64]; unfold B at *; omega
  have hB : B = 4294967296 := rfl
  have hq : (h * B + l) / y < 4294967296 := by
    rw [Nat.div_lt_iff_lt_mul (by omega), hB]
    have : h * 4294967296 + 4294967296 ≤ 4294967296 * y := by
      have := Nat.mul_le_mul_left 4294967296 (show h + 1 ≤ y from hh)
      omega
    omega
  have hr : (h * B + l) % y < 4294967296 := Nat.lt_trans (Nat.mod_lt _ (by omega)) (by omega)
  have hj := join32 h l (by omega) (by omega)
  have HJ := Lib.hid hj
  obtain ⟨X, hX⟩ : ∃ X, X = h * B + l := ⟨_, rfl⟩
  rw [← hB, ← hX] at HJ
  rw [← hX] at hq hr ⊢
  have e1 : (X : Int) / (y : Int) = ((X / y : Nat) : Int) := by norm_cast
  have e2 : (X : Int) % (y : Int) = ((X % y : Nat) : Int) := by norm_cast
  clear hj hX hB hl hh hy
  generalize X / y = Q at *
  generalize X % y = R at *
  go_enter Tryz.func174, Tryz.ntmps174
  go_wp2
  rw [HJ.out]
  go_quiet (fail)
  go_wp2
  go_ret2
  exact ⟨rfl, ⟨_, rfl⟩⟩

theorem compare_nt (a b : Nat) (v u : Value) (w : World) (hv : Nt w v a) (hu : Nt w u b) (ha : a < Lim) (hb : b < Lim) :
    Calls Tryz.prog 124 #[v, u] w fun e w' => e = .returned (.tuple #[.int .i64 (ord a b), .int .i64 0]) ∧ Below w.heap.size w w' := by
  have HV1 := Lib.hid (valid_two w hv hu ha hb)
  have hal := (Below.refl _ w).alloc (Nat.le_refl _) (.cells #[v, u] 25)
  have HO := Lib.hid (order_nt a b v u _ (hv.below hal) (hu.below hal))
  obtain ⟨A, n, c, rfl⟩ := hv.shape
  obtain ⟨A2, n2, c2, rfl⟩ := hu.shape
  have HA := Lib.hid hal
  clear hv hu ha hb hal
  go_enter Tryz.func124, Tryz.ntmps124
  go_wp2_with fail
  refine HV1.out.mono ?_
  rintro e w1 ⟨rfl, rfl⟩
  go_wp2_with fail
  refine HO.out.mono ?_
  rintro e w2 ⟨rfl, hb2⟩
  have HB := Lib.hid (below_then HA.out hb2)
  clear hb2
  go_wp2
  go_ret2
  exact ⟨rfl, HB.out⟩
end Go.Proofs.YtmbokpfgnicboaaGreat
