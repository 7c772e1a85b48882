import Derived.Test.YtmbokpfgnicboaaGreatC1
import Derived.Test.YtmbokpfgnicboaaGreatBel
set_option linter.unusedVariables false
set_option linter.unusedSimpArgs false
/- The walks of the cipher: rotations, rounds; the value of bytes. -/
namespace Go.Proofs.YtmbokpfgnicboaaGreat
open Go.RowKit Go.Hd _root_.Hd

theorem rol_bits (x s t : Nat) (hx : x < W64) (_hs : s + t = 64) : bits .or .u64 (((x * 2 ^ s % W64 : Nat) : Int)) (((x / 2 ^ t : Nat) : Int)) = ((rol x s : Nat) : Int) := by
  have h1 : x * 2 ^ s % W64 < 18446744073709551616 := Nat.mod_lt _ (by decide)
  have h2 : x / 2 ^ t < 18446744073709551616 := Nat.lt_of_le_of_lt (Nat.div_le_self _ _) hx
  rw [u64_or_nat _ _ h1 h2]
  unfold rol
  rw [show 64 - s = t by omega]
theorem rol_bits' (x s t : Nat) (hx : x < W64) (_hs : s + t = 64) : bits .or .u64 (((x / 2 ^ t : Nat) : Int)) (((x * 2 ^ s % W64 : Nat) : Int)) = ((rol x s : Nat) : Int) := by
  have h1 : x * 2 ^ s % W64 < 18446744073709551616 := Nat.mod_lt _ (by decide)
  have h2 : x / 2 ^ t < 18446744073709551616 := Nat.lt_of_le_of_lt (Nat.div_le_self _ _) hx
  rw [u64_or_nat _ _ h2 h1, Nat.or_comm]
  unfold rol
  rw [show 64 - s = t by omega]
theorem wrap56 (x : Nat) : IntKind.u64.wrap ((x : Int) * 72057594037927936) = ((x * 2 ^ 56 % W64 : Nat) : Int) := by rw [IntKind.wrap_u64]; unfold W64; omega
theorem wrap3 (x : Nat) : IntKind.u64.wrap ((x : Int) * 8) = ((x * 2 ^ 3 % W64 : Nat) : Int) := by rw [IntKind.wrap_u64]; unfold W64; omega
theorem div8 (x : Nat) : (x : Int) / 256 = ((x / 2 ^ 8 : Nat) : Int) := by omega
theorem div61 (x : Nat) : (x : Int) / 2305843009213693952 = ((x / 2 ^ 61 : Nat) : Int) := by omega

theorem rotl8_any (x : Nat) (w : World) (hx : x < W64) : Calls Tryz.prog 187 #[.int .u64 x, .int .i64 (-8)] w fun e w' => e = .returned (.int .u64 (rol x 56)) ∧ w = w' := by
  have HX := Lib.hid hx
  clear hx
  have hc : bits .and .u64 (IntKind.u64.wrap (-8)) 63 = 56 := by decide
  go_enter Tryz.func187, Tryz.ntmps187
  go_wp2
  go_ret
  refine ⟨?_, rfl⟩
  rw [wrap56, div8, rol_bits x 56 8 HX.out rfl]; rfl
theorem rotl3_any (x : Nat) (w : World) (hx : x < W64) : Calls Tryz.prog 187 #[.int .u64 x, .int .i64 3] w fun e w' => e = .returned (.int .u64 (rol x 3)) ∧ w = w' := by
  have HX := Lib.hid hx
  clear hx
  have hc : bits .and .u64 3 63 = 3 := by decide
  go_enter Tryz.func187, Tryz.ntmps187
  go_wp2
  go_ret
  refine ⟨?_, rfl⟩
  rw [wrap3, div61, rol_bits x 3 61 HX.out rfl]; rfl
theorem rotr8_any (x : Nat) (w : World) (hx : x < W64) : Calls Tryz.prog 167 #[.int .u64 x, .int .i64 8] w fun e w' => e = .returned (.int .u64 (rol x 56)) ∧ Drawn w w' := by
  have HX := Lib.hid hx
  clear hx
  go_enter Tryz.func167, Tryz.ntmps167
  go_wp2
  go_quiet (fail)
  go_wp2
  go_ret
  refine ⟨?_, ⟨_, rfl⟩⟩
  rw [wrap56, div8, rol_bits' x 56 8 HX.out rfl]; rfl
theorem rotr61_any (x : Nat) (w : World) (hx : x < W64) : Calls Tryz.prog 167 #[.int .u64 x, .int .i64 61] w fun e w' => e = .returned (.int .u64 (rol x 3)) ∧ Drawn w w' := by
  have HX := Lib.hid hx
  clear hx
  go_enter Tryz.func167, Tryz.ntmps167
  go_wp2
  go_quiet (fail)
  go_wp2
  go_ret
  refine ⟨?_, ⟨_, rfl⟩⟩
  rw [wrap3, div61, rol_bits' x 3 61 HX.out rfl]; rfl
theorem refRotl_any (x : Nat) (w : World) (hx : x < W64) : Calls Tryz.prog 168 #[.int .u64 x, .int .i64 3] w fun e w' => e = .returned (.int .u64 (rol x 3)) ∧ Drawn w w' := by
  have HX := Lib.hid hx
  clear hx
  go_enter Tryz.func168, Tryz.ntmps168
  go_wp2_with fail
  refine (rotr61_any x w HX.out).mono ?_
  rintro e w1 ⟨rfl, hD⟩
  have HD := Lib.hid hD
  clear hD
  go_wp2
  go_ret
  exact ⟨rfl, HD.out⟩

theorem xor_fact (a b : Nat) (ha : a < W64) (hb : b < W64) : bits .xor .u64 (a : Int) (b : Int) = ((a ^^^ b : Nat) : Int) := u64_xor_nat a b ha hb
theorem add_fact (a b : Nat) : IntKind.u64.wrap ((a : Int) + (b : Int)) = (((a + b) % W64 : Nat) : Int) := by rw [IntKind.wrap_u64]; unfold W64; omega

set_option maxRecDepth 100000 in
set_option maxHeartbeats 1000000 in
theorem round_any (p : Nat × Nat) (k : Nat) (w : World) (hp : Wd p) (hk : k < W64) :
    Calls Tryz.prog 181 #[pairV p, .int .u64 k] w fun e w' => e = .returned (pairV (rnd p k)) ∧ Below w.heap.size w w' := by
  obtain ⟨x, y⟩ := p
  have h1 := rotl8_any x
  have h2 := rotl3_any y
  have H1 := Lib.hid h1
  have H2 := Lib.hid h2
  have HP := Lib.hid hp
  have HK := Lib.hid hk
  clear h1 h2 hp hk
  unfold pairV
  go_enter Tryz.func181, Tryz.ntmps181
  go_wp2
  go_quiet ((go_at_call 187; first | exact quiet_add (rotl8_any x _ HP.out.1) | exact quiet_one (rotl8_any x _ HP.out.1)))
  go_wp2_with fail
  refine (rotl3_any y _ HP.out.2).mono ?_
  rintro e w1 ⟨rfl, rfl⟩
  go_wp2
  have e1 : bits .xor .u64 (IntKind.u64.wrap (((rol x 56 : Nat) : Int) + (y : Int))) (k : Int) = (((rnd (x, y) k).1 : Nat) : Int) := by
    rw [add_fact, xor_fact _ _ (Nat.mod_lt _ (by decide)) HK.out]; rfl
  have e2 : bits .xor .u64 ((rol y 3 : Nat) : Int) (((rnd (x, y) k).1 : Nat) : Int) = (((rnd (x, y) k).2 : Nat) : Int) := by
    rw [xor_fact _ _ (rol_lt HP.out.2) (rnd_wd HP.out HK.out).1]; rfl
  rw [e1, e2]
  refine bodyPost_ret (v := pairV (rnd (x, y) k)) ?_ rfl ⟨rfl, ?_⟩
  · simp [results, Tryz.f181, go_sem]
  · (repeat' (first | (with_reducible exact Below.refl _ _) | (with_reducible assumption) | (with_reducible refine Below.alloc ?_ ?_ _) | (with_reducible refine Below.drew ?_) | (with_reducible refine below_drewN ?_ _) | (with_reducible refine Below.setCell ?_ ?_ _) | omega | (simp only [Go.Hd.size_drewN, World.size_alloc, World.size_setCell, World.size_drew]; omega) | (simp; omega)))

theorem refValue_any (n : Nat) (f : Nat → Nat) (v : Value) (w : World) (h : Rd w .u8 v n f) (hf : ∀ j, j < n → f j < 256) (hn : n ≤ 8) :
    Calls Tryz.prog 163 #[v] w fun e w' => e = .returned (.int .u64 (beN f n)) ∧ w = w' := by
  have hl := h.len_le
  obtain ⟨A, cap, rfl, h1, h2, h3⟩ := h
  have H3 := Lib.hid h3
  have HF := Lib.hid hf
  clear h3 hf
  go_enter Tryz.func163, Tryz.ntmps163
  go_wp2
  go_loop [3, 4] (fun s i => ∃ k : Nat, k ≤ n ∧ i = .int .i64 k ∧ s = .int .u64 (beN f k)) (fun _ i => n - (intOf i).toNat)
  case atStart => exact ⟨0, Nat.zero_le _, rfl, rfl⟩
  case round =>
    obtain ⟨k, hk, rfl, rfl⟩ := hrel
    by_cases hlt : k < n
    · obtain ⟨b, off, rfl, hc⟩ := H3.out (by omega)
      have hci := hc k hlt
      have hb1 := beN_lt7 (f := f) (k := k) (by omega) (fun j hj => HF.out j (by omega))
      have hb2 := HF.out k hlt
      clear hc
      go_wp2
      go_round
      case rel => exact ⟨k + 1, hlt, by go_num, by simp only [beN]; go_num⟩
      case measure => simp [intOf]; omega
    · obtain rfl : k = n := by omega
      go_wp2
      go_ret
      exact ⟨rfl, rfl⟩
end Go.Proofs.YtmbokpfgnicboaaGreat
