import Derived.Test.YtmbokpfgnicboaaS5
set_option linter.unusedVariables false
set_option linter.unusedSimpArgs false
/- The walks of codes of scores: scores. -/
namespace Go.Proofs.Ytmbokpfgnicboaa
open Go.RowKit Go.Hd Go.Sort _root_.Hd

theorem idx2_0 (a b : Value) (w : World) : (Instr.index 98 (.agg #[a, b]) (.int .u8 0)).run Try.prog w = .ok a w := by kernel_rfl
theorem idx2_1 (a b : Value) (w : World) : (Instr.index 98 (.agg #[a, b]) (.int .u8 1)).run Try.prog w = .ok b w := by kernel_rfl
theorem idx2 (Bs A x y : Nat) (hx : x ≤ 1) (w : World) : (Instr.index 98 (.agg #[.int .i64 (pt Bs A 0 y), .int .i64 (pt Bs A 1 y)]) (.int .u8 (x : Int))).run Try.prog w = .ok (.int .i64 (pt Bs A x y)) w := by
  have : x = 0 ∨ x = 1 := by omega
  rcases this with rfl | rfl
  · exact idx2_0 _ _ w
  · exact idx2_1 _ _ w

set_option maxHeartbeats 1000000 in
theorem score_any (U : Int) (Bs : Nat) (v : Value) (K : Nat → Nat) (n : Nat) (a : Nat → Nat) (X Y : Nat → Nat) (ws ys : Value) (w : World) (h : RdV w v n (fun j => .int .i64 (a j : Int))) (hx : Rd w .u8 ws n X) (hy : Rd w .u8 ys n Y) (hn : n ≤ 64) (hB : Bs < 1000) (ha : ∀ j, j < n → a j < 1000) (hX : ∀ j, j < n → X j ≤ 1) (hY : ∀ j, j < n → Y j ≤ 2) :
    Calls Try.prog 32 #[scV U (Bs : Int) v K, ws, ys] w fun e w' => e = .returned (.int .i64 (scN Bs a X Y n)) ∧ Below w.heap.size w w' := by
  have HV := Lib.hid h
  have HYs := Lib.hid hy
  have HXs := Lib.hid hx
  have HA := Lib.hid ha
  have HX := Lib.hid hX
  have HY := Lib.hid hY
  obtain ⟨A, cap, rfl, _, _, h3⟩ := h
  obtain ⟨A2, cap2, rfl, _, _, h4⟩ := hy
  obtain ⟨A1, cap1, rfl, _, _, h5⟩ := hx
  have HS := Lib.hid (sc_row w U (Bs : Int) (.slice A n cap) K 34)
  have H5 := Lib.hid h5
  clear h3 h4 h5 ha hX hY
  go_enter Try.func32, Try.ntmps32
  go_wp2
  go_loopw [7, 12] (fun s i wr => ∃ k : Nat, k ≤ n ∧ i = .int .i64 k ∧ s = .int .i64 (scN Bs a X Y k) ∧ wr.rowIs w.heap.size 34 19 (scF U (Bs : Int) (.slice A n cap) K) ∧ Below w.heap.size w wr) (fun _ i _ => n - (intOf i).toNat)
  case atStart => exact ⟨0, Nat.zero_le _, rfl, rfl, HS.out, by (repeat' (first | (with_reducible exact Below.refl _ _) | (with_reducible assumption) | (with_reducible refine Below.alloc ?_ ?_ _) | (with_reducible refine Below.drew ?_) | (with_reducible refine below_drewN ?_ _) | (with_reducible refine Below.setCell ?_ ?_ _) | omega | (simp only [Go.Hd.size_drewN, World.size_alloc, World.size_setCell, World.size_drew]; omega) | (simp; omega)))⟩
  case round =>
    obtain ⟨k, hk, rfl, rfl, hsc, hbel⟩ := hrel
    have HSc := Lib.hid hsc
    have HB := Lib.hid hbel
    clear hsc hbel
    by_cases hlt : k < n
    · obtain ⟨b, off, rfl, hc⟩ := H5.out (by omega)
      have hci := cell_below HB.out (hc k hlt)
      have hix := idx2 Bs (a k) (X k) (Y k) (HX.out k hlt)
      have b1 := scN_lt (x := X) (y := Y) hB HA.out k (by omega)
      have b2 := pt_lt (x := X k) (y := Y k) hB (HA.out k hlt)
      have HG := Lib.hid (gains_any U Bs (.slice A n cap) K n a Y (.slice A2 n cap2) k wr (HV.out.below HB.out) (HYs.out.below HB.out) hlt hB (HA.out k hlt) (HY.out k hlt))
      have hs : scN Bs a X Y (k + 1) = scN Bs a X Y k + pt Bs (a k) (X k) (Y k) := rfl
      have HSS := Lib.hid hs
      clear hc hs
      generalize scN Bs a X Y k = s0 at *
      generalize hp : pt Bs (a k) (X k) (Y k) = p at *
      clear hp
      go_wp2_with (refine wp_load_whole rfl 34 _ rfl w.heap.size rfl 34 19 _ _ _ HSc.out rfl (sc_cs _ _ _ _) Try.underlying34 rfl sc_size ?_)
      refine HG.out.mono ?_
      rintro e w4 ⟨rfl, hb4⟩
      have HSc4 := Lib.hid (HSc.out.of_block (hb4.block _ HSc.out.lt))
      have HB4 := Lib.hid (HB.out.trans (hb4.mono HB.out.size))
      clear hb4
      go_wp2
      go_roundw
      case rel => exact ⟨k + 1, hlt, by go_num, by rw [HSS.out], HSc4.out, HB4.out⟩
      case measure => simp [intOf]; omega
    · obtain rfl : k = n := by omega
      go_wp2
      go_ret
      exact ⟨rfl, HB.out⟩

set_option maxHeartbeats 1000000 in
theorem refScoreOf_any (U : Int) (Bs : Nat) (v : Value) (K : Nat → Nat) (n : Nat) (a : Nat → Nat) (X Y : Nat → Nat) (ws ys : Value) (w : World) (h : RdV w v n (fun j => .int .i64 (a j : Int))) (hx : Rd w .u8 ws n X) (hy : Rd w .u8 ys n Y) (hn : n ≤ 64) (hB : Bs < 1000) (ha : ∀ j, j < n → a j < 1000) (hX : ∀ j, j < n → X j ≤ 1) (hY : ∀ j, j < n → Y j ≤ 2) :
    Calls Try.prog 34 #[scV U (Bs : Int) v K, ws, ys] w fun e w' => e = .returned (.int .i64 (scN Bs a X Y n)) ∧ Below w.heap.size w w' := by
  have HA := Lib.hid ha
  have HX := Lib.hid hX
  have HY := Lib.hid hY
  obtain ⟨A, cap, rfl, _, _, h3⟩ := h
  obtain ⟨A2, cap2, rfl, _, _, h4⟩ := hy
  obtain ⟨A1, cap1, rfl, _, _, h5⟩ := hx
  have HS := Lib.hid (sc_row w U (Bs : Int) (.slice A n cap) K 34)
  have H3 := Lib.hid h3
  have H4 := Lib.hid h4
  have H5 := Lib.hid h5
  clear h3 h4 h5 ha hX hY
  go_enter Try.func34, Try.ntmps34
  go_wp2
  go_loopw [7, 8] (fun s i wr => ∃ k : Nat, k ≤ n ∧ i = .int .i64 k ∧ s = .int .i64 (scN Bs a X Y k) ∧ wr.rowIs w.heap.size 34 19 (scF U (Bs : Int) (.slice A n cap) K) ∧ Below w.heap.size w wr) (fun _ i _ => n - (intOf i).toNat)
  case atStart => exact ⟨0, Nat.zero_le _, rfl, rfl, HS.out, by (repeat' (first | (with_reducible exact Below.refl _ _) | (with_reducible assumption) | (with_reducible refine Below.alloc ?_ ?_ _) | (with_reducible refine Below.drew ?_) | (with_reducible refine below_drewN ?_ _) | (with_reducible refine Below.setCell ?_ ?_ _) | omega | (simp only [Go.Hd.size_drewN, World.size_alloc, World.size_setCell, World.size_drew]; omega) | (simp; omega)))⟩
  case round =>
    obtain ⟨k, hk, rfl, rfl, hsc, hbel⟩ := hrel
    have HSc := Lib.hid hsc
    have HB := Lib.hid hbel
    have c1 := hsc.cell (i := 1) (by omega)
    have c2 := hsc.cell (i := 2) (by omega)
    dsimp only [scF] at c1 c2
    clear hsc hbel
    by_cases hlt : k < n
    · obtain ⟨b, off, rfl, hc⟩ := H5.out (by omega)
      obtain ⟨b3, off3, rfl, hc3⟩ := H3.out (by omega)
      obtain ⟨b4, off4, rfl, hc4⟩ := H4.out (by omega)
      have hci := cell_below HB.out (hc k hlt)
      have hci3 : wr.cell? ⟨b3, off3 + k, none⟩ = some (.int .i64 (a k : Int)) := cell_below HB.out (hc3 k hlt)
      have hci4 := cell_below HB.out (hc4 k hlt)
      have b1 := scN_lt (x := X) (y := Y) hB HA.out k (by omega)
      have b2 := pt_lt (x := X k) (y := Y k) hB (HA.out k hlt)
      have HP := Lib.hid (fun W => refPart_any Bs (a k) (X k) (Y k) W hB (HA.out k hlt) (HX.out k hlt) (HY.out k hlt))
      have hs : scN Bs a X Y (k + 1) = scN Bs a X Y k + pt Bs (a k) (X k) (Y k) := rfl
      have HSS := Lib.hid hs
      clear hc hc3 hc4 hs
      generalize scN Bs a X Y k = s0 at *
      generalize hp : pt Bs (a k) (X k) (Y k) = p at *
      clear hp
      go_wp2
      go_quiet ((go_at_call 58; first | exact quiet_add (HP.out _) | exact quiet_one (HP.out _)))
      go_wp2
      go_roundw
      case rel => exact ⟨k + 1, hlt, by go_num, by rw [HSS.out], HSc.out, below_drewN HB.out _⟩
      case measure => simp [intOf]; omega
    · obtain rfl : k = n := by omega
      go_wp2
      go_ret
      exact ⟨rfl, HB.out⟩
end Go.Proofs.Ytmbokpfgnicboaa
