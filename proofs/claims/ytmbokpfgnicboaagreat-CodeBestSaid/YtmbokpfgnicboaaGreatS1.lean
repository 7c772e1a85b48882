import Derived.Test.YtmbokpfgnicboaaGreatCm
import Derived.Test.YtmbokpfgnicboaaGreatFm
set_option linter.unusedVariables false
set_option linter.unusedSimpArgs false
/- The walks of codes of scores: which are valid. -/
namespace Go.Proofs.YtmbokpfgnicboaaGreat
open Go.RowKit Go.Hd _root_.Hd

/-- A code of scores, as a value. -/
@[reducible] def scV (U Bs : Int) (v : Value) (K : Nat → Nat) : Value := .agg #[.int .i64 U, .int .i64 Bs, v, .int .u8 (K 0), .int .u8 (K 1), .int .u8 (K 2), .int .u8 (K 3), .int .u8 (K 4), .int .u8 (K 5), .int .u8 (K 6), .int .u8 (K 7), .int .u8 (K 8), .int .u8 (K 9), .int .u8 (K 10), .int .u8 (K 11), .int .u8 (K 12), .int .u8 (K 13), .int .u8 (K 14), .int .u8 (K 15)]
def scF (U Bs : Int) (v : Value) (K : Nat → Nat) : Nat → Value
  | 0 => .int .i64 U
  | 1 => .int .i64 Bs
  | 2 => v
  | n + 3 => .int .u8 (K n)
theorem sc_row (w : World) (U Bs : Int) (v : Value) (K : Nat → Nat) (t : TypeId) : (w.alloc (.cells #[.int .i64 U, .int .i64 Bs, v, .int .u8 (K 0), .int .u8 (K 1), .int .u8 (K 2), .int .u8 (K 3), .int .u8 (K 4), .int .u8 (K 5), .int .u8 (K 6), .int .u8 (K 7), .int .u8 (K 8), .int .u8 (K 9), .int .u8 (K 10), .int .u8 (K 11), .int .u8 (K 12), .int .u8 (K 13), .int .u8 (K 14), .int .u8 (K 15)] t)).rowIs w.heap.size t 19 (scF U Bs v K) :=
  World.rowIs_alloc w _ _ _ (fun i hi => by
    match i, (show i < 19 from hi) with
    | 0, _ => rfl
    | 1, _ => rfl
    | 2, _ => rfl
    | 3, _ => rfl
    | 4, _ => rfl
    | 5, _ => rfl
    | 6, _ => rfl
    | 7, _ => rfl
    | 8, _ => rfl
    | 9, _ => rfl
    | 10, _ => rfl
    | 11, _ => rfl
    | 12, _ => rfl
    | 13, _ => rfl
    | 14, _ => rfl
    | 15, _ => rfl
    | 16, _ => rfl
    | 17, _ => rfl
    | 18, _ => rfl
    | n + 19, h => exact absurd h (by omega))
/-- A valid code of scores. -/
def VS (U Bs : Int) (n : Nat) (a : Nat → Int) : Prop := (1 ≤ U ∧ U ≤ 64 ∧ 2 ≤ Bs ∧ Bs ≤ 32 ∧ 1 ≤ n ∧ n ≤ 64) ∧ ∀ j, j < n → 1 ≤ a j ∧ a j < Bs

/-- What the check answers. -/
noncomputable def scE (U Bs : Int) (n : Nat) (a : Nat → Int) : Int := if tt (VS U Bs n a) then 0 else 70
theorem scE_yes {U Bs : Int} {n : Nat} {a : Nat → Int} (h : VS U Bs n a) : scE U Bs n a = 0 := by unfold scE; rw [tt_pos h]; rfl
theorem scE_no {U Bs : Int} {n : Nat} {a : Nat → Int} (h : ¬ VS U Bs n a) : scE U Bs n a = 70 := by unfold scE; rw [tt_neg h]; rfl

set_option maxRecDepth 100000 in
set_option maxHeartbeats 1000000 in
theorem checkScores_any (U Bs : Int) (v : Value) (K : Nat → Nat) (n : Nat) (a : Nat → Int) (w : World) (h : RdV w v n (fun j => .int .i64 (a j))) :
    Calls Tryz.prog 84 #[scV U Bs v K] w fun e w' => e = .returned (.int .i64 (scE U Bs n a)) ∧ Below w.heap.size w w' := by
  have rs := sc_row w U Bs v K 46
  have c0 := rs.cell (i := 0) (by omega)
  have c1 := rs.cell (i := 1) (by omega)
  have c2 := rs.cell (i := 2) (by omega)
  dsimp only [scF] at c0 c1 c2
  have HR := Lib.hid h
  have hl : n ≤ 9223372036854775807 := by obtain ⟨A, cap, _, h1, h2, _⟩ := h; unfold maxLen at h2; omega
  obtain ⟨A, cap, rfl, _, _, h3⟩ := h
  have H3 := Lib.hid h3
  clear h3 rs
  by_cases hv : 1 ≤ U ∧ U ≤ 64 ∧ 2 ≤ Bs ∧ Bs ≤ 32 ∧ 1 ≤ n ∧ n ≤ 64
  · obtain ⟨h1, h2, h3, h4, h5, h6⟩ := hv
    go_enter Tryz.func84, Tryz.ntmps84
    go_wp2
    go_loopw [38] (fun i wr => ∃ k : Nat, k ≤ n ∧ i = .int .i64 k ∧ Hid (∀ j, j < k → 1 ≤ a j ∧ a j < Bs) ∧ wr.cell? ⟨w.heap.size, 1, none⟩ = some (.int .i64 Bs) ∧ Below w.heap.size w wr) (fun i _ => n - (intOf i).toNat)
    case atStart => exact ⟨0, Nat.zero_le _, rfl, fun j hj => by omega, c1, by (repeat' (first | (with_reducible exact Below.refl _ _) | (with_reducible assumption) | (with_reducible refine Below.alloc ?_ ?_ _) | (with_reducible refine Below.drew ?_) | (with_reducible refine below_drewN ?_ _) | (with_reducible refine Below.setCell ?_ ?_ _) | omega | (simp only [Go.Hd.size_drewN, World.size_alloc, World.size_setCell, World.size_drew]; omega) | (simp; omega)))⟩
    case round =>
      obtain ⟨k, hk, rfl, hz, hc1, hbel⟩ := hrel
      have HB := Lib.hid hbel
      clear hbel c0 c1 c2
      by_cases hlt : k < n
      · obtain ⟨b, off, rfl, hc⟩ := H3.out (by omega)
        have hci := cell_below HB.out (hc k hlt)
        clear hc
        by_cases ha : 1 ≤ a k ∧ a k < Bs
        · obtain ⟨ha1, ha2⟩ := ha
          go_wp2
          go_roundw
          case rel => exact ⟨k + 1, hlt, by go_num, fun j hj => by
            rcases Nat.lt_or_ge j k with h | h
            · exact hz.out j h
            · have : j = k := by omega
              rw [this]; exact ⟨ha1, ha2⟩, hc1, HB.out⟩
          case measure => simp [intOf]; omega
        · have ht : Hid (scE U Bs n a = 70) := scE_no (fun h => ha (h.2 k hlt))
          go_wp2
          all_goals first
            | (exfalso; omega)
            | (go_ret; exact ⟨by rw [ht.out]; rfl, HB.out⟩)
      · obtain rfl : k = n := by omega
        have ht : Hid (scE U Bs k a = 0) := scE_yes ⟨⟨h1, h2, h3, h4, h5, h6⟩, hz.out⟩
        go_wp2
        go_ret
        exact ⟨by rw [ht.out]; rfl, HB.out⟩
  · have ht : Hid (scE U Bs n a = 70) := scE_no (fun h => hv h.1)
    clear HR H3
    go_enter Tryz.func84, Tryz.ntmps84
    go_wp2
    all_goals first
      | (exfalso; omega)
      | (go_ret; exact ⟨by rw [ht.out]; rfl, by (repeat' (first | (with_reducible exact Below.refl _ _) | (with_reducible assumption) | (with_reducible refine Below.alloc ?_ ?_ _) | (with_reducible refine Below.drew ?_) | (with_reducible refine below_drewN ?_ _) | (with_reducible refine Below.setCell ?_ ?_ _) | omega | (simp only [Go.Hd.size_drewN, World.size_alloc, World.size_setCell, World.size_drew]; omega) | (simp; omega)))⟩)

set_option maxRecDepth 100000 in
set_option maxHeartbeats 1000000 in
theorem validScores_any (U Bs : Int) (v : Value) (K : Nat → Nat) (n : Nat) (a : Nat → Int) (w : World) (h : RdV w v n (fun j => .int .i64 (a j))) :
    Calls Tryz.prog 30 #[scV U Bs v K] w fun e w' => e = .returned (.bool (tt (VS U Bs n a))) ∧ Below w.heap.size w w' := by
  have rs := sc_row w U Bs v K 46
  have c0 := rs.cell (i := 0) (by omega)
  have c1 := rs.cell (i := 1) (by omega)
  have c2 := rs.cell (i := 2) (by omega)
  dsimp only [scF] at c0 c1 c2
  have HR := Lib.hid h
  have hl : n ≤ 9223372036854775807 := by obtain ⟨A, cap, _, h1, h2, _⟩ := h; unfold maxLen at h2; omega
  obtain ⟨A, cap, rfl, _, _, h3⟩ := h
  have H3 := Lib.hid h3
  clear h3 rs
  by_cases hv : 1 ≤ U ∧ U ≤ 64 ∧ 2 ≤ Bs ∧ Bs ≤ 32 ∧ 1 ≤ n ∧ n ≤ 64
  · obtain ⟨h1, h2, h3, h4, h5, h6⟩ := hv
    go_enter Tryz.func30, Tryz.ntmps30
    go_wp2
    go_loopw [3] (fun i wr => ∃ k : Nat, k ≤ n ∧ i = .int .i64 k ∧ Hid (∀ j, j < k → 1 ≤ a j ∧ a j < Bs) ∧ wr.cell? ⟨w.heap.size, 1, none⟩ = some (.int .i64 Bs) ∧ wr.cell? ⟨w.heap.size, 2, none⟩ = some (.slice A n cap) ∧ Below w.heap.size w wr) (fun i _ => n - (intOf i).toNat)
    case atStart => exact ⟨0, Nat.zero_le _, rfl, fun j hj => by omega, c1, c2, by (repeat' (first | (with_reducible exact Below.refl _ _) | (with_reducible assumption) | (with_reducible refine Below.alloc ?_ ?_ _) | (with_reducible refine Below.drew ?_) | (with_reducible refine below_drewN ?_ _) | (with_reducible refine Below.setCell ?_ ?_ _) | omega | (simp only [Go.Hd.size_drewN, World.size_alloc, World.size_setCell, World.size_drew]; omega) | (simp; omega)))⟩
    case round =>
      obtain ⟨k, hk, rfl, hz, hc1, hc2, hbel⟩ := hrel
      have HC2 := Lib.hid hc2
      clear hc2
      have HB := Lib.hid hbel
      clear hbel c0 c1 c2
      by_cases hlt : k < n
      · obtain ⟨b, off, rfl, hc⟩ := H3.out (by omega)
        have hci := cell_below HB.out (hc k hlt)
        clear hc
        have hc2 := HC2.out
        by_cases ha0 : a k < 1
        · have ht : Hid (tt (VS U Bs n a) = false) := tt_neg (fun h => by have := (h.2 k hlt).1; omega)
          go_wp2
          go_quiet (fail)
          go_wp2
          go_ret
          exact ⟨by rw [ht.out]; rfl, below_drewN HB.out _⟩
        · by_cases ha : a k < Bs
          · go_wp2
            go_quiet (fail)
            go_wp2
            go_roundw
            case rel => exact ⟨k + 1, hlt, by go_num, fun j hj => by
              rcases Nat.lt_or_ge j k with h | h
              · exact hz.out j h
              · have : j = k := by omega
                rw [this]; exact ⟨by omega, ha⟩, hc1, HC2.out, below_drewN HB.out _⟩
            case measure => simp [intOf]; omega
          · have ht : Hid (tt (VS U Bs n a) = false) := tt_neg (fun h => ha (h.2 k hlt).2)
            go_wp2
            go_quiet (fail)
            go_wp2
            go_ret
            exact ⟨by rw [ht.out]; rfl, below_drewN HB.out _⟩
      · obtain rfl : k = n := by omega
        have hc2 := HC2.out
        have ht : Hid (tt (VS U Bs k a) = true) := tt_pos ⟨⟨h1, h2, h3, h4, h5, h6⟩, hz.out⟩
        go_wp2
        go_ret
        exact ⟨by rw [ht.out]; rfl, HB.out⟩
  · have ht : Hid (tt (VS U Bs n a) = false) := tt_neg (fun h => hv h.1)
    clear HR H3
    go_enter Tryz.func30, Tryz.ntmps30
    go_wp2
    all_goals first
      | (exfalso; omega)
      | (go_ret; exact ⟨by rw [ht.out]; rfl, by (repeat' (first | (with_reducible exact Below.refl _ _) | (with_reducible assumption) | (with_reducible refine Below.alloc ?_ ?_ _) | (with_reducible refine Below.drew ?_) | (with_reducible refine below_drewN ?_ _) | (with_reducible refine Below.setCell ?_ ?_ _) | omega | (simp only [Go.Hd.size_drewN, World.size_alloc, World.size_setCell, World.size_drew]; omega) | (simp; omega)))⟩)
end Go.Proofs.YtmbokpfgnicboaaGreat
