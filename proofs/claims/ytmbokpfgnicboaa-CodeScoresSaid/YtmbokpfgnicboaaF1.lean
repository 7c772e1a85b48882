import Derived.Test.YtmbokpfgnicboaaArr
import Derived.Test.YtmbokpfgnicboaaProg
set_option linter.unusedVariables false
set_option linter.unusedSimpArgs false
/- The walks of words and copies: symbols counted one by one. -/
namespace Go.Proofs.Ytmbokpfgnicboaa
open Go.RowKit Go.Hd _root_.Hd

/-- All of n symbols are at most m. -/
def upTo (n : Nat) (f : Nat → Nat) (m : Nat) : Prop := ∀ j, j < n → f j ≤ m

theorem symbols_any (n : Nat) (f : Nat → Nat) (v : Value) (m : Nat) (w : World) (h : Rd w .u8 v n f) :
    Calls Try.prog 52 #[v, .int .u8 m] w fun e w' => e = .returned (.bool (tt (upTo n f m))) ∧ w = w' := by
  have hl := h.len_le
  obtain ⟨A, cap, rfl, h1, h2, h3⟩ := h
  have H3 := Lib.hid h3
  clear h3
  go_enter Try.func52, Try.ntmps52
  go_wp2
  go_loop [5] (fun i => ∃ k : Nat, k ≤ n ∧ i = .int .i64 k ∧ Hid (∀ j, j < k → f j ≤ m)) (fun i => n - (intOf i).toNat)
  case atStart => exact ⟨0, Nat.zero_le _, rfl, fun j hj => by omega⟩
  case round =>
    obtain ⟨k, hk, rfl, hz⟩ := hrel
    by_cases hlt : k < n
    · obtain ⟨b, off, rfl, hc⟩ := H3.out (by omega)
      have hci := hc k hlt
      clear hc
      by_cases hm : m < f k
      · have ht : Hid (tt (upTo n f m) = false) := tt_neg (fun hq => by have := hq k hlt; omega)
        go_wp2
        go_ret
        exact ⟨by rw [ht.out]; rfl, rfl⟩
      · go_wp2
        go_round
        case rel => exact ⟨k + 1, hlt, by go_num, fun j hj => by
          rcases Nat.lt_or_ge j k with h | h
          · exact hz.out j h
          · have : j = k := by omega
            rw [this]; omega⟩
        case measure => simp [intOf]; omega
    · obtain rfl : k = n := by omega
      have ht : Hid (tt (upTo k f m) = true) := tt_pos hz.out
      go_wp2
      go_ret
      exact ⟨by rw [ht.out]; rfl, rfl⟩

/-- A word with N places. -/
def IsW (n : Nat) (f : Nat → Nat) (N : Nat) : Prop := n = N ∧ upTo n f 1
/-- A copy with N places. -/
def IsC (n : Nat) (f : Nat → Nat) (N : Nat) : Prop := n = N ∧ upTo n f 2

theorem refIsWord_any (n : Nat) (f : Nat → Nat) (v : Value) (N : Nat) (w : World) (h : Rd w .u8 v n f) :
    Calls Try.prog 33 #[v, .int .i64 N] w fun e w' => e = .returned (.bool (tt (IsW n f N))) ∧ w = w' := by
  have hl := h.len_le
  have HS := Lib.hid (symbols_any n f v 1 w h)
  obtain ⟨A, cap, rfl, _, _, h3⟩ := h
  clear h3
  by_cases hn : n = N
  · have hb : ((n : Int) == (N : Int)) = true := by simp; omega
    have ht : Hid (tt (IsW n f N) = tt (upTo n f 1)) := tt_congr ⟨fun h => h.2, fun h => ⟨hn, h⟩⟩
    clear hn
    go_enter Try.func33, Try.ntmps33
    go_wp2_with (go_at_call 52; refine HS.out.mono ?_; rintro e w1 ⟨rfl, rfl⟩)
    go_ret
    exact ⟨by rw [ht.out]; rfl, rfl⟩
  · have hb : ((n : Int) == (N : Int)) = false := by simp; omega
    have ht : Hid (tt (IsW n f N) = false) := tt_neg (fun h => hn h.1)
    clear hn
    go_enter Try.func33, Try.ntmps33
    go_wp2
    go_ret
    exact ⟨by rw [ht.out]; rfl, rfl⟩

theorem refIsCopy_any (n : Nat) (f : Nat → Nat) (v : Value) (N : Nat) (w : World) (h : Rd w .u8 v n f) :
    Calls Try.prog 27 #[v, .int .i64 N] w fun e w' => e = .returned (.bool (tt (IsC n f N))) ∧ w = w' := by
  have hl := h.len_le
  have HS := Lib.hid (symbols_any n f v 2 w h)
  obtain ⟨A, cap, rfl, _, _, h3⟩ := h
  clear h3
  by_cases hn : n = N
  · have hb : ((n : Int) == (N : Int)) = true := by simp; omega
    have ht : Hid (tt (IsC n f N) = tt (upTo n f 2)) := tt_congr ⟨fun h => h.2, fun h => ⟨hn, h⟩⟩
    clear hn
    go_enter Try.func27, Try.ntmps27
    go_wp2_with (go_at_call 52; refine HS.out.mono ?_; rintro e w1 ⟨rfl, rfl⟩)
    go_ret
    exact ⟨by rw [ht.out]; rfl, rfl⟩
  · have hb : ((n : Int) == (N : Int)) = false := by simp; omega
    have ht : Hid (tt (IsC n f N) = false) := tt_neg (fun h => hn h.1)
    clear hn
    go_enter Try.func27, Try.ntmps27
    go_wp2
    go_ret
    exact ⟨by rw [ht.out]; rfl, rfl⟩

/-- How many of the first n symbols count as c. -/
def cnt (f : Nat → Nat) (c : Nat) : Nat → Nat
  | 0 => 0
  | n + 1 => cnt f c n + if min (f n) 3 = c then 1 else 0
theorem cnt_le (f : Nat → Nat) (c n : Nat) : cnt f c n ≤ n := by
  induction n with
  | zero => exact Nat.le_refl _
  | succ n ih => simp only [cnt]; split <;> omega

theorem counted_any (n : Nat) (f : Nat → Nat) (v : Value) (w : World) (h : Rd w .u8 v n f) (hf : ∀ j, j < n → f j < 256) :
    Calls Try.prog 51 #[v] w fun e w' => e = .returned (.agg #[.int .i64 (cnt f 0 n), .int .i64 (cnt f 1 n), .int .i64 (cnt f 2 n), .int .i64 (cnt f 3 n)]) ∧ Below w.heap.size w w' := by
  have hl := h.len_le
  have HR := Lib.hid h
  have HF := Lib.hid hf
  obtain ⟨A, cap, rfl, h1, h2, h3⟩ := h
  clear h3 hf
  go_enter Try.func51, Try.ntmps51
  go_wp2
  go_loopw [7] (fun i wr => ∃ k : Nat, k ≤ n ∧ i = .int .i64 k ∧ wr.rowIs w.heap.size 92 4 (fun c => .int .i64 (cnt f c k)) ∧ Below w.heap.size w wr) (fun i _ => n - (intOf i).toNat)
  case atStart => exact ⟨0, Nat.zero_le _, rfl, World.rowIs_alloc w _ _ _ (fun i hi => by
    match i, (show i < 4 from hi) with
    | 0, _ => rfl
    | 1, _ => rfl
    | 2, _ => rfl
    | 3, _ => rfl), (Below.refl _ _).alloc (Nat.le_refl _) _⟩
  case round =>
    obtain ⟨k, hk, rfl, hrow, hbel⟩ := hrel
    have HRow := Lib.hid hrow
    have HB := Lib.hid hbel
    clear hrow
    by_cases hlt : k < n
    · have HR2 := HR.out.below hbel
      obtain ⟨A', cap', hA', _, _, h3⟩ := HR2
      obtain ⟨b, off, hb, hc⟩ := h3 (by omega)
      cases hA'
      cases hb
      have hci := hc k hlt
      have hfk : f k < 256 := HF.out k hlt
      obtain ⟨m, hm⟩ : ∃ m, m = min (f k) 3 := ⟨_, rfl⟩
      have hm3 : m ≤ 3 := by omega
      have hmin : min ((f k : Nat) : Int) 3 = (m : Int) := by omega
      have hcell := HRow.out.cell (i := m) (by omega)
      have hfz := HRow.out.frozen m
      have hcl := cnt_le f m k
      have HM := Lib.hid hm
      clear hc hbel h3 hm
      go_wp2
      go_roundw
      case rel =>
        refine ⟨k + 1, hlt, by go_num, (HRow.out.set m _).congr fun c hc => ?_, HB.out.setCell (p := ⟨w.heap.size, m, none⟩) (Nat.le_refl _) _⟩
        show (if c = m then _ else _) = _
        simp only [cnt]
        rw [← HM.out]
        by_cases e : c = m
        · rw [if_pos e, if_pos e.symm, e]; go_num
        · rw [if_neg e, if_neg (fun h => e h.symm)]; rfl
      case measure => simp [intOf]; omega
    · obtain rfl : k = n := by omega
      have hblk := rowIs_four HRow.out
      have c0 := HRow.out.cell (i := 0) (by omega)
      have c1 := HRow.out.cell (i := 1) (by omega)
      have c2 := HRow.out.cell (i := 2) (by omega)
      have c3 := HRow.out.cell (i := 3) (by omega)
      have z0 := HRow.out.frozen 0
      have z1 := HRow.out.frozen 1
      have z2 := HRow.out.frozen 2
      have z3 := HRow.out.frozen 3
      clear hbel
      go_wp2
      refine bodyPost_ret (v := .agg #[.int .i64 (cnt f 0 k), .int .i64 (cnt f 1 k), .int .i64 (cnt f 2 k), .int .i64 (cnt f 3 k)]) ?_ rfl ⟨rfl, ?_⟩
      · simp [results, Try.f51, go_sem, c0, c1, c2, c3]
      · exact (((HB.out.setCell (p := ⟨w.heap.size, 0, none⟩) (Nat.le_refl _) _).setCell (p := ⟨w.heap.size, 1, none⟩) (Nat.le_refl _) _).setCell (p := ⟨w.heap.size, 2, none⟩) (Nat.le_refl _) _).setCell (p := ⟨w.heap.size, 3, none⟩) (Nat.le_refl _) _

theorem cnt_all (f : Nat → Nat) (n : Nat) : cnt f 0 n + cnt f 1 n + cnt f 2 n + cnt f 3 n = n := by
  induction n with
  | zero => rfl
  | succ n ih =>
    simp only [cnt]
    have : min (f n) 3 = 0 ∨ min (f n) 3 = 1 ∨ min (f n) 3 = 2 ∨ min (f n) 3 = 3 := by omega
    rcases this with h | h | h | h <;> simp [h] <;> omega
theorem cnt_zero (f : Nat → Nat) (c n : Nat) : cnt f c n = 0 ↔ ∀ j, j < n → min (f j) 3 ≠ c := by
  induction n with
  | zero => exact ⟨fun _ j hj => by omega, fun _ => rfl⟩
  | succ n ih =>
    simp only [cnt]
    constructor
    · intro h
      have h1 : cnt f c n = 0 := by omega
      have h2 : ¬ min (f n) 3 = c := by
        intro e
        rw [if_pos e] at h
        omega
      intro j hj
      rcases Nat.lt_or_ge j n with h3 | h3
      · exact ih.1 h1 j h3
      · have : j = n := by omega
        rw [this]; exact h2
    · intro h
      rw [if_neg (h n (by omega)), ih.2 (fun j hj => h j (by omega))]
theorem copy_cnt (f : Nat → Nat) (n : Nat) : cnt f 3 n = 0 ↔ upTo n f 2 := by
  rw [cnt_zero]
  exact ⟨fun h j hj => by have := h j hj; omega, fun h j hj => by have := h j hj; omega⟩
theorem word_cnt (f : Nat → Nat) (n N : Nat) : (cnt f 1 n : Int) = (N : Int) - (cnt f 0 n : Int) ∧ cnt f 2 n = 0 ∧ cnt f 3 n = 0 ↔ IsW n f N := by
  have ha := cnt_all f n
  constructor
  · rintro ⟨h1, h2, h3⟩
    refine ⟨by omega, fun j hj => ?_⟩
    have := (cnt_zero f 2 n).1 h2 j hj
    have := (cnt_zero f 3 n).1 h3 j hj
    omega
  · rintro ⟨h1, h2⟩
    have e2 := (cnt_zero f 2 n).2 (fun j hj => by have := h2 j hj; omega)
    have e3 := (cnt_zero f 3 n).2 (fun j hj => by have := h2 j hj; omega)
    omega

theorem idx4_3 (x0 x1 x2 x3 : Value) (w : World) : (Instr.index 92 (.agg #[x0, x1, x2, x3]) (.int .i64 3)).run Try.prog w = .ok x3 w := by kernel_rfl

set_option maxRecDepth 100000 in
theorem isCopy_any (n : Nat) (f : Nat → Nat) (v : Value) (N : Nat) (w : World) (h : Rd w .u8 v n f) (hf : ∀ j, j < n → f j < 256) :
    Calls Try.prog 24 #[v, .int .i64 N] w fun e w' => e = .returned (.bool (tt (IsC n f N))) ∧ Below w.heap.size w w' := by
  have hl := h.len_le
  have HS := Lib.hid (counted_any n f v w h hf)
  have hcl := cnt_le f 3 n
  obtain ⟨A, cap, rfl, _, _, h3⟩ := h
  clear h3 hf
  have i3 := idx4_3
  by_cases hn : n = N
  · have hb : ((n : Int) == (N : Int)) = true := by simp; omega
    obtain ⟨c, hc⟩ : ∃ c, c = (((cnt f 3 n : Nat) : Int) == 0) := ⟨_, rfl⟩
    have ht : Hid (tt (IsC n f N) = c) := by
      show _ = _
      rw [hc]
      by_cases hz : cnt f 3 n = 0
      · rw [tt_pos (show IsC n f N from ⟨hn, (copy_cnt f n).1 hz⟩), hz]; rfl
      · rw [tt_neg (fun h : IsC n f N => hz ((copy_cnt f n).2 h.2))]
        symm; rw [beq_eq_false_iff_ne]; omega
    have HC := Lib.hid hc
    clear hn hc
    go_enter Try.func24, Try.ntmps24
    go_wp2_with (go_at_call 51; refine HS.out.mono ?_; rintro e w1 ⟨rfl, hB⟩)
    have hB : Below w.heap.size w w1 := by assumption
    go_ret
    exact ⟨by rw [ht.out, HC.out]; rfl, hB⟩
  · have hb : ((n : Int) == (N : Int)) = false := by simp; omega
    have ht : Hid (tt (IsC n f N) = false) := tt_neg (fun h => hn h.1)
    clear hn
    go_enter Try.func24, Try.ntmps24
    go_wp2
    go_ret
    exact ⟨by rw [ht.out]; rfl, Below.refl _ _⟩

theorem eq_arr4 (a0 a1 a2 a3 b0 b1 b2 b3 : Int) (w : World) :
    (binOp .eql 92 (.agg #[.int .i64 a0, .int .i64 a1, .int .i64 a2, .int .i64 a3]) (.agg #[.int .i64 b0, .int .i64 b1, .int .i64 b2, .int .i64 b3])).run Try.prog w = .ok (.bool (a0 == b0 && a1 == b1 && a2 == b2 && a3 == b3)) w := by
  have h := run_eql_ints (P := Try.prog) 92 3 .i64 4 Try.underlying92 Try.underlying3 (fun _ => by kernel_rfl) [a0, a1, a2, a3] [b0, b1, b2, b3] rfl rfl w
  have e : ((List.range 4).all fun i => [a0, a1, a2, a3].getD i 0 == [b0, b1, b2, b3].getD i 0) = (a0 == b0 && a1 == b1 && a2 == b2 && a3 == b3) := by
    simp [List.range_succ, Bool.and_assoc]
  rw [e] at h
  exact h
set_option maxRecDepth 100000 in
theorem isWord_any (n : Nat) (f : Nat → Nat) (v : Value) (N : Nat) (w : World) (h : Rd w .u8 v n f) (hf : ∀ j, j < n → f j < 256) (hN : N ≤ 9223372036854775807) :
    Calls Try.prog 23 #[v, .int .i64 N] w fun e w' => e = .returned (.bool (tt (IsW n f N))) ∧ Below w.heap.size w w' := by
  have hl := h.len_le
  have HS := Lib.hid (counted_any n f v w h hf)
  have hc0 := cnt_le f 0 n
  have hc1 := cnt_le f 1 n
  have hc2 := cnt_le f 2 n
  have hc3 := cnt_le f 3 n
  have HW := Lib.hid (word_cnt f n N)
  obtain ⟨A, cap, rfl, _, _, h3⟩ := h
  clear h3 hf
  generalize cnt f 0 n = c0 at *
  generalize cnt f 1 n = c1 at *
  generalize cnt f 2 n = c2 at *
  generalize cnt f 3 n = c3 at *
  have heq := eq_arr4 (c0 : Int) (c1 : Int) (c2 : Int) (c3 : Int) (c0 : Int) ((N : Int) - (c0 : Int)) 0 0
  obtain ⟨b, hb⟩ : ∃ b, b = (((c0 : Int) == (c0 : Int)) && ((c1 : Int) == (N : Int) - (c0 : Int)) && ((c2 : Int) == 0) && ((c3 : Int) == 0)) := ⟨_, rfl⟩
  rw [← hb] at heq
  have HB : Hid (tt (IsW n f N) = b) := by
    show _ = _
    rw [hb, ← tt_congr HW.out]
    by_cases hq : (c1 : Int) = (N : Int) - (c0 : Int) ∧ c2 = 0 ∧ c3 = 0
    · rw [tt_pos hq]; simp [hq.1, hq.2.1, hq.2.2]
    · rw [tt_neg hq]; symm
      simp only [beq_self_eq_true, Bool.true_and, Bool.and_eq_false_iff, beq_eq_false_iff_ne]
      omega
  clear hb
  go_enter Try.func23, Try.ntmps23
  go_wp2_with (go_at_call 51; refine HS.out.mono ?_; rintro e w1 ⟨rfl, hB⟩)
  have hB : Below w.heap.size w w1 := by assumption
  go_ret
  exact ⟨by rw [HB.out]; rfl, hB.trans (((Below.refl _ w1).alloc (Nat.le_refl _) _).mono hB.size)⟩
end Go.Proofs.Ytmbokpfgnicboaa
