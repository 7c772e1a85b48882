import Derived.Test.YtmbokpfgnicboaaGreatArr
import Derived.Test.YtmbokpfgnicboaaGreatProg
set_option linter.unusedVariables false
set_option linter.unusedSimpArgs false
/- The walks of words and copies: symbols counted one by one. -/
namespace Go.Proofs.YtmbokpfgnicboaaGreat
open Go.RowKit Go.Hd _root_.Hd

/-- All of n symbols are at most m. -/
def upTo (n : Nat) (f : Nat → Nat) (m : Nat) : Prop := ∀ j, j < n → f j ≤ m

theorem symbols_any (n : Nat) (f : Nat → Nat) (v : Value) (m : Nat) (w : World) (h : Rd w .u8 v n f) :
    Calls Tryz.prog 79 #[v, .int .u8 m] w fun e w' => e = .returned (.bool (tt (upTo n f m))) ∧ w = w' := by
  have hl := h.len_le
  obtain ⟨A, cap, rfl, h1, h2, h3⟩ := h
  have H3 := Lib.hid h3
  clear h3
  go_enter Tryz.func79, Tryz.ntmps79
  go_wp2
  go_loop [5] (fun i => ∃ k : Nat, k ≤ n ∧ i = .int .i64 k ∧ Hid (∀ j, j < k → f j ≤ m)) (fun i => n - (intOf i).toNat)
  case atStart => exact ⟨0, Nat.zero_le _, rfl, fun j hj => by omega⟩
  case round =>
    obtain ⟨k, hk, rfl, hz⟩ := hrel
    by_cases hlt : k < n
    · obtain ⟨b, off, rfl, hc⟩ := H3.out (by omega)
      have hci := hc k hlt
      clear hc
      by_cases hm : m < f k
      · have ht : Hid (tt (upTo n f m) = false) := tt_neg (fun hq => by have := hq k hlt; omega)
        go_wp2
        go_ret
        exact ⟨by rw [ht.out]; rfl, rfl⟩
      · go_wp2
        go_round
        case rel => exact ⟨k + 1, hlt, by go_num, fun j hj => by
          rcases Nat.lt_or_ge j k with h | h
          · exact hz.out j h
          · have : j = k := by omega
            rw [this]; omega⟩
        case measure => simp [intOf]; omega
    · obtain rfl : k = n := by omega
      have ht : Hid (tt (upTo k f m) = true) := tt_pos hz.out
      go_wp2
      go_ret
      exact ⟨by rw [ht.out]; rfl, rfl⟩

/-- A word with N places. -/
def IsW (n : Nat) (f : Nat → Nat) (N : Nat) : Prop := n = N ∧ upTo n f 1
/-- A copy with N places. -/
def IsC (n : Nat) (f : Nat → Nat) (N : Nat) : Prop := n = N ∧ upTo n f 2

theorem refIsWord_any (n : Nat) (f : Nat → Nat) (v : Value) (N : Nat) (w : World) (h : Rd w .u8 v n f) :
    Calls Tryz.prog 56 #[v, .int .i64 N] w fun e w' => e = .returned (.bool (tt (IsW n f N))) ∧ w = w' := by
  have hl := h.len_le
  have HS := Lib.hid (symbols_any n f v 1 w h)
  obtain ⟨A, cap, rfl, _, _, h3⟩ := h
  clear h3
  by_cases hn : n = N
  · have hb : ((n : Int) == (N : Int)) = true := by simp; omega
    have ht : Hid (tt (IsW n f N) = tt (upTo n f 1)) := tt_congr ⟨fun h => h.2, fun h => ⟨hn, h⟩⟩
    clear hn
    go_enter Tryz.func56, Tryz.ntmps56
    go_wp2_with (go_at_call 79; refine HS.out.mono ?_; rintro e w1 ⟨rfl, rfl⟩)
    go_ret
    exact ⟨by rw [ht.out]; rfl, rfl⟩
  · have hb : ((n : Int) == (N : Int)) = false := by simp; omega
    have ht : Hid (tt (IsW n f N) = false) := tt_neg (fun h => hn h.1)
    clear hn
    go_enter Tryz.func56, Tryz.ntmps56
    go_wp2
    go_ret
    exact ⟨by rw [ht.out]; rfl, rfl⟩

theorem refIsCopy_any (n : Nat) (f : Nat → Nat) (v : Value) (N : Nat) (w : World) (h : Rd w .u8 v n f) :
    Calls Tryz.prog 31 #[v, .int .i64 N] w fun e w' => e = .returned (.bool (tt (IsC n f N))) ∧ w = w' := by
  have hl := h.len_le
  have HS := Lib.hid (symbols_any n f v 2 w h)
  obtain ⟨A, cap, rfl, _, _, h3⟩ := h
  clear h3
  by_cases hn : n = N
  · have hb : ((n : Int) == (N : Int)) = true := by simp; omega
    have ht : Hid (tt (IsC n f N) = tt (upTo n f 2)) := tt_congr ⟨fun h => h.2, fun h => ⟨hn, h⟩⟩
    clear hn
    go_enter Tryz.func31, Tryz.ntmps31
    go_wp2_with (go_at_call 79; refine HS.out.mono ?_; rintro e w1 ⟨rfl, rfl⟩)
    go_ret
    exact ⟨by rw [ht.out]; rfl, rfl⟩
  · have hb : ((n : Int) == (N : Int)) = false := by simp; omega
    have ht : Hid (tt (IsC n f N) = false) := tt_neg (fun h => hn h.1)
    clear hn
    go_enter Tryz.func31, Tryz.ntmps31
    go_wp2
    go_ret
    exact ⟨by rw [ht.out]; rfl, rfl⟩

/-- How many of the first n symbols count as c. -/
def cnt (f : Nat → Nat) (c : Nat) : Nat → Nat
  | 0 => 0
  | n + 1 => cnt f c n + if min (f n) 3 = c then 1 else 0
theorem cnt_le (f : Nat → Nat) (c n : Nat) : cnt f c n ≤ n := by
  induction n with
  | zero => exact Nat.le_refl _
  | succ n ih => simp only [cnt]; split <;> omega

theorem counted_any (n : Nat) (f : Nat → Nat) (v : Value) (w : World) (h : Rd w .u8 v n f) (hf : ∀ j, j < n → f j < 256) :
    Calls Tryz.prog 132 #[v] w fun e w' => e = .returned (.agg #[.int .i64 (cnt f 0 n), .int .i64 (cnt f 1 n), .int .i64 (cnt f 2 n), .int .i64 (cnt f 3 n)]) ∧ Below w.heap.size w w' := by
  have hl := h.len_le
  have HR := Lib.hid h
  have HF := Lib.hid hf
  obtain ⟨A, cap, rfl, h1, h2, h3⟩ := h
  clear h3 hf
  go_enter Tryz.func132, Tryz.ntmps132
  go_wp2
  go_loopw [7] (fun i wr => ∃ k : Nat, k ≤ n ∧ i = .int .i64 k ∧ wr.rowIs w.heap.size 176 4 (fun c => .int .i64 (cnt f c k)) ∧ Below w.heap.size w wr) (fun i _ => n - (intOf i).toNat)
  case atStart => exact ⟨0, Nat.zero_le _, rfl, World.rowIs_alloc w _ _ _ (fun i hi => by
    match i, (show i < 4 from hi) with
    | 0, _ => rfl
    | 1, _ => rfl
    | 2, _ => rfl
    | 3, _ => rfl), (Below.refl _ _).alloc (Nat.le_refl _) _⟩
  case round =>
    obtain ⟨k, hk, rfl, hrow, hbel⟩ := hrel
    have HRow := Lib.hid hrow
    have HB := Lib.hid hbel
    clear hrow
    by_cases hlt : k < n
    · have HR2 := HR.out.below hbel
      obtain ⟨A', cap', hA', _, _, h3⟩ := HR2
      obtain ⟨b, off, hb, hc⟩ := h3 (by omega)
      cases hA'
      cases hb
      have hci := hc k hlt
      have hfk : f k < 256 := HF.out k hlt
      obtain ⟨m, hm⟩ : ∃ m, m = min (f k) 3 := ⟨_, rfl⟩
      have hm3 : m ≤ 3 := by omega
      have hmin : min ((f k : Nat) : Int) 3 = (m : Int) := by omega
      have hcell := HRow.out.cell (i := m) (by omega)
      have hfz := HRow.out.frozen m
      have hcl := cnt_le f m k
      have HM := Lib.hid hm
      clear hc hbel h3 hm
      go_wp2
      go_roundw
      case rel =>
        refine ⟨k + 1, hlt, by go_num, (HRow.out.set m _).congr fun c hc => ?_, HB.out.setCell (p := ⟨w.heap.size, m, none⟩) (Nat.le_refl _) _⟩
        show (if c = m then _ else _) = _
        simp only [cnt]
        rw [← HM.out]
        by_cases e : c = m
        · rw [if_pos e, if_pos e.symm, e]; go_num
        · rw [if_neg e, if_neg (fun h => e h.symm)]; rfl
      case measure => simp [intOf]; omega
    · obtain rfl : k = n := by omega
      have hblk := rowIs_four HRow.out
      have c0 := HRow.out.cell (i := 0) (by omega)
      have c1 := HRow.out.cell (i := 1) (by omega)
      have c2 := HRow.out.cell (i := 2) (by omega)
      have c3 := HRow.out.cell (i := 3) (by omega)
      have z0 := HRow.out.frozen 0
      have z1 := HRow.out.frozen 1
      have z2 := HRow.out.frozen 2
      have z3 := HRow.out.frozen 3
      clear hbel
      go_wp2
      refine bodyPost_ret (v := .agg #[.int .i64 (cnt f 0 k), .int .i64 (cnt f 1 k), .int .i64 (cnt f 2 k), .int .i64 (cnt f 3 k)]) ?_ rfl ⟨rfl, ?_⟩
      · simp [results, Tryz.f132, go_sem, c0, c1, c2, c3]
      · exact (((HB.out.setCell (p := ⟨w.heap.size, 0, none⟩) (Nat.le_refl _) _).setCell (p := ⟨w.heap.size, 1, none⟩) (Nat.le_refl _) _).setCell (p := ⟨w.heap.size, 2, none⟩) (Nat.le_refl _) _).setCell (p := ⟨w.heap.size, 3, none⟩) (Nat.le_refl _) _

theorem cnt_all (f : Nat → Nat) (n : Nat) : cnt f 0 n + cnt f 1 n + cnt f 2 n + cnt f 3 n = n := by
  induction n with
  | zero => rfl
  | succ n ih =>
    simp only [cnt]
    have : min (f n) 3 = 0 ∨ min (f n) 3 = 1 ∨ min (f n) 3 = 2 ∨ min (f n) 3 = 3 := by omega
    rcases this with h | h | h | h <;> simp [h] <;> omega
theorem cnt_zero (f : Nat → Nat) (c n : Nat) : cnt f c n = 0 ↔ ∀ j, j < n → min (f j) 3 ≠ c := by
  induction n with
  | zero => exact ⟨fun _ j hj => by omega, fun _ => rfl⟩
  | succ n ih =>
    simp only [cnt]
    constructor
    · intro h
      have h1 : cnt f c n = 0 := by omega
      have h2 : ¬ min (f n) 3 = c := by
        intro e
        rw [if_pos e] at h
        omega
      intro j hj
      rcases Nat.lt_or_ge j n with h3 | h3
      · exact ih.1 h1 j h3
      · have : j = n := by omega
        rw [this]; exact h2
    · intro h
      rw [if_neg (h n (by omega)), ih.2 (fun j hj => h j (by omega))]
theorem copy_cnt (f : Nat → Nat) (n : Nat) : cnt f 3 n = 0 ↔ upTo n f 2 := by
  rw [cnt_zero]
  exact ⟨fun h j hj => by have := h j hj; omega, fun h j hj => by have := h j hj; omega⟩
theorem word_cnt (f : Nat → Nat) (n N : Nat) : (cnt f 1 n : Int) = (N : Int) - (cnt f 0 n : Int) ∧ cnt f 2 n = 0 ∧ cnt f 3 n = 0 ↔ IsW n f N := by
  have ha := cnt_all f n
  constructor
  · rintro ⟨h1, h2, h3⟩
    refine ⟨by omega, fun j hj => ?_⟩
    have := (cnt_zero f 2 n).1 h2 j hj
    have := (cnt_zero f 3 n).1 h3 j hj
    omega
  · rintro ⟨h1, h2⟩
    have e2 := (cnt_zero f 2 n).2 (fun j hj => by have := h2 j hj; omega)
    have e3 := (cnt_zero f 3 n).2 (fun j hj => by have := h2 j hj; omega)
    omega

theorem idx4_3 (x0 x1 x2 x3 : Value) (w : World) : (Instr.index 176 (.agg #[x0, x1, x2, x3]) (.int .i64 3)).run Tryz.prog w = .ok x3 w := by kernel_rfl

set_option maxRecDepth 100000 in
theorem isCopy_any (n : Nat) (f : Nat → Nat) (v : Value) (N : Nat) (w : World) (h : Rd w .u8 v n f) (hf : ∀ j, j < n → f j < 256) :
    Calls Tryz.prog 86 #[v, .int .i64 N] w fun e w' => e = .returned (.bool (tt (IsC n f N))) ∧ Below w.heap.size w w' := by
  have hl := h.len_le
  have HS := Lib.hid (counted_any n f v w h hf)
  have hcl := cnt_le f 3 n
  obtain ⟨A, cap, rfl, _, _, h3⟩ := h
  clear h3 hf
  have i3 := idx4_3
  by_cases hn : n = N
  · have hb : ((n : Int) == (N : Int)) = true := by simp; omega
    obtain ⟨c, hc⟩ : ∃ c, c = (((cnt f 3 n : Nat) : Int) == 0) := ⟨_, rfl⟩
    have ht : Hid (tt (IsC n f N) = c) := by
      show _ = _
      rw [hc]
      by_cases hz : cnt f 3 n = 0
      · rw [tt_pos (show IsC n f N from ⟨hn, (copy_cnt f n).1 hz⟩), hz]; rfl
      · rw [tt_neg (fun h : IsC n f N => hz ((copy_cnt f n).2 h.2))]
        symm; rw [beq_eq_false_iff_ne]; omega
    have HC := Lib.hid hc
    clear hn hc
    go_enter Tryz.func86, Tryz.ntmps86
    go_wp2_with (go_at_call 132; refine HS.out.mono ?_; rintro e w1 ⟨rfl, hB⟩)
    have hB : Below w.heap.size w w1 := by assumption
    go_ret
    exact ⟨by rw [ht.out, HC.out]; rfl, hB⟩
  · have hb : ((n : Int) == (N : Int)) = false := by simp; omega
    have ht : Hid (tt (IsC n f N) = false) := tt_neg (fun h => hn h.1)
    clear hn
    go_enter Tryz.func86, Tryz.ntmps86
    go_wp2
    go_ret
    exact ⟨by rw [ht.out]; rfl, Below.refl _ _⟩

theorem eq_arr4 (a0 a1 a2 a3 b0 b1 b2 b3 : Int) (w : World) :
    (binOp .eql 176 (.agg #[.int .i64 a0, .int .i64 a1, .int .i64 a2, .int .i64 a3]) (.agg #[.int .i64 b0, .int .i64 b1, .int .i64 b2, .int .i64 b3])).run Tryz.prog w = .ok (.bool (a0 == b0 && a1 == b1 && a2 == b2 && a3 == b3)) w := by
  have h := run_eql_ints (P := Tryz.prog) 176 3 .i64 4 Tryz.underlying176 Tryz.underlying3 (fun _ => by kernel_rfl) [a0, a1, a2, a3] [b0, b1, b2, b3] rfl rfl w
  have e : ((List.range 4).all fun i => [a0, a1, a2, a3].getD i 0 == [b0, b1, b2, b3].getD i 0) = (a0 == b0 && a1 == b1 && a2 == b2 && a3 == b3) := by
    simp [List.range_succ, Bool.and_assoc]
  rw [e] at h
  exact h
set_option maxRecDepth 100000 in
theorem isWord_any (n : Nat) (f : Nat → Nat) (v : Value) (N : Nat) (w : World) (h : Rd w .u8 v n f) (hf : ∀ j, j < n → f j < 256) (hN : N ≤ 9223372036854775807) :
    Calls Tryz.prog 85 #[v, .int .i64 N] w fun e w' => e = .returned (.bool (tt (IsW n f N))) ∧ Below w.heap.size w w' := by
  have hl := h.len_le
  have HS := Lib.hid (counted_any n f v w h hf)
  have hc0 := cnt_le f 0 n
  have hc1 := cnt_le f 1 n
  have hc2 := cnt_le f 2 n
  have hc3 := cnt_le f 3 n
  have HW := Lib.hid (word_cnt f n N)
  obtain ⟨A, cap, rfl, _, _, h3⟩ := h
  clear h3 hf
  generalize cnt f 0 n = c0 at *
  generalize cnt f 1 n = c1 at *
  generalize cnt f 2 n = c2 at *
  generalize cnt f 3 n = c3 at *
  have heq := eq_arr4 (c0 : Int) (c1 : Int) (c2 : Int) (c3 : Int) (c0 : Int) ((N : Int) - (c0 : Int)) 0 0
  obtain ⟨b, hb⟩ : ∃ b, b = (((c0 : Int) == (c0 : Int)) && ((c1 : Int) == (N : Int) - (c0 : Int)) && ((c2 : Int) == 0) && ((c3 : Int) == 0)) := ⟨_, rfl⟩
  rw [← hb] at heq
  have HB : Hid (tt (IsW n f N) = b) := by
    show _ = _
    rw [hb, ← tt_congr HW.out]
    by_cases hq : (c1 : Int) = (N : Int) - (c0 : Int) ∧ c2 = 0 ∧ c3 = 0
    · rw [tt_pos hq]; simp [hq.1, hq.2.1, hq.2.2]
    · rw [tt_neg hq]; symm
      simp only [beq_self_eq_true, Bool.true_and, Bool.and_eq_false_iff, beq_eq_false_iff_ne]
      omega
  clear hb
  go_enter Tryz.func85, Tryz.ntmps85
  go_wp2_with (go_at_call 132; refine HS.out.mono ?_; rintro e w1 ⟨rfl, hB⟩)
  have hB : Below w.heap.size w w1 := by assumption
  go_ret
  exact ⟨by rw [HB.out]; rfl, hB.trans (((Below.refl _ w1).alloc (Nat.le_refl _) _).mono hB.size)⟩
end Go.Proofs.YtmbokpfgnicboaaGreat

/- The walks of the reference's Feasible. -/
namespace Go.Proofs.YtmbokpfgnicboaaGreat
open Go.RowKit Go.Hd _root_.Hd

/-- v is a slice of n words: the word k has L k symbols, G k 0, G k 1, and so on. -/
def RdW (w : World) (v : Value) (n : Nat) (L : Nat → Nat) (G : Nat → Nat → Nat) : Prop :=
  ∃ F, RdV w v n F ∧ ∀ k, k < n → Rd w .u8 (F k) (L k) (G k)

theorem RdW.below {w w1 : World} {v : Value} {n : Nat} {L : Nat → Nat} {G : Nat → Nat → Nat} (h : RdW w v n L G) (hb : Below w.heap.size w w1) : RdW w1 v n L G := by
  obtain ⟨F, h1, h2⟩ := h
  exact ⟨F, h1.below hb, fun k hk => (h2 k hk).below hb⟩

/-- A word's cell, and its symbols. -/
theorem RdW.at_ {w : World} {v : Value} {n : Nat} {L : Nat → Nat} {G : Nat → Nat → Nat} (h : RdW w v n L G) :
    ∃ A cap, v = .slice A n cap ∧ n ≤ 9223372036854775807 ∧ (0 < n → ∃ b off, A = some ⟨b, off, none⟩ ∧ ∀ k, k < n → ∃ Ak ck, w.cell? ⟨b, off + k, none⟩ = some (.slice Ak (L k) ck) ∧ L k ≤ 9223372036854775807 ∧ Rd w .u8 (.slice Ak (L k) ck) (L k) (G k)) := by
  obtain ⟨F, ⟨A, cap, rfl, h1, h2, h3⟩, hF⟩ := h
  refine ⟨A, cap, rfl, by unfold maxLen at h2; omega, fun hn => ?_⟩
  obtain ⟨b, off, hA, hc⟩ := h3 hn
  refine ⟨b, off, hA, fun k hk => ?_⟩
  have hR := hF k hk
  have hl := hR.len_le
  have hR' := hR
  obtain ⟨Ak, ck, hv, _⟩ := hR
  rw [hv] at hR'
  exact ⟨Ak, ck, by rw [hc k hk, hv], hl, hR'⟩

/-- From 1 to 64 words of one length of at most 1024. -/
def WordsOk (n : Nat) (L : Nat → Nat) (G : Nat → Nat → Nat) : Prop := 1 ≤ n ∧ n ≤ 64 ∧ L 0 ≤ 1024 ∧ ∀ k, k < n → IsW (L k) (G k) (L 0)
/-- A copy has the words' symbol wherever they have the same. -/
def Feas (n : Nat) (N : Nat) (G : Nat → Nat → Nat) (Y : Nat → Nat) : Prop := ∀ i, i < N → (∀ k, k < n → G k i = G 0 i) → Y i = G 0 i



/-- The words up to k have the first one's symbol in the place i. -/
def same (G : Nat → Nat → Nat) (i k : Nat) : Prop := ∀ j, j < k → G j i = G 0 i

end Go.Proofs.YtmbokpfgnicboaaGreat

/- The walks of Feasible: the reference's and the program's. -/
namespace Go.Proofs.YtmbokpfgnicboaaGreat
open Go.RowKit Go.Hd _root_.Hd

/-- Whether a copy is feasible. -/
noncomputable def feasX (n : Nat) (L : Nat → Nat) (G : Nat → Nat → Nat) (N : Nat) (Y : Nat → Nat) : Bool := tt (WordsOk n L G ∧ IsC N Y (L 0) ∧ Feas n N G Y)
/-- The number of its error. -/
noncomputable def feasE (n : Nat) (L : Nat → Nat) (G : Nat → Nat → Nat) (N : Nat) (Y : Nat → Nat) : Int := if tt (WordsOk n L G) = true then (if tt (IsC N Y (L 0)) = true then 0 else 71) else 2

theorem drawn_below_cell {w : World} {v : Value} {n : Nat} {L : Nat → Nat} {G : Nat → Nat → Nat} (h : RdW w v n L G) (m : Nat) : RdW (w.drewN m) v n L G := h.below (Drawn.below ⟨m, rfl⟩)



/-! ### The program's: the two closures, and the look for a word by them -/

/-- 'w is no word': the length is in a variable. -/
theorem notWord_any (n : Nat) (f : Nat → Nat) (v : Value) (N b : Nat) (w : World) (h : Rd w .u8 v n f) (hf : ∀ j, j < n → f j < 256) (hN : N ≤ 9223372036854775807) (hc : w.cell? ⟨b, 0, none⟩ = some (.int .i64 N)) :
    Calls Tryz.prog 109 #[v, .pointer (some ⟨b, 0, none⟩)] w fun e w' => e = .returned (.bool (!tt (IsW n f N))) ∧ Below w.heap.size w w' := by
  have HS := Lib.hid (isWord_any n f v N w h hf hN)
  obtain ⟨A, cap, rfl, _, _, h3⟩ := h
  clear h3 hf
  go_enter Tryz.func109, Tryz.ntmps109
  go_wp2_with (go_at_call 85; refine HS.out.mono ?_; rintro e w1 ⟨rfl, hB⟩)
  have hB : Below w.heap.size w w1 := by assumption
  go_ret
  exact ⟨rfl, hB⟩


set_option maxRecDepth 100000 in
theorem index_nw (n : Nat) (F : Nat → Value) (p : Nat → Bool) (v : Value) (w : World) (B1 : Nat) (h : RdV w v n F) (hs : ∀ k, k < n → ∃ A c l, F k = .slice A l c)
    (hp : ∀ k, k < n → ∀ W, Below w.heap.size w W → Calls Tryz.prog 109 #[F k, .pointer (some ⟨B1, 0, none⟩)] W fun e w' => e = .returned (.bool (p k)) ∧ Below W.heap.size W w') :
    Calls Tryz.prog 145 #[v, .func (.func 109) #[] #[.pointer (some ⟨B1, 0, none⟩)]] w fun e w' => (∃ r : Int, e = .returned (.int .i64 r) ∧ (r = -1 ∧ (∀ j, j < n → p j = false) ∨ ∃ j : Nat, r = j ∧ j < n ∧ p j = true)) ∧ Below w.heap.size w w' := by
  obtain ⟨A, cap, rfl, h1, h2, h3⟩ := h
  have hl : n ≤ 9223372036854775807 := by unfold maxLen at h2; omega
  have H3 := Lib.hid h3
  have HP := Lib.hid hp
  have HS := Lib.hid hs
  clear h3 hp hs
  go_enter Tryz.func145, Tryz.ntmps145
  go_wp2
  go_loopw [8] (fun i wr => ∃ k : Nat, k ≤ n ∧ i = .int .i64 k ∧ Hid (∀ j, j < k → p j = false) ∧ Below w.heap.size w wr) (fun i _ => n - (intOf i).toNat)
  case atStart => exact ⟨0, Nat.zero_le _, rfl, fun j hj => by omega, Below.refl _ _⟩
  case round =>
    obtain ⟨k, hk, rfl, hz, hbel⟩ := hrel
    by_cases hlt : k < n
    · obtain ⟨b, off, rfl, hc⟩ := H3.out (by omega)
      have hci := cell_below hbel (hc k hlt)
      have HQ := HP.out k hlt _ hbel
      obtain ⟨Ak, ck, lk, hFk⟩ := HS.out k hlt
      rw [hFk] at hci HQ
      have HQ' := Lib.hid HQ
      have HB := Lib.hid hbel
      clear hc hFk HQ hbel
      obtain ⟨c, hc⟩ : ∃ c, c = p k := ⟨_, rfl⟩
      rw [← hc] at HQ'
      have HC := Lib.hid hc
      have HZ : Hid (p k = false → ∀ j, j < k + 1 → p j = false) := fun e j hj => by
        rcases Nat.lt_or_ge j k with h | h
        · exact hz.out j h
        · have : j = k := by omega
          rw [this]; exact e
      clear hc
      cases c with
      | true =>
        go_wp2_with (go_at_call 109; refine HQ'.out.mono ?_; rintro e w1 ⟨rfl, hB1⟩)
        have hB1 : Below wr.heap.size wr w1 := by assumption
        go_ret
        exact ⟨⟨_, rfl, .inr ⟨k, rfl, hlt, HC.out.symm⟩⟩, below_then HB.out hB1⟩
      | false =>
        go_wp2_with (go_at_call 109; refine HQ'.out.mono ?_; rintro e w1 ⟨rfl, hB1⟩)
        have hB1 : Below wr.heap.size wr w1 := by assumption
        go_roundw
        case rel => exact ⟨k + 1, hlt, by go_num, HZ.out HC.out.symm, below_then HB.out hB1⟩
        case measure => simp [intOf]; omega
    · obtain rfl : k = n := by omega
      go_wp2
      go_ret
      exact ⟨⟨_, rfl, .inl ⟨rfl, hz.out⟩⟩, hbel⟩

theorem contains_nw (n : Nat) (F : Nat → Value) (p : Nat → Bool) (v : Value) (w : World) (B1 : Nat) (h : RdV w v n F) (hs : ∀ k, k < n → ∃ A c l, F k = .slice A l c)
    (hp : ∀ k, k < n → ∀ W, Below w.heap.size w W → Calls Tryz.prog 109 #[F k, .pointer (some ⟨B1, 0, none⟩)] W fun e w' => e = .returned (.bool (p k)) ∧ Below W.heap.size W w') :
    Calls Tryz.prog 108 #[v, .func (.func 109) #[] #[.pointer (some ⟨B1, 0, none⟩)]] w fun e w' => e = .returned (.bool (tt (∃ k, k < n ∧ p k = true))) ∧ Below w.heap.size w w' := by
  have HI := Lib.hid (index_nw n F p v w B1 h hs hp)
  obtain ⟨A, cap, rfl, _⟩ := h
  clear hp hs
  go_enter Tryz.func108, Tryz.ntmps108
  go_wp2_with fail
  refine HI.out.mono ?_
  rintro e w1 ⟨⟨r, rfl, hr⟩, hB⟩
  have HB := Lib.hid hB
  rcases hr with ⟨rfl, hr⟩ | ⟨j, rfl, hj, hr⟩
  · have ht : Hid (tt (∃ k, k < n ∧ p k = true) = false) := tt_neg (fun ⟨k, hk, hpk⟩ => by rw [hr k hk] at hpk; cases hpk)
    clear hr hB
    go_wp2
    go_ret
    exact ⟨by rw [ht.out]; rfl, HB.out⟩
  · have ht : Hid (tt (∃ k, k < n ∧ p k = true) = true) := tt_pos ⟨j, hj, hr⟩
    clear hr hB
    go_wp2
    go_ret
    exact ⟨by rw [ht.out]; rfl, HB.out⟩

set_option maxRecDepth 100000 in
theorem index_odd (n : Nat) (F : Nat → Value) (p : Nat → Bool) (v : Value) (w : World) (B1 B2 : Nat) (h : RdV w v n F) (hs : ∀ k, k < n → ∃ A c l, F k = .slice A l c)
    (hp : ∀ k, k < n → ∀ W, Drawn w W → Calls Tryz.prog 110 #[F k, .pointer (some ⟨B1, 0, none⟩), .pointer (some ⟨B2, 0, none⟩)] W fun e w' => e = .returned (.bool (p k)) ∧ Drawn W w') :
    Calls Tryz.prog 145 #[v, .func (.func 110) #[] #[.pointer (some ⟨B1, 0, none⟩), .pointer (some ⟨B2, 0, none⟩)]] w fun e w' => (∃ r : Int, e = .returned (.int .i64 r) ∧ (r = -1 ∧ (∀ j, j < n → p j = false) ∨ ∃ j : Nat, r = j ∧ j < n ∧ p j = true)) ∧ Drawn w w' := by
  obtain ⟨A, cap, rfl, h1, h2, h3⟩ := h
  have hl : n ≤ 9223372036854775807 := by unfold maxLen at h2; omega
  have H3 := Lib.hid h3
  have HP := Lib.hid hp
  have HS := Lib.hid hs
  clear h3 hp hs
  go_enter Tryz.func145, Tryz.ntmps145
  go_wp2
  go_loopw [8] (fun i wr => ∃ k : Nat, k ≤ n ∧ i = .int .i64 k ∧ Hid (∀ j, j < k → p j = false) ∧ Drawn w wr) (fun i _ => n - (intOf i).toNat)
  case atStart => exact ⟨0, Nat.zero_le _, rfl, fun j hj => by omega, Drawn.refl _⟩
  case round =>
    obtain ⟨k, hk, rfl, hz, hbel⟩ := hrel
    obtain ⟨W0, hW0⟩ : ∃ W0 : World, W0 = wr := ⟨_, rfl⟩
    rw [← hW0] at hbel ⊢
    clear hW0
    by_cases hlt : k < n
    · obtain ⟨b, off, rfl, hc⟩ := H3.out (by omega)
      have hci := cell_below hbel.below (hc k hlt)
      have HQ := HP.out k hlt _ hbel
      obtain ⟨Ak, ck, lk, hFk⟩ := HS.out k hlt
      rw [hFk] at hci HQ
      have HQ' := Lib.hid HQ
      have HB := Lib.hid hbel
      clear hc hFk HQ hbel
      obtain ⟨c, hc⟩ : ∃ c, c = p k := ⟨_, rfl⟩
      rw [← hc] at HQ'
      have HC := Lib.hid hc
      have HZ : Hid (p k = false → ∀ j, j < k + 1 → p j = false) := fun e j hj => by
        rcases Nat.lt_or_ge j k with h | h
        · exact hz.out j h
        · have : j = k := by omega
          rw [this]; exact e
      clear hc
      cases c with
      | true =>
        go_wp2_with (go_at_call 110; refine HQ'.out.mono ?_; rintro e w1 ⟨rfl, hB1⟩)
        have hB1 : Drawn W0 w1 := by assumption
        go_ret
        exact ⟨⟨_, rfl, .inr ⟨k, rfl, hlt, HC.out.symm⟩⟩, HB.out.trans hB1⟩
      | false =>
        go_wp2_with (go_at_call 110; refine HQ'.out.mono ?_; rintro e w1 ⟨rfl, hB1⟩)
        have hB1 : Drawn W0 w1 := by assumption
        go_roundw
        case rel => exact ⟨k + 1, hlt, by go_num, HZ.out HC.out.symm, HB.out.trans hB1⟩
        case measure => simp [intOf]; omega
    · obtain rfl : k = n := by omega
      go_wp2
      go_ret
      exact ⟨⟨_, rfl, .inl ⟨rfl, hz.out⟩⟩, hbel⟩

theorem contains_odd (n : Nat) (F : Nat → Value) (p : Nat → Bool) (v : Value) (w : World) (B1 B2 : Nat) (h : RdV w v n F) (hs : ∀ k, k < n → ∃ A c l, F k = .slice A l c)
    (hp : ∀ k, k < n → ∀ W, Drawn w W → Calls Tryz.prog 110 #[F k, .pointer (some ⟨B1, 0, none⟩), .pointer (some ⟨B2, 0, none⟩)] W fun e w' => e = .returned (.bool (p k)) ∧ Drawn W w') :
    Calls Tryz.prog 108 #[v, .func (.func 110) #[] #[.pointer (some ⟨B1, 0, none⟩), .pointer (some ⟨B2, 0, none⟩)]] w fun e w' => e = .returned (.bool (tt (∃ k, k < n ∧ p k = true))) ∧ Drawn w w' := by
  have HI := Lib.hid (index_odd n F p v w B1 B2 h hs hp)
  obtain ⟨A, cap, rfl, _⟩ := h
  clear hp hs
  go_enter Tryz.func108, Tryz.ntmps108
  go_wp2_with fail
  refine HI.out.mono ?_
  rintro e w1 ⟨⟨r, rfl, hr⟩, hB⟩
  have HB := Lib.hid hB
  rcases hr with ⟨rfl, hr⟩ | ⟨j, rfl, hj, hr⟩
  · have ht : Hid (tt (∃ k, k < n ∧ p k = true) = false) := tt_neg (fun ⟨k, hk, hpk⟩ => by rw [hr k hk] at hpk; cases hpk)
    clear hr hB
    go_wp2
    go_ret
    exact ⟨by rw [ht.out]; rfl, HB.out⟩
  · have ht : Hid (tt (∃ k, k < n ∧ p k = true) = true) := tt_pos ⟨j, hj, hr⟩
    clear hr hB
    go_wp2
    go_ret
    exact ⟨by rw [ht.out]; rfl, HB.out⟩

/-- 'the word's symbol is not the first one's'. -/
theorem odd_any (n : Nat) (L : Nat → Nat) (G : Nat → Nat → Nat) (wv : Value) (k i B1 B2 : Nat) (w : World) (h : RdW w wv n L G) (hk : k < n) (hi0 : i < L 0) (hik : i < L k) (hG0 : G 0 i < 256) (hGk : G k i < 256) (v : Value) (hv : Rd w .u8 v (L k) (G k))
    (hb1 : w.cell? ⟨B1, 0, none⟩ = some (.int .i64 i)) (hb2 : w.cell? ⟨B2, 0, none⟩ = some wv) :
    Calls Tryz.prog 110 #[v, .pointer (some ⟨B1, 0, none⟩), .pointer (some ⟨B2, 0, none⟩)] w fun e w' => e = .returned (.bool (!tt (G k i = G 0 i))) ∧ Drawn w w' := by
  have hlk := hv.len_le
  obtain ⟨A, cap, rfl, hl, h3⟩ := h.at_
  obtain ⟨b, off, rfl, hc⟩ := h3 (by omega)
  obtain ⟨A0, c0, hc0, hl0, hR0⟩ := hc 0 (by omega)
  rw [Nat.add_zero] at hc0
  obtain ⟨A0', c0', e0, _, _, hR3⟩ := hR0
  obtain ⟨b0, off0, e0', hw0⟩ := hR3 (by omega)
  cases e0
  cases e0'
  have h0i := hw0 i hi0
  obtain ⟨Ak, ck, rfl, _, _, hv3⟩ := hv
  obtain ⟨bk, offk, rfl, hwk⟩ := hv3 (by omega)
  have hki := hwk i hik
  have hn0 : (0 : Int) < (n : Int) := by omega
  have hi1 : (i : Int) < (L 0 : Int) := by omega
  have hi2 : (i : Int) < (L k : Int) := by omega
  obtain ⟨c, hc'⟩ : ∃ c, c = (((G k i : Nat) : Int) != ((G 0 i : Nat) : Int)) := ⟨_, rfl⟩
  have HE : Hid ((!tt (G k i = G 0 i)) = c) := by
    show _ = _
    rw [hc']
    by_cases hq : G k i = G 0 i
    · rw [tt_pos hq, hq]; simp
    · rw [tt_neg hq]; symm; show (_ != _) = true; rw [bne_iff_ne]; omega
  have hcs := hc'.symm
  clear hc' hc h3 h hw0 hR3 hv3 hwk
  go_enter Tryz.func110, Tryz.ntmps110
  go_wp2
  go_quiet (fail)
  go_wp2
  go_ret
  exact ⟨by rw [HE.out]; rfl, (by first | exact ⟨_, rfl⟩ | exact Drawn.drewN ⟨_, rfl⟩ _)⟩

/-- The values that are read are slices. -/
theorem RdW.vals {w : World} {v : Value} {n : Nat} {L : Nat → Nat} {G : Nat → Nat → Nat} (h : RdW w v n L G) : ∃ F, RdV w v n F ∧ (∀ k, k < n → Rd w .u8 (F k) (L k) (G k)) ∧ ∀ k, k < n → ∃ A c l, F k = .slice A l c := by
  obtain ⟨F, h1, h2⟩ := h
  refine ⟨F, h1, h2, fun k hk => ?_⟩
  obtain ⟨A, cap, hv, _⟩ := h2 k hk
  exact ⟨A, cap, L k, hv⟩

end Go.Proofs.YtmbokpfgnicboaaGreat

/- The walk of the program's Feasible. -/
namespace Go.Proofs.YtmbokpfgnicboaaGreat
open Go.RowKit Go.Hd _root_.Hd

set_option maxRecDepth 100000 in
set_option maxHeartbeats 2000000 in
theorem feasible_any (n N : Nat) (L : Nat → Nat) (G : Nat → Nat → Nat) (Y : Nat → Nat) (v y : Value) (w : World) (h : RdW w v n L G) (hy : Rd w .u8 y N Y)
    (hG : ∀ k, k < n → ∀ j, j < L k → G k j < 256) (hY : ∀ j, j < N → Y j < 256) :
    Calls Tryz.prog 54 #[v, y] w fun e w' => e = .returned (.tuple #[.bool (feasX n L G N Y), .int .i64 (feasE n L G N Y)]) ∧ Below w.heap.size w w' := by
  have H := Lib.hid h
  have HYy := Lib.hid hy
  have HG := Lib.hid hG
  have HY := Lib.hid hY
  have hlN := hy.len_le
  obtain ⟨F, hV, hF, hFs⟩ := h.vals
  have HV := Lib.hid hV
  have HF := Lib.hid hF
  have HFs := Lib.hid hFs
  obtain ⟨A, cap, rfl, hl, h3⟩ := h.at_
  have H3 := Lib.hid h3
  obtain ⟨A2, cap2, rfl, _, _, hy3⟩ := hy
  have HY3 := Lib.hid hy3
  clear h h3 hG hY hy3 hV hF hFs
  by_cases hw1 : 1 ≤ n ∧ n ≤ 64 ∧ L 0 ≤ 1024
  · obtain ⟨hn1, hn2, hn3⟩ := hw1
    obtain ⟨b, off, rfl, hc⟩ := H3.out (by omega)
    obtain ⟨A0, c0, hc0, hl0, hR0⟩ := hc 0 (by omega)
    rw [Nat.add_zero] at hc0
    have HR0 := Lib.hid hR0
    have hbl := World.block_lt_of_cell? w _ hc0
    have hbl' : b < w.heap.size := hbl
    -- the look for what is no word
    have HB2 : Hid (Below w.heap.size w ((w.alloc (.cells #[.slice (some ⟨b, off, none⟩) n cap] 71)).alloc (.cells #[.int .i64 (L 0)] 3))) := ((Below.refl _ w).alloc (Nat.le_refl _) _).alloc (by simp) _
    have hcb1 : ((w.alloc (.cells #[.slice (some ⟨b, off, none⟩) n cap] 71)).alloc (.cells #[.int .i64 (L 0)] 3)).cell? ⟨w.heap.size + 1, 0, none⟩ = some (.int .i64 (L 0)) := by
      have := cell_new (w.alloc (.cells #[.slice (some ⟨b, off, none⟩) n cap] 71)) (.int .i64 (L 0)) 3
      rw [World.size_alloc] at this
      exact this.1
    have HNW := Lib.hid (contains_nw n F (fun k => !tt (IsW (L k) (G k) (L 0))) _ _ (w.heap.size + 1) (HV.out.below HB2.out) HFs.out (fun k hk W hW => by
      refine notWord_any (L k) (G k) (F k) (L 0) (w.heap.size + 1) W ((HF.out k hk).below (below_then HB2.out hW)) (HG.out k hk) hl0 (cell_below hW hcb1)))
    have hBoth : Below w.heap.size w ((w.alloc (.cells #[.slice (some ⟨b, off, none⟩) n cap] 71)).alloc (.cells #[.int .i64 (L 0)] 3)) := HB2.out
    clear hbl hc hR0
    by_cases hnw : ∃ k, k < n ∧ (!tt (IsW (L k) (G k) (L 0))) = true
    · have hx : ¬ WordsOk n L G := fun h => by
        obtain ⟨k, hk, e⟩ := hnw
        rw [tt_pos (h.2.2.2 k hk)] at e
        cases e
      have HX : Hid (feasX n L G N Y = false) := tt_neg (fun h => hx h.1)
      have HE : Hid (feasE n L G N Y = 2) := by show _ = _; unfold feasE; rw [tt_neg hx]; rfl
      rw [tt_pos hnw] at HNW
      clear hx hnw hcb1 hBoth
      go_enter Tryz.func54, Tryz.ntmps54
      go_wp2_with fail
      refine HNW.out.mono ?_
      rintro e w1 ⟨rfl, hB⟩
      have HB := Lib.hid (below_then HB2.out hB)
      clear hB
      go_wp2
      go_ret2
      exact ⟨by rw [HX.out, HE.out]; rfl, HB.out⟩
    · have hx : WordsOk n L G := ⟨hn1, hn2, hn3, fun k hk => by
        by_cases e : IsW (L k) (G k) (L 0)
        · exact e
        · exact absurd ⟨k, hk, by rw [tt_neg e]; rfl⟩ hnw⟩
      have hxt := tt_pos hx
      rw [tt_neg hnw] at HNW
      have HLk : Hid (∀ k, k < n → L k = L 0) := fun k hk => (hx.2.2.2 k hk).1
      by_cases hcp : IsC N Y (L 0)
      · have hNL : N = L 0 := hcp.1
        have HX : Hid (feasX n L G N Y = tt (Feas n N G Y)) := tt_congr ⟨fun h => h.2.2, fun h => ⟨hx, hcp, h⟩⟩
        have HE : Hid (feasE n L G N Y = 0) := by show _ = _; unfold feasE; rw [hxt, tt_pos hcp]; rfl
        have HC : Hid (∀ W, Below w.heap.size w W → Calls Tryz.prog 86 #[.slice A2 N cap2, .int .i64 (L 0)] W fun e w' => e = .returned (.bool true) ∧ Below W.heap.size W w') := fun W hW => by
          have := isCopy_any N Y _ (L 0) _ (HYy.out.below hW) HY.out
          rw [tt_pos hcp] at this
          exact this
        have hcb0 : ((w.alloc (.cells #[.slice (some ⟨b, off, none⟩) n cap] 71)).alloc (.cells #[.int .i64 (L 0)] 3)).cell? ⟨w.heap.size, 0, none⟩ = some (.slice (some ⟨b, off, none⟩) n cap) :=
          cell_below ((Below.refl _ _).alloc (Nat.le_refl _) _) (cell_new w _ _).1
        have HNL := Lib.hid hNL
        clear hx hxt hnw hcp hBoth hNL
        go_enter Tryz.func54, Tryz.ntmps54
        go_wp2_with fail
        refine HNW.out.mono ?_
        rintro e w1 ⟨rfl, hB⟩
        have HB := Lib.hid (below_then HB2.out hB)
        have hn1 := cell_below hB hcb1
        have hn0 := cell_below hB hcb0
        clear hB hcb1 hcb0
        go_wp2_with fail
        refine (HC.out _ HB.out).mono ?_
        rintro e w2 ⟨rfl, hB⟩
        have HB' := Lib.hid (below_then HB.out hB)
        have hn2 := cell_below hB hn0
        clear hB hn0 hn1
        go_wp2_with fail
        go_loopw [38] (fun i wr => ∃ k : Nat, k ≤ N ∧ i = .int .i64 k ∧ Hid (∀ i, i < k → (∀ j, j < n → G j i = G 0 i) → Y i = G 0 i) ∧ wr.cell? ⟨w.heap.size, 0, none⟩ = some (.slice (some ⟨b, off, none⟩) n cap) ∧ Below w.heap.size w wr) (fun i _ => N - (intOf i).toNat)
        case atStart => exact ⟨0, Nat.zero_le _, rfl, fun j hj => by omega, hn2, HB'.out⟩
        case round =>
          obtain ⟨i, hi, rfl, hz, hbox, hbel⟩ := hrel
          by_cases hlt : i < N
          · obtain ⟨b2, off2, rfl, hyc⟩ := HY3.out (by omega)
            have hyi := cell_below hbel (hyc i hlt)
            have hiL : i < L 0 := by have := HNL.out; omega
            have hc0' := cell_below hbel hc0
            obtain ⟨A0', c0', e0, _, _, hR3⟩ := HR0.out
            obtain ⟨b0, off0, e0', hw0⟩ := hR3 (by omega)
            cases e0
            cases e0'
            have h0i := cell_below hbel (hw0 i hiL)
            have hb2l : b2 < wr.heap.size := World.block_lt_of_cell? wr _ hyi
            have hb0l : b0 < wr.heap.size := World.block_lt_of_cell? wr _ h0i
            have hbl2 : b < wr.heap.size := World.block_lt_of_cell? wr _ hc0'
            have hwl : w.heap.size < wr.heap.size := World.block_lt_of_cell? wr _ hbox
            have hYi : Y i < 256 := HY.out i hlt
            have hG0 : G 0 i < 256 := HG.out 0 (by omega) i hiL
            have hn0 : (0 : Int) < (n : Int) := by omega
            have hiN : (i : Int) < (L 0 : Int) := by omega
            have HWB : Hid (Below w.heap.size w (wr.alloc (.cells #[.int .i64 i] 3))) := hbel.alloc hbel.size _
            have HO : Hid (∀ m, Calls Tryz.prog 108 #[.slice (some ⟨b, off, none⟩) n cap, .func (.func 110) #[] #[.pointer (some ⟨wr.heap.size, 0, none⟩), .pointer (some ⟨w.heap.size, 0, none⟩)]] ((wr.alloc (.cells #[.int .i64 i] 3)).drewN m) fun e w' =>
                e = .returned (.bool (tt (∃ k, k < n ∧ (!tt (G k i = G 0 i)) = true))) ∧ Drawn ((wr.alloc (.cells #[.int .i64 i] 3)).drewN m) w') := fun m => by
              have hD : Below w.heap.size w ((wr.alloc (.cells #[.int .i64 i] 3)).drewN m) := below_drewN HWB.out m
              refine contains_odd n F (fun k => !tt (G k i = G 0 i)) _ _ _ _ (HV.out.below hD) HFs.out (fun k hk W hW => ?_)
              have hDW : Below w.heap.size w W := below_then hD hW.below
              have hLk : L k = L 0 := HLk.out k hk
              refine odd_any n L G (.slice (some ⟨b, off, none⟩) n cap) k i _ _ W (H.out.below hDW) hk hiL (by omega) hG0 (HG.out k hk i (by omega)) _ ((HF.out k hk).below hDW) ?_ ?_
              · exact cell_below hW.below (cell_new wr _ _).1
              · exact cell_below hW.below (cell_below ((Below.refl _ _).alloc (Nat.le_refl _) _) hbox)
            have HBox := Lib.hid hbox
            clear hyc hw0 hR3 hbel
            by_cases hq : Y i = G 0 i
            · have hb : (((Y i : Nat) : Int) != ((G 0 i : Nat) : Int)) = false := by simp; omega
              have HZ : Hid (∀ t, t < i + 1 → (∀ j, j < n → G j t = G 0 t) → Y t = G 0 t) := fun t ht hall => by
                rcases Nat.lt_or_ge t i with h | h
                · exact hz.out t h hall
                · have e : t = i := by omega
                  rw [e]; exact hq
              clear hq
              go_wp2
              go_quiet (fail)
              go_wp2
              go_roundw
              case rel => exact ⟨i + 1, hlt, by go_num, HZ, cell_below (below_drewN ((Below.refl _ _).alloc (Nat.le_refl _) _) _) HBox.out, below_drewN HWB.out _⟩
              case measure => simp [intOf]; omega
            · have hb : (((Y i : Nat) : Int) != ((G 0 i : Nat) : Int)) = true := by simp; omega
              by_cases hex : ∃ k, k < n ∧ (!tt (G k i = G 0 i)) = true
              · have HZ : Hid (∀ t, t < i + 1 → (∀ j, j < n → G j t = G 0 t) → Y t = G 0 t) := fun t ht hall => by
                  rcases Nat.lt_or_ge t i with h | h
                  · exact hz.out t h hall
                  · have e : t = i := by omega
                    rw [e] at hall
                    obtain ⟨k, hk, e2⟩ := hex
                    rw [tt_pos (hall k hk)] at e2
                    cases e2
                rw [tt_pos hex] at HO
                clear hq hex
                go_wp2
                go_quiet ((go_at_call 108; first | exact quiet_add_d (HO.out _) | exact quiet_one_d (HO.out _)))
                go_wp2
                go_roundw
                case rel => exact ⟨i + 1, hlt, by go_num, HZ, cell_below (below_drewN ((Below.refl _ _).alloc (Nat.le_refl _) _) _) HBox.out, below_drewN HWB.out _⟩
                case measure => simp [intOf]; omega
              · have ht : Hid (tt (Feas n N G Y) = false) := tt_neg (fun h => hq (h i hlt (fun k hk => by
                  by_cases e : G k i = G 0 i
                  · exact e
                  · exact absurd ⟨k, hk, by rw [tt_neg e]; rfl⟩ hex)))
                rw [tt_neg hex] at HO
                clear hq hex
                go_wp2
                go_quiet ((go_at_call 108; first | exact quiet_add_d (HO.out _) | exact quiet_one_d (HO.out _)))
                go_wp2
                go_ret2
                exact ⟨by rw [HX.out, HE.out, ht.out]; rfl, below_drewN HWB.out _⟩
          · obtain rfl : i = N := by omega
            have ht : Hid (tt (Feas n i G Y) = true) := tt_pos hz.out
            have HBel := Lib.hid hbel
            clear hbel
            go_wp2
            go_ret2
            exact ⟨by rw [HX.out, HE.out, ht.out]; rfl, HBel.out⟩
      · have HX : Hid (feasX n L G N Y = false) := tt_neg (fun h => hcp h.2.1)
        have HE : Hid (feasE n L G N Y = 71) := by show _ = _; unfold feasE; rw [hxt, tt_neg hcp]; rfl
        have HC : Hid (∀ W, Below w.heap.size w W → Calls Tryz.prog 86 #[.slice A2 N cap2, .int .i64 (L 0)] W fun e w' => e = .returned (.bool false) ∧ Below W.heap.size W w') := fun W hW => by
          have := isCopy_any N Y _ (L 0) _ (HYy.out.below hW) HY.out
          rw [tt_neg hcp] at this
          exact this
        clear hx hxt hnw hcp hBoth
        go_enter Tryz.func54, Tryz.ntmps54
        go_wp2_with fail
        refine HNW.out.mono ?_
        rintro e w1 ⟨rfl, hB⟩
        have HB := Lib.hid (below_then HB2.out hB)
        have hn1 := cell_below hB hcb1
        clear hB hcb1
        go_wp2_with fail
        refine (HC.out _ HB.out).mono ?_
        rintro e w2 ⟨rfl, hB⟩
        have HB' := Lib.hid (below_then HB.out hB)
        clear hB
        go_wp2
        go_ret2
        exact ⟨by rw [HX.out, HE.out]; rfl, HB'.out⟩
  · have HX : Hid (feasX n L G N Y = false) := tt_neg (fun h => hw1 ⟨h.1.1, h.1.2.1, h.1.2.2.1⟩)
    have HE : Hid (feasE n L G N Y = 2) := by
      show _ = _
      unfold feasE
      rw [tt_neg (fun h : WordsOk n L G => hw1 ⟨h.1, h.2.1, h.2.2.1⟩)]; rfl
    by_cases hn1 : n < 1
    · clear hw1
      go_enter Tryz.func54, Tryz.ntmps54
      go_wp2
      go_ret2
      exact ⟨by rw [HX.out, HE.out]; rfl, (Below.refl _ _).alloc (Nat.le_refl _) _⟩
    · by_cases hn2 : 64 < n
      · clear hw1
        go_enter Tryz.func54, Tryz.ntmps54
        go_wp2
        go_ret2
        exact ⟨by rw [HX.out, HE.out]; rfl, (Below.refl _ _).alloc (Nat.le_refl _) _⟩
      · have hn3 : 1024 < L 0 := by omega
        obtain ⟨b, off, rfl, hc⟩ := H3.out (by omega)
        obtain ⟨A0, c0, hc0, hl0, _⟩ := hc 0 (by omega)
        rw [Nat.add_zero] at hc0
        have hbl := World.block_lt_of_cell? w _ hc0
        have hbl' : b < w.heap.size := hbl
        clear hw1 hc hbl
        go_enter Tryz.func54, Tryz.ntmps54
        go_wp2
        go_ret2
        exact ⟨by rw [HX.out, HE.out]; rfl, (Below.refl _ _).alloc (Nat.le_refl _) _⟩
end Go.Proofs.YtmbokpfgnicboaaGreat
