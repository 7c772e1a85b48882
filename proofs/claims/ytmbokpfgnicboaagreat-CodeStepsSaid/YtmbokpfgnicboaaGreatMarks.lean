import Derived.Test.YtmbokpfgnicboaaGreatPlain
set_option linter.unusedVariables false
set_option linter.unusedSimpArgs false
/- Words and weights of codes of steps, as loops leave them. Plain arithmetic, no program. -/
namespace Hd

/-- The word when k columns have been gone through: those from s on are marked. -/
def mrk (a : Nat → Nat) (s : Nat) : Nat → Nat → Nat
  | 0 => fun _ => 0
  | k + 1 => if s ≤ k then upd (mrk a s k) (a k) 1 else mrk a s k
theorem mrk_none (a : Nat → Nat) (s : Nat) : ∀ k, k ≤ s → mrk a s k = fun _ => 0
  | 0, _ => rfl
  | k + 1, h => by
    show (if s ≤ k then _ else _) = _
    rw [if_neg (by omega), mrk_none a s k (by omega)]
theorem mrk_yes (a : Nat → Nat) {s k : Nat} (h : s ≤ k) : mrk a s (k + 1) = upd (mrk a s k) (a k) 1 := if_pos h
theorem mrk_no (a : Nat → Nat) {s k : Nat} (h : ¬ s ≤ k) : mrk a s (k + 1) = mrk a s k := if_neg h
theorem mrk_le (a : Nat → Nat) (s k p : Nat) : mrk a s k p ≤ 1 := by
  induction k with
  | zero => exact Nat.zero_le _
  | succ k ih =>
    by_cases h : s ≤ k
    · rw [mrk_yes a h]
      unfold upd
      split
      · omega
      · exact ih
    · rw [mrk_no a h]; exact ih

/-- The weights when k columns have been gone through. -/
def wts (a y : Nat → Nat) (d : Nat) : Nat → Nat → Nat
  | 0 => fun _ => 0
  | k + 1 => if y (a k) = 1 then upd (wts a y d k) (k / d) (wts a y d k (k / d) + 1) else wts a y d k
theorem wts_yes {a y : Nat → Nat} {d k : Nat} (h : y (a k) = 1) : wts a y d (k + 1) = upd (wts a y d k) (k / d) (wts a y d k (k / d) + 1) := if_pos h
theorem wts_no {a y : Nat → Nat} {d k : Nat} (h : ¬ y (a k) = 1) : wts a y d (k + 1) = wts a y d k := if_neg h
theorem wts_le {a y : Nat → Nat} {d : Nat} (hd : 0 < d) (k b : Nat) : wts a y d k b ≤ min d (k - b * d) := by
  induction k with
  | zero => show 0 ≤ _; exact Nat.zero_le _
  | succ k ih =>
    by_cases h : y (a k) = 1
    · rw [wts_yes h]
      unfold upd
      split
      · rename_i e
        subst e
        have h1 : k / d * d ≤ k := Nat.div_mul_le_self k d
        have h2 : k < (k / d + 1) * d := (Nat.div_lt_iff_lt_mul hd).1 (Nat.lt_succ_self _)
        rw [Nat.succ_mul] at h2
        generalize k / d * d = q at *
        omega
      · omega
    · rw [wts_no h]; omega
theorem wts_d {a y : Nat → Nat} {d : Nat} (hd : 0 < d) (k b : Nat) : wts a y d k b ≤ d := Nat.le_trans (wts_le hd k b) (Nat.min_le_left _ _)

/-- Whether a user is named. -/
def nmd (U d m n : Nat) (W : Nat → Nat) (u : Nat) : Bool := if u = 0 then decide (0 < W 0) else if u = U - 1 then decide (W (u - 1) < d) else decide ((W (u - 1) : Int) ≤ thr d m n (W (u - 1) + W u))
theorem nmd_first (U d m n : Nat) (W : Nat → Nat) : nmd U d m n W 0 = decide (0 < W 0) := if_pos rfl
theorem nmd_last {U d m n k : Nat} {W : Nat → Nat} (h0 : k ≠ 0) (h : k = U - 1) : nmd U d m n W k = decide (W (k - 1) < d) := by unfold nmd; rw [if_neg h0, if_pos h]
theorem nmd_mid {U d m n k : Nat} {W : Nat → Nat} (h0 : k ≠ 0) (h : k ≠ U - 1) : nmd U d m n W k = decide ((W (k - 1) : Int) ≤ thr d m n (W (k - 1) + W k)) := by unfold nmd; rw [if_neg h0, if_neg h]
/-- The users that are named, of the first k. -/
def nmL (U d m n : Nat) (W : Nat → Nat) (k : Nat) : List Nat := (List.range k).filter (nmd U d m n W)
theorem nmL_yes {U d m n k : Nat} {W : Nat → Nat} (h : nmd U d m n W k = true) : nmL U d m n W (k + 1) = nmL U d m n W k ++ [k] := by
  unfold nmL; rw [List.range_succ, List.filter_append]; simp [h]
theorem nmL_no {U d m n k : Nat} {W : Nat → Nat} (h : nmd U d m n W k = false) : nmL U d m n W (k + 1) = nmL U d m n W k := by
  unfold nmL; rw [List.range_succ, List.filter_append]; simp [h]
theorem nmL_len (U d m n k : Nat) (W : Nat → Nat) : (nmL U d m n W k).length ≤ k := by
  have := List.length_filter_le (nmd U d m n W) (List.range k)
  rw [List.length_range] at this
  exact this
end Hd
