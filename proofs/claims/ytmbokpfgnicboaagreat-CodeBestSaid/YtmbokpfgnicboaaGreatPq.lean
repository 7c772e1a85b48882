import Derived.Test.YtmbokpfgnicboaaGreatPlain
set_option linter.unusedVariables false
set_option linter.unusedSimpArgs false
/- The arrangement of columns: numbers 0 .. n - 1 shuffled from the end. Plain arithmetic, no program. -/
namespace Hd

/-- Two places of a row changed for one another. -/
def swp (f : Nat → Nat) (i j : Nat) (x : Nat) : Nat := if x = i then f j else if x = j then f i else f x
/-- The arrangement when k places from the end have been drawn: r i: the place drawn for i. -/
def arr (r : Nat → Nat) (n : Nat) : Nat → Nat → Nat
  | 0 => fun x => x
  | k + 1 => swp (arr r n k) (n - 1 - k) (r (n - 1 - k))
theorem swp_lt {f : Nat → Nat} {i j n : Nat} (h : ∀ x, x < n → f x < n) (hi : i < n) (hj : j < n) : ∀ x, x < n → swp f i j x < n := fun x hx => by
  unfold swp
  split
  · exact h j hj
  · split
    · exact h i hi
    · exact h x hx
theorem arr_lt {r : Nat → Nat} {n : Nat} (hr : ∀ i, i < n → r i ≤ i) : ∀ k, k < n → ∀ x, x < n → arr r n k x < n
  | 0, _, _, hx => hx
  | k + 1, hk, x, hx => by
    have h := hr (n - 1 - k) (by omega)
    exact swp_lt (arr_lt hr k (by omega)) (by omega) (by omega) x hx
theorem swp_inj {f : Nat → Nat} {i j n : Nat} (h : ∀ x y, x < n → y < n → f x = f y → x = y) (hi : i < n) (hj : j < n) : ∀ x y, x < n → y < n → swp f i j x = swp f i j y → x = y := fun x y hx hy e => by
  have key : ∀ x, swp f i j x = f (if x = i then j else if x = j then i else x) := fun x => by
    unfold swp
    split
    · rfl
    · split <;> rfl
  rw [key, key] at e
  have e2 := h _ _ (by split; exact hj; split; exact hi; exact hx) (by split; exact hj; split; exact hi; exact hy) e
  by_cases h1 : x = i <;> by_cases h2 : y = i <;> by_cases h3 : x = j <;> by_cases h4 : y = j <;> simp_all
theorem arr_inj {r : Nat → Nat} {n : Nat} (hr : ∀ i, i < n → r i ≤ i) : ∀ k, k < n → ∀ x y, x < n → y < n → arr r n k x = arr r n k y → x = y
  | 0, _, _, _, _, _, e => e
  | k + 1, hk, x, y, hx, hy, e => by
    have h := hr (n - 1 - k) (by omega)
    exact swp_inj (arr_inj hr k (by omega)) (by omega) (by omega) x y hx hy e
end Hd

/- Words and weights of codes of steps, as loops leave them. Plain arithmetic, no program. -/
namespace Hd

/-- The word when k columns have been gone through: those from s on are marked. -/
def mrk (a : Nat → Nat) (s : Nat) : Nat → Nat → Nat
  | 0 => fun _ => 0
  | k + 1 => if s ≤ k then upd (mrk a s k) (a k) 1 else mrk a s k
theorem mrk_none (a : Nat → Nat) (s : Nat) : ∀ k, k ≤ s → mrk a s k = fun _ => 0
  | 0, _ => rfl
  | k + 1, h => by
    show (if s ≤ k then _ else _) = _
    rw [if_neg (by omega), mrk_none a s k (by omega)]
theorem mrk_yes (a : Nat → Nat) {s k : Nat} (h : s ≤ k) : mrk a s (k + 1) = upd (mrk a s k) (a k) 1 := if_pos h
theorem mrk_no (a : Nat → Nat) {s k : Nat} (h : ¬ s ≤ k) : mrk a s (k + 1) = mrk a s k := if_neg h
theorem mrk_le (a : Nat → Nat) (s k p : Nat) : mrk a s k p ≤ 1 := by
  induction k with
  | zero => exact Nat.zero_le _
  | succ k ih =>
    by_cases h : s ≤ k
    · rw [mrk_yes a h]
      unfold upd
      split
      · omega
      · exact ih
    · rw [mrk_no a h]; exact ih

/-- The weights when k columns have been gone through. -/
def wts (a y : Nat → Nat) (d : Nat) : Nat → Nat → Nat
  | 0 => fun _ => 0
  | k + 1 => if y (a k) = 1 then upd (wts a y d k) (k / d) (wts a y d k (k / d) + 1) else wts a y d k
theorem wts_yes {a y : Nat → Nat} {d k : Nat} (h : y (a k) = 1) : wts a y d (k + 1) = upd (wts a y d k) (k / d) (wts a y d k (k / d) + 1) := if_pos h
theorem wts_no {a y : Nat → Nat} {d k : Nat} (h : ¬ y (a k) = 1) : wts a y d (k + 1) = wts a y d k := if_neg h
theorem wts_le {a y : Nat → Nat} {d : Nat} (hd : 0 < d) (k b : Nat) : wts a y d k b ≤ min d (k - b * d) := by
  induction k with
  | zero => show 0 ≤ _; exact Nat.zero_le _
  | succ k ih =>
    by_cases h : y (a k) = 1
    · rw [wts_yes h]
      unfold upd
      split
      · rename_i e
        subst e
        have h1 : k / d * d ≤ k := Nat.div_mul_le_self k d
        have h2 : k < (k / d + 1) * d := (Nat.div_lt_iff_lt_mul hd).1 (Nat.lt_succ_self _)
        rw [Nat.succ_mul] at h2
        generalize k / d * d = q at *
        omega
      · omega
    · rw [wts_no h]; omega
theorem wts_d {a y : Nat → Nat} {d : Nat} (hd : 0 < d) (k b : Nat) : wts a y d k b ≤ d := Nat.le_trans (wts_le hd k b) (Nat.min_le_left _ _)

/-- Whether a user is named. -/
def nmd (U d m n : Nat) (W : Nat → Nat) (u : Nat) : Bool := if u = 0 then decide (0 < W 0) else if u = U - 1 then decide (W (u - 1) < d) else decide ((W (u - 1) : Int) ≤ thr d m n (W (u - 1) + W u))
theorem nmd_first (U d m n : Nat) (W : Nat → Nat) : nmd U d m n W 0 = decide (0 < W 0) := if_pos rfl
theorem nmd_last {U d m n k : Nat} {W : Nat → Nat} (h0 : k ≠ 0) (h : k = U - 1) : nmd U d m n W k = decide (W (k - 1) < d) := by unfold nmd; rw [if_neg h0, if_pos h]
theorem nmd_mid {U d m n k : Nat} {W : Nat → Nat} (h0 : k ≠ 0) (h : k ≠ U - 1) : nmd U d m n W k = decide ((W (k - 1) : Int) ≤ thr d m n (W (k - 1) + W k)) := by unfold nmd; rw [if_neg h0, if_neg h]
/-- The users that are named, of the first k. -/
def nmL (U d m n : Nat) (W : Nat → Nat) (k : Nat) : List Nat := (List.range k).filter (nmd U d m n W)
theorem nmL_yes {U d m n k : Nat} {W : Nat → Nat} (h : nmd U d m n W k = true) : nmL U d m n W (k + 1) = nmL U d m n W k ++ [k] := by
  unfold nmL; rw [List.range_succ, List.filter_append]; simp [h]
theorem nmL_no {U d m n k : Nat} {W : Nat → Nat} (h : nmd U d m n W k = false) : nmL U d m n W (k + 1) = nmL U d m n W k := by
  unfold nmL; rw [List.range_succ, List.filter_append]; simp [h]
theorem nmL_len (U d m n k : Nat) (W : Nat → Nat) : (nmL U d m n W k).length ≤ k := by
  have := List.length_filter_le (nmd U d m n W) (List.range k)
  rw [List.length_range] at this
  exact this
end Hd

/- The scores of a random word: how often each one comes. Plain arithmetic, no program. -/
namespace Hd

/-- For each score after k places: the sum over all words of the products of c0 for each 0 and c1 for each 1; p0, p1: what a 0 and a 1 add. -/
def spr (p0 p1 : Nat → Int) (c0 c1 : Nat → Nat) : Nat → Int → Nat
  | 0, s => if s = 0 then 1 else 0
  | k + 1, s => spr p0 p1 c0 c1 k (s - p0 k) * c0 k + spr p0 p1 c0 c1 k (s - p1 k) * c1 k
theorem spr_zero (p0 p1 : Nat → Int) (c0 c1 : Nat → Nat) (s : Int) : spr p0 p1 c0 c1 0 s = if s = 0 then 1 else 0 := rfl
theorem spr_succ (p0 p1 : Nat → Int) (c0 c1 : Nat → Nat) (k : Nat) (s : Int) : spr p0 p1 c0 c1 (k + 1) s = spr p0 p1 c0 c1 k (s - p0 k) * c0 k + spr p0 p1 c0 c1 k (s - p1 k) * c1 k := rfl
/-- Beyond h for each place there is nothing. -/
theorem spr_out {p0 p1 : Nat → Int} {c0 c1 : Nat → Nat} {h : Nat} {n : Nat} (hp : ∀ i, i < n → -(h : Int) ≤ p0 i ∧ p0 i ≤ h ∧ -(h : Int) ≤ p1 i ∧ p1 i ≤ h) : ∀ k, k ≤ n → ∀ s : Int, s < -((h * k : Nat) : Int) ∨ ((h * k : Nat) : Int) < s → spr p0 p1 c0 c1 k s = 0
  | 0, _, s, hs => by rw [spr_zero, if_neg (by omega)]
  | k + 1, hk, s, hs => by
    obtain ⟨a1, a2, a3, a4⟩ := hp k (by omega)
    have e : h * (k + 1) = h * k + h := Nat.mul_succ h k
    rw [e] at hs
    rw [spr_succ, spr_out hp k (by omega) (s - p0 k) (by omega), spr_out hp k (by omega) (s - p1 k) (by omega)]
    omega

/-- The sum of f from -R to R. -/
def wsum (f : Int → Nat) (R : Nat) : Nat := sum (fun j => f ((j : Int) - R)) (2 * R + 1)
theorem wsum_congr {f g : Int → Nat} {R : Nat} (h : ∀ s : Int, -(R : Int) ≤ s → s ≤ R → f s = g s) : wsum f R = wsum g R := sum_congr fun j hj => h _ (by omega) (by omega)
theorem wsum_zero {f : Int → Nat} {R : Nat} (h : ∀ s : Int, -(R : Int) ≤ s → s ≤ R → f s = 0) : wsum f R = 0 := sum_zero fun j hj => h _ (by omega) (by omega)
theorem wsum_add (f g : Int → Nat) (R : Nat) : wsum (fun s => f s + g s) R = wsum f R + wsum g R := sum_add _ _ _
theorem wsum_mul (f : Int → Nat) (c R : Nat) : wsum (fun s => f s * c) R = wsum f R * c := by
  unfold wsum
  rw [Nat.mul_comm (sum _ _) c, ← sum_mul]
  exact sum_congr fun j _ => Nat.mul_comm _ _
theorem wsum_le {f g : Int → Nat} {R : Nat} (h : ∀ s : Int, -(R : Int) ≤ s → s ≤ R → f s ≤ g s) : wsum f R ≤ wsum g R := sum_le fun j hj => h _ (by omega) (by omega)
/-- One value turned. -/
theorem sum_turn {f g : Nat → Nat} {n i : Nat} {c : Nat} (hi : i < n) (h : ∀ j, j < n → j ≠ i → f j = g j) (e : f i = g i + c) : sum f n = sum g n + c := by
  induction n with
  | zero => omega
  | succ n ih =>
    rw [sum_succ, sum_succ]
    by_cases e2 : i = n
    · subst e2
      rw [sum_congr (f := f) (g := g) (fun j hj => h j (by omega) (by omega)), e]
      omega
    · rw [ih (by omega) (fun j hj hne => h j (by omega) hne), h n (by omega) (fun e3 => e2 e3.symm)]
      omega
theorem wsum_turn {f g : Int → Nat} {R : Nat} {x : Int} {c : Nat} (h1 : -(R : Int) ≤ x) (h2 : x ≤ R) (h : ∀ s : Int, s ≠ x → f s = g s) (e : f x = g x + c) : wsum f R = wsum g R + c := by
  refine sum_turn (i := (x + R).toNat) (by omega) (fun j _ hne => h _ (by omega)) ?_
  show f _ = g _ + c
  rw [show (((x + R).toNat : Nat) : Int) - R = x by omega]
  exact e
/-- A sum that is moved, if what is moved out is nothing. -/
theorem sum_moved (f : Int → Nat) (a b : Int) (n : Nat) (h1 : ∀ s : Int, s < a ∨ a + n ≤ s → f s = 0) (h2 : ∀ s : Int, s < b ∨ b + n ≤ s → f s = 0) : sum (fun j => f ((j : Int) + a)) n = sum (fun j => f ((j : Int) + b)) n := by
  have key : ∀ (a b : Int) (d : Nat), b = a + d → (∀ s : Int, s < a ∨ a + n ≤ s → f s = 0) → (∀ s : Int, s < b ∨ b + n ≤ s → f s = 0) → sum (fun j => f ((j : Int) + a)) n = sum (fun j => f ((j : Int) + b)) n := by
    intro a b d hb h1 h2
    subst hb
    have e1 : sum (fun j => f ((j : Int) + a)) (d + n) = sum (fun j => f ((j : Int) + (a + d))) n := by
      rw [sum_split, sum_zero (n := d) (fun i hi => h2 _ (by omega)), Nat.zero_add]
      exact sum_congr fun i _ => by
        show f (((d + i : Nat) : Int) + a) = _
        congr 1; omega
    have e2 : sum (fun j => f ((j : Int) + a)) (n + d) = sum (fun j => f ((j : Int) + a)) n := by
      rw [sum_split, sum_zero (n := d) (fun i hi => by
        show f (((n + i : Nat) : Int) + a) = 0
        exact h1 _ (by omega)), Nat.add_zero]
    rw [← e1, ← e2, Nat.add_comm]
  rcases Int.le_total a b with h | h
  · exact key a b (b - a).toNat (by omega) h1 h2
  · exact (key b a (a - b).toNat (by omega) h2 h1).symm
theorem wsum_moved (f : Int → Nat) (p : Int) (R h : Nat) (hh : h ≤ R) (hp : -(h : Int) ≤ p ∧ p ≤ h) (hf : ∀ s : Int, s < -((R - h : Nat) : Int) ∨ ((R - h : Nat) : Int) < s → f s = 0) : wsum (fun s => f (s - p)) R = wsum f R := by
  have e := sum_moved f (-(R : Int) - p) (-(R : Int)) (2 * R + 1) (fun s hs => hf s (by omega)) (fun s hs => hf s (by omega))
  unfold wsum
  rw [sum_congr (g := fun j => f ((j : Int) + (-(R : Int) - p))) (fun i _ => by show f _ = f _; congr 1; omega), e]
  exact sum_congr (fun i _ => by show f _ = f _; congr 1)

/-- All of them: the product of the sums. -/
theorem spr_all {p0 p1 : Nat → Int} {c0 c1 : Nat → Nat} {h n R b : Nat} (hp : ∀ i, i < n → -(h : Int) ≤ p0 i ∧ p0 i ≤ h ∧ -(h : Int) ≤ p1 i ∧ p1 i ≤ h) (hc : ∀ i, i < n → c0 i + c1 i = b) (hR : h * n ≤ R) : ∀ k, k ≤ n → wsum (spr p0 p1 c0 c1 k) R = b ^ k
  | 0, _ => by
    have e := wsum_turn (f := spr p0 p1 c0 c1 0) (g := fun _ => 0) (R := R) (x := 0) (c := 1) (by omega) (by omega) (fun s hs => if_neg hs) rfl
    rw [e, wsum_zero (fun _ _ _ => rfl)]; rfl
  | k + 1, hk => by
    have ih := spr_all hp hc hR k (by omega)
    obtain ⟨a1, a2, a3, a4⟩ := hp k (by omega)
    have hk1 : h * (k + 1) ≤ h * n := Nat.mul_le_mul_left h hk
    have e : h * (k + 1) = h * k + h := Nat.mul_succ h k
    have ho := spr_out (c0 := c0) (c1 := c1) hp k (by omega)
    have m0 := wsum_moved (spr p0 p1 c0 c1 k) (p0 k) R h (by omega) ⟨a1, a2⟩ (fun s hs => ho s (by omega))
    have m1 := wsum_moved (spr p0 p1 c0 c1 k) (p1 k) R h (by omega) ⟨a3, a4⟩ (fun s hs => ho s (by omega))
    show wsum (fun s => spr p0 p1 c0 c1 k (s - p0 k) * c0 k + spr p0 p1 c0 c1 k (s - p1 k) * c1 k) R = _
    rw [wsum_add, wsum_mul (fun s => spr p0 p1 c0 c1 k (s - p0 k)), wsum_mul (fun s => spr p0 p1 c0 c1 k (s - p1 k)), m0, m1, ih, ← Nat.mul_add, hc k (by omega), Nat.pow_succ]

/-- The scores from z on. -/
def tl (f : Int → Nat) (R : Nat) (z : Int) : Nat := wsum (fun s => if z ≤ s then f s else 0) R
theorem tl_anti (f : Int → Nat) (R : Nat) {z z' : Int} (h : z ≤ z') : tl f R z' ≤ tl f R z := wsum_le fun s _ _ => by
  by_cases h1 : z' ≤ s
  · rw [if_pos h1, if_pos (by omega)]; exact Nat.le_refl _
  · rw [if_neg h1]; exact Nat.zero_le _
theorem tl_all {f : Int → Nat} {R : Nat} {z : Int} (h : ∀ s, s < z → f s = 0) : tl f R z = wsum f R := wsum_congr fun s _ _ => by
  by_cases h1 : z ≤ s
  · rw [if_pos h1]
  · rw [if_neg h1, h s (by omega)]
theorem tl_none {f : Int → Nat} {R : Nat} {z : Int} (h : ∀ s, z ≤ s → f s = 0) : tl f R z = 0 := wsum_zero fun s _ _ => by
  by_cases h1 : z ≤ s
  · rw [if_pos h1, h s h1]
  · rw [if_neg h1]
theorem tl_step {f : Int → Nat} {R : Nat} {z : Int} (h1 : -(R : Int) ≤ z) (h2 : z ≤ R) : tl f R z = tl f R (z + 1) + f z := wsum_turn h1 h2 (fun s hs => by
    by_cases h : z ≤ s
    · rw [if_pos h, if_pos (by omega)]
    · rw [if_neg h, if_neg (by omega)]) (by rw [if_pos (Int.le_refl _), if_neg (by omega), Nat.zero_add])

/-- What a range over the map has brought so far: left tells the keys still to come. -/
def gone (f : Int → Nat) (left : Int → Bool) (s : Int) : Nat := if left s = true then 0 else f s
theorem gone_here {f : Int → Nat} {left : Int → Bool} {x : Int} (h : left x = true) : gone f left x = 0 := if_pos h
theorem gone_lose {f : Int → Nat} {left : Int → Bool} {x : Int} (s : Int) : gone f (fun z => left z && decide (z ≠ x)) s = if s = x then f x else gone f left s := by
  unfold gone
  by_cases e : s = x
  · subst e
    rw [if_pos rfl, if_neg (by simp)]
  · rw [if_neg e]
    simp [e]
/-- The next row as far as the keys that have come tell. -/
def nxt (f : Int → Nat) (p0 p1 : Int) (c0 c1 : Nat) (left : Int → Bool) (s : Int) : Nat := gone f left (s - p0) * c0 + gone f left (s - p1) * c1
theorem nxt_start {f : Int → Nat} {p0 p1 : Int} {c0 c1 : Nat} {left : Int → Bool} (h : ∀ x, f x ≠ 0 → left x = true) (s : Int) : nxt f p0 p1 c0 c1 left s = 0 := by
  have e : ∀ x, gone f left x = 0 := fun x => by
    unfold gone
    by_cases h1 : f x = 0
    · rw [h1]; split <;> rfl
    · rw [if_pos (h x h1)]
  unfold nxt
  rw [e, e]; omega
theorem nxt_end {f : Int → Nat} {p0 p1 : Int} {c0 c1 : Nat} {left : Int → Bool} (h : ∀ x, f x ≠ 0 → left x = false) (s : Int) : nxt f p0 p1 c0 c1 left s = f (s - p0) * c0 + f (s - p1) * c1 := by
  have e : ∀ x, gone f left x = f x := fun x => by
    unfold gone
    by_cases h1 : f x = 0
    · rw [h1]; split <;> rfl
    · rw [if_neg (by rw [h x h1]; simp)]
  unfold nxt
  rw [e, e]
theorem nxt_lose {f : Int → Nat} {p0 p1 : Int} {c0 c1 : Nat} {left : Int → Bool} {x : Int} (hl : left x = true) (s : Int) :
    nxt f p0 p1 c0 c1 (fun z => left z && decide (z ≠ x)) s = nxt f p0 p1 c0 c1 left s + (if s = x + p0 then f x * c0 else 0) + (if s = x + p1 then f x * c1 else 0) := by
  unfold nxt
  rw [gone_lose, gone_lose]
  by_cases h0 : s - p0 = x
  · rw [if_pos h0, if_pos (show s = x + p0 by omega), h0, gone_here hl]
    by_cases h1 : s - p1 = x
    · rw [if_pos h1, if_pos (show s = x + p1 by omega), h1, gone_here hl]
      omega
    · rw [if_neg h1, if_neg (show ¬ s = x + p1 by omega)]
      omega
  · rw [if_neg h0, if_neg (show ¬ s = x + p0 by omega)]
    by_cases h1 : s - p1 = x
    · rw [if_pos h1, if_pos (show s = x + p1 by omega), h1, gone_here hl]
      omega
    · rw [if_neg h1, if_neg (show ¬ s = x + p1 by omega)]
      omega
/-- The sum as far as the keys that have come tell. -/
theorem tl_lose {f : Int → Nat} {left : Int → Bool} {x z : Int} {R : Nat} (hl : left x = true) (h1 : -(R : Int) ≤ x) (h2 : x ≤ R) :
    tl (gone f (fun y => left y && decide (y ≠ x))) R z = tl (gone f left) R z + (if z ≤ x then f x else 0) := by
  refine wsum_turn h1 h2 (fun s hs => ?_) ?_
  · rw [gone_lose, if_neg hs]
  · rw [gone_lose, if_pos rfl, gone_here hl]
    split <;> omega
theorem tl_congr {f g : Int → Nat} {R : Nat} {z : Int} (h : ∀ s, f s = g s) : tl f R z = tl g R z := by
  rw [show f = g from funext h]
theorem gone_end {f : Int → Nat} {left : Int → Bool} (h : ∀ x, f x ≠ 0 → left x = false) (s : Int) : gone f left s = f s := by
  unfold gone
  by_cases h1 : f s = 0
  · rw [h1]; split <;> rfl
  · rw [if_neg (by rw [h s h1]; simp)]
theorem gone_start {f : Int → Nat} {left : Int → Bool} (h : ∀ x, f x ≠ 0 → left x = true) (s : Int) : gone f left s = 0 := by
  unfold gone
  by_cases h1 : f s = 0
  · rw [h1]; split <;> rfl
  · rw [if_pos (h s h1)]

/-- How many keys from -R to R are left. -/
def cntW (left : Int → Bool) (R : Nat) : Nat := wsum (fun s => if left s = true then 1 else 0) R
theorem sum_ones (n : Nat) : sum (fun _ => 1) n = n := by
  induction n with
  | zero => rfl
  | succ n ih => rw [sum_succ, ih]
theorem cntW_le (left : Int → Bool) (R : Nat) : cntW left R ≤ 2 * R + 1 := by
  have h := sum_le (f := fun j : Nat => if left ((j : Int) - R) = true then 1 else 0) (g := fun _ => 1) (n := 2 * R + 1) (fun i _ => by split <;> omega)
  rw [sum_ones] at h
  exact h
theorem cntW_lose {left : Int → Bool} {x : Int} {R : Nat} (hl : left x = true) (h1 : -(R : Int) ≤ x) (h2 : x ≤ R) : cntW (fun z => left z && decide (z ≠ x)) R + 1 = cntW left R :=
  (wsum_turn h1 h2 (fun s hs => by simp [hs]) (by simp [hl])).symm
theorem spr_le {p0 p1 : Nat → Int} {c0 c1 : Nat → Nat} {n b : Nat} (hc : ∀ i, i < n → c0 i + c1 i = b) (hb : 1 ≤ b) : ∀ k, k ≤ n → ∀ s, spr p0 p1 c0 c1 k s ≤ b ^ k
  | 0, _, s => by rw [spr_zero]; split <;> simp
  | k + 1, hk, s => by
    have e : b ^ k * b = b ^ k * c0 k + b ^ k * c1 k := by rw [← Nat.mul_add, hc k (by omega)]
    rw [spr_succ, Nat.pow_succ, e]
    exact Nat.add_le_add (Nat.mul_le_mul_right _ (spr_le hc hb k (by omega) _)) (Nat.mul_le_mul_right _ (spr_le hc hb k (by omega) _))
theorem gone_le (f : Int → Nat) (left : Int → Bool) (s : Int) : gone f left s ≤ f s := by unfold gone; split <;> omega
theorem nxt_le (f : Int → Nat) (p0 p1 : Int) (c0 c1 : Nat) (left : Int → Bool) (s : Int) : nxt f p0 p1 c0 c1 left s ≤ f (s - p0) * c0 + f (s - p1) * c1 :=
  Nat.add_le_add (Nat.mul_le_mul_right _ (gone_le _ _ _)) (Nat.mul_le_mul_right _ (gone_le _ _ _))
end Hd

/- Divisions counted one by one: numbers whose bits are a division. Plain arithmetic, no program. -/
namespace Hd

/-- A bit of a number. -/
def bit (x i : Nat) : Nat := x / 2 ^ i % 2
theorem bit_le (x i : Nat) : bit x i ≤ 1 := by unfold bit; omega
/-- How many of the first n bits are 1. -/
def pc (x n : Nat) : Nat := sum (bit x) n
theorem pc_succ (x n : Nat) : pc x (n + 1) = pc x n + bit x n := rfl
theorem pc_le (x n : Nat) : pc x n ≤ n := by
  induction n with
  | zero => exact Nat.le_refl _
  | succ n ih => rw [pc_succ]; have := bit_le x n; omega
theorem bit_high {x n i : Nat} (h : x < 2 ^ n) (hi : n ≤ i) : bit x i = 0 := by
  unfold bit
  rw [Nat.div_eq_of_lt (Nat.lt_of_lt_of_le h (Nat.pow_le_pow_right (by omega) hi))]
theorem pc_high {x n : Nat} (h : x < 2 ^ n) (m : Nat) : pc x (n + m) = pc x n := by
  unfold pc
  rw [sum_split, sum_zero (n := m) (fun i _ => bit_high h (by omega)), Nat.add_zero]
theorem bit_low {x n i : Nat} (hi : i < n) (hx : x < 2 ^ n) : bit (x + 2 ^ n) i = bit x i := by
  unfold bit
  have e : 2 ^ n = 2 ^ i * (2 * 2 ^ (n - i - 1)) := by
    rw [← Nat.mul_assoc, ← Nat.pow_succ, ← Nat.pow_add]
    congr 1; omega
  rw [e, Nat.add_mul_div_left _ _ (Nat.pow_pos (by omega)), Nat.add_mul_mod_self_left]
theorem bit_top {x n : Nat} (hx : x < 2 ^ n) : bit (x + 2 ^ n) n = 1 := by
  unfold bit
  have h0 : 0 < 2 ^ n := Nat.pow_pos (by omega)
  rw [Nat.add_div_right _ h0, Nat.div_eq_of_lt hx]
theorem pc_top {x n : Nat} (hx : x < 2 ^ n) : pc (x + 2 ^ n) (n + 1) = pc x n + 1 := by
  rw [pc_succ, bit_top hx]
  congr 1
  exact sum_congr fun i hi => bit_low hi hx
theorem pc_not {x n : Nat} (hx : x < 2 ^ n) : pc x (n + 1) = pc x n := by rw [pc_succ, bit_high hx (Nat.le_refl _), Nat.add_zero]
/-- How many of the first n bits are 1 in both. -/
def pb (x M n : Nat) : Nat := sum (fun i => bit x i * bit M i) n
theorem pb_top {x M n : Nat} (hx : x < 2 ^ n) : pb (x + 2 ^ n) M (n + 1) = pb x M n + bit M n := by
  show sum (fun i => bit (x + 2 ^ n) i * bit M i) n + bit (x + 2 ^ n) n * bit M n = _
  rw [bit_top hx, Nat.one_mul]
  congr 1
  exact sum_congr fun i hi => by show bit (x + 2 ^ n) i * _ = _; rw [bit_low hi hx]
theorem pb_not {x M n : Nat} (hx : x < 2 ^ n) : pb x M (n + 1) = pb x M n := by
  show pb x M n + bit x n * bit M n = _
  rw [bit_high hx (Nat.le_refl _), Nat.zero_mul, Nat.add_zero]
theorem pc_le_pb (x M n : Nat) : pb x M n ≤ pc M n := sum_le fun i _ => by
  have := bit_le x i
  have : bit x i * bit M i ≤ 1 * bit M i := Nat.mul_le_mul_right _ this
  omega

/-- How many numbers below N meet p. -/
def many (p : Nat → Bool) (N : Nat) : Nat := sum (fun x => if p x then 1 else 0) N
theorem many_congr {p q : Nat → Bool} {N : Nat} (h : ∀ x, x < N → p x = q x) : many p N = many q N := sum_congr fun x hx => by rw [h x hx]
theorem many_split (p : Nat → Bool) (a b : Nat) : many p (a + b) = many p a + many (fun x => p (x + a)) b := by
  unfold many
  rw [sum_split]
  congr 1
  exact sum_congr fun i _ => by rw [Nat.add_comm]
theorem many_none {p : Nat → Bool} {N : Nat} (h : ∀ x, x < N → p x = false) : many p N = 0 := sum_zero fun x hx => by rw [h x hx]; rfl
/-- Numbers of n bits, d of them 1, j of these among the marked ones. -/
theorem many_exact (M : Nat) : ∀ n d j, many (fun x => decide (pc x n = d) && decide (pb x M n = j)) (2 ^ n) = term (pc M n) (n - pc M n) d j
  | 0, d, j => by
    show sum _ 1 = _
    show 0 + (if (decide (0 = d) && decide (0 = j)) = true then 1 else 0) = term 0 0 d j
    unfold term
    cases d with
    | zero =>
      cases j with
      | zero => rfl
      | succ j => simp
    | succ d =>
      cases j with
      | zero => simp [chs]
      | succ j => simp [chs]
  | n + 1, d, j => by
    have h0 : 0 < 2 ^ n := Nat.pow_pos (by omega)
    rw [Nat.pow_succ, Nat.mul_two, many_split]
    have e1 : many (fun x => decide (pc x (n + 1) = d) && decide (pb x M (n + 1) = j)) (2 ^ n) = many (fun x => decide (pc x n = d) && decide (pb x M n = j)) (2 ^ n) := many_congr fun x hx => by rw [pc_not hx, pb_not hx]
    have e2 : many (fun x => decide (pc (x + 2 ^ n) (n + 1) = d) && decide (pb (x + 2 ^ n) M (n + 1) = j)) (2 ^ n) = many (fun x => decide (pc x n + 1 = d) && decide (pb x M n + bit M n = j)) (2 ^ n) := many_congr fun x hx => by rw [pc_top hx, pb_top hx]
    rw [e1, e2, many_exact M n d j]
    have hl := pc_le M n
    rw [pc_succ]
    cases d with
    | zero =>
      rw [many_none (fun x _ => by simp)]
      unfold term
      cases j with
      | zero => simp [choose_zero]
      | succ j => simp
    | succ d =>
      have hb := bit_le M n
      rcases Nat.lt_or_ge (bit M n) 1 with h | h
      · have hz : bit M n = 0 := by omega
        rw [hz]
        have e3 : many (fun x => decide (pc x n + 1 = d + 1) && decide (pb x M n + 0 = j)) (2 ^ n) = many (fun x => decide (pc x n = d) && decide (pb x M n = j)) (2 ^ n) := many_congr fun x hx => by simp
        rw [e3, many_exact M n d j]
        unfold term
        rw [show n + 1 - (pc M n + 0) = (n - pc M n) + 1 by omega]
        rcases Nat.lt_or_ge d j with h1 | h1
        · rw [if_neg (show ¬ j ≤ d by omega)]
          rcases Nat.lt_or_ge (d + 1) j with h2 | h2
          · rw [if_neg (show ¬ j ≤ d + 1 by omega), if_neg (show ¬ j ≤ d + 1 by omega)]
          · obtain rfl : j = d + 1 := by omega
            rw [if_pos (Nat.le_refl _), if_pos (Nat.le_refl _)]
            simp [choose_zero]
        · rw [if_pos h1, if_pos (show j ≤ d + 1 by omega), if_pos (show j ≤ d + 1 by omega), show d + 1 - j = (d - j) + 1 by omega, choose_succ, Nat.mul_add, Nat.add_comm]
          rfl
      · have hz : bit M n = 1 := by omega
        rw [hz]
        cases j with
        | zero =>
          have e3 : many (fun x => decide (pc x n + 1 = d + 1) && decide (pb x M n + 1 = 0)) (2 ^ n) = 0 := many_none fun x hx => by simp
          rw [e3]
          unfold term
          rw [show n + 1 - (pc M n + 1) = n - pc M n by omega]
          simp [choose_zero]
        | succ j =>
          have e3 : many (fun x => decide (pc x n + 1 = d + 1) && decide (pb x M n + 1 = j + 1)) (2 ^ n) = many (fun x => decide (pc x n = d) && decide (pb x M n = j)) (2 ^ n) := many_congr fun x hx => by simp
          rw [e3, many_exact M n d j]
          unfold term
          rw [show n + 1 - (pc M n + 1) = n - pc M n by omega]
          rcases Nat.lt_or_ge d j with h1 | h1
          · rw [if_neg (show ¬ j ≤ d by omega), if_neg (show ¬ j + 1 ≤ d + 1 by omega), if_neg (show ¬ j + 1 ≤ d + 1 by omega)]
          · rw [if_pos h1, if_pos (show j + 1 ≤ d + 1 by omega), if_pos (show j + 1 ≤ d + 1 by omega), choose_succ, Nat.add_mul, show d + 1 - (j + 1) = d - j by omega, Nat.add_comm]
/-- .. at most x (x numbers from 0 on) of them marked. -/
theorem many_upto (M n d : Nat) : ∀ x, many (fun f => decide (pc f n = d) && decide (pb f M n < x)) (2 ^ n) = sum (term (pc M n) (n - pc M n) d) x
  | 0 => many_none fun f _ => by simp
  | x + 1 => by
    rw [sum_succ, ← many_upto M n d x, ← many_exact M n d x]
    unfold many
    rw [← sum_add]
    refine sum_congr fun f _ => ?_
    by_cases h1 : pc f n = d <;> by_cases h2 : pb f M n < x <;> by_cases h3 : pb f M n = x <;> simp [h1, h2, h3] <;> omega
theorem many_all (n d : Nat) : many (fun f => decide (pc f n = d)) (2 ^ n) = chs n d := by
  have h := many_upto 0 n d (n + 1)
  have hz : ∀ m, pc 0 m = 0 := fun m => sum_zero fun i _ => by unfold bit; rw [Nat.zero_div]
  rw [hz] at h
  have e : many (fun f => decide (pc f n = d) && decide (pb f 0 n < n + 1)) (2 ^ n) = many (fun f => decide (pc f n = d)) (2 ^ n) := many_congr fun f _ => by
    have := pc_le_pb f 0 n
    rw [hz] at this
    simp
    omega
  rw [e] at h
  rw [h, sum_head, sum_zero (fun i _ => by unfold term; split <;> simp [choose_none])]
  unfold term
  rw [if_pos (Nat.zero_le _)]
  simp [choose_zero]
/-- The bits of a conjunction. -/
theorem bit_and (x y i : Nat) : bit (x &&& y) i = bit x i * bit y i := by
  have h : ∀ z : Nat, bit z i = if z.testBit i then 1 else 0 := fun z => by
    unfold bit
    rw [← Nat.shiftRight_eq_div_pow]
    have : (z >>> i) % 2 = if z.testBit i then 1 else 0 := by
      simp only [Nat.testBit, Nat.one_and_eq_mod_two, bne_iff_ne, ne_eq]
      have := Nat.mod_two_eq_zero_or_one (z >>> i)
      rcases this with h | h <;> simp [h]
    exact this
  rw [h, h, h, Nat.testBit_and]
  cases x.testBit i <;> cases y.testBit i <;> rfl
theorem pc_and (x M n : Nat) : pc (x &&& M) n = pb x M n := sum_congr fun i _ => bit_and x M i
end Hd

/- The chances of all words, one by one; the bound. Plain arithmetic, no program. -/
namespace Hd

/-- The product of the chances of a word's first k symbols; the word: the bits of m. -/
def chN (c0 c1 : Nat → Nat) (m : Nat) : Nat → Nat
  | 0 => 1
  | k + 1 => chN c0 c1 m k * (if bit m k = 1 then c1 k else c0 k)
/-- Its score. -/
def scB (p0 p1 : Nat → Int) (m : Nat) : Nat → Int
  | 0 => 0
  | k + 1 => scB p0 p1 m k + (if bit m k = 1 then p1 k else p0 k)
theorem chN_low {c0 c1 : Nat → Nat} {x n : Nat} (hx : x < 2 ^ n) : ∀ k, k ≤ n → chN c0 c1 (x + 2 ^ n) k = chN c0 c1 x k
  | 0, _ => rfl
  | k + 1, hk => by
    show chN c0 c1 (x + 2 ^ n) k * (if bit (x + 2 ^ n) k = 1 then c1 k else c0 k) = _
    rw [chN_low hx k (by omega), bit_low (by omega) hx]; rfl
theorem scB_low {p0 p1 : Nat → Int} {x n : Nat} (hx : x < 2 ^ n) : ∀ k, k ≤ n → scB p0 p1 (x + 2 ^ n) k = scB p0 p1 x k
  | 0, _ => rfl
  | k + 1, hk => by
    show scB p0 p1 (x + 2 ^ n) k + (if bit (x + 2 ^ n) k = 1 then p1 k else p0 k) = _
    rw [scB_low hx k (by omega), bit_low (by omega) hx]; rfl
/-- The chances of all words whose score is z or more, one by one. -/
def exN (p0 p1 : Nat → Int) (c0 c1 : Nat → Nat) (n : Nat) (z : Int) : Nat := sum (fun m => if z ≤ scB p0 p1 m n then chN c0 c1 m n else 0) (2 ^ n)
theorem exN_succ (p0 p1 : Nat → Int) (c0 c1 : Nat → Nat) (n : Nat) (z : Int) : exN p0 p1 c0 c1 (n + 1) z = exN p0 p1 c0 c1 n (z - p0 n) * c0 n + exN p0 p1 c0 c1 n (z - p1 n) * c1 n := by
  unfold exN
  rw [Nat.pow_succ, Nat.mul_two, sum_split, Nat.mul_comm (sum _ _) (c0 n), Nat.mul_comm (sum _ _) (c1 n), ← sum_mul, ← sum_mul]
  congr 1
  · refine sum_congr fun m hm => ?_
    show (if z ≤ scB p0 p1 m n + (if bit m n = 1 then p1 n else p0 n) then chN c0 c1 m n * (if bit m n = 1 then c1 n else c0 n) else 0) = _
    rw [bit_high hm (Nat.le_refl _), if_neg (show ¬ (0 : Nat) = 1 by omega), if_neg (show ¬ (0 : Nat) = 1 by omega)]
    by_cases h : z - p0 n ≤ scB p0 p1 m n
    · rw [if_pos h, if_pos (by omega), Nat.mul_comm]
    · rw [if_neg h, if_neg (by omega), Nat.mul_zero]
  · refine sum_congr fun m hm => ?_
    rw [Nat.add_comm (2 ^ n) m]
    show (if z ≤ scB p0 p1 (m + 2 ^ n) n + (if bit (m + 2 ^ n) n = 1 then p1 n else p0 n) then chN c0 c1 (m + 2 ^ n) n * (if bit (m + 2 ^ n) n = 1 then c1 n else c0 n) else 0) = _
    rw [bit_top hm, if_pos rfl, if_pos rfl, scB_low hm n (Nat.le_refl _), chN_low hm n (Nat.le_refl _)]
    by_cases h : z - p1 n ≤ scB p0 p1 m n
    · rw [if_pos h, if_pos (by omega), Nat.mul_comm]
    · rw [if_neg h, if_neg (by omega), Nat.mul_zero]
theorem tl_moved {f : Int → Nat} {p : Int} {R h : Nat} {z : Int} (hh : h ≤ R) (hp : -(h : Int) ≤ p ∧ p ≤ h) (hf : ∀ s : Int, s < -((R - h : Nat) : Int) ∨ ((R - h : Nat) : Int) < s → f s = 0) : tl (fun s => f (s - p)) R z = tl f R (z - p) := by
  unfold tl
  rw [← wsum_moved (fun s => if z - p ≤ s then f s else 0) p R h hh hp (fun s hs => by split; exact hf s hs; rfl)]
  exact wsum_congr fun s _ _ => by
    by_cases h : z ≤ s
    · rw [if_pos h, if_pos (by omega)]
    · rw [if_neg h, if_neg (by omega)]
theorem tl_succ {p0 p1 : Nat → Int} {c0 c1 : Nat → Nat} {h n R : Nat} (hp : ∀ i, i < n → -(h : Int) ≤ p0 i ∧ p0 i ≤ h ∧ -(h : Int) ≤ p1 i ∧ p1 i ≤ h) (hR : h * n ≤ R) (k : Nat) (hk : k + 1 ≤ n) (z : Int) :
    tl (spr p0 p1 c0 c1 (k + 1)) R z = tl (spr p0 p1 c0 c1 k) R (z - p0 k) * c0 k + tl (spr p0 p1 c0 c1 k) R (z - p1 k) * c1 k := by
  obtain ⟨a1, a2, a3, a4⟩ := hp k (by omega)
  have hk1 : h * (k + 1) ≤ h * n := Nat.mul_le_mul_left h hk
  have e : h * (k + 1) = h * k + h := Nat.mul_succ h k
  have ho := spr_out (c0 := c0) (c1 := c1) hp k (by omega)
  rw [← tl_moved (R := R) (h := h) (by omega) ⟨a1, a2⟩ (fun s hs => ho s (by omega)), ← tl_moved (R := R) (h := h) (by omega) ⟨a3, a4⟩ (fun s hs => ho s (by omega))]
  unfold tl
  rw [← wsum_mul, ← wsum_mul, ← wsum_add]
  refine wsum_congr fun s _ _ => ?_
  by_cases h : z ≤ s
  · rw [if_pos h, if_pos h, if_pos h]; rfl
  · rw [if_neg h, if_neg h, if_neg h]; omega
theorem exN_eq {p0 p1 : Nat → Int} {c0 c1 : Nat → Nat} {h n R : Nat} (hp : ∀ i, i < n → -(h : Int) ≤ p0 i ∧ p0 i ≤ h ∧ -(h : Int) ≤ p1 i ∧ p1 i ≤ h) (hR : h * n ≤ R) : ∀ k, k ≤ n → ∀ z, exN p0 p1 c0 c1 k z = tl (spr p0 p1 c0 c1 k) R z
  | 0, _, z => by
    show 0 + (if z ≤ 0 then 1 else 0) = _
    have e := wsum_turn (f := fun s => if z ≤ s then spr p0 p1 c0 c1 0 s else 0) (g := fun _ => 0) (R := R) (x := 0) (c := if z ≤ 0 then 1 else 0) (by omega) (by omega) (fun s hs => by
      rw [spr_zero, if_neg hs]; split <;> rfl) (by rw [spr_zero, if_pos rfl, Nat.zero_add])
    show _ = wsum _ R
    rw [e, wsum_zero (fun _ _ _ => rfl)]
  | k + 1, hk, z => by
    rw [exN_succ, tl_succ hp hR k hk, exN_eq hp hR k (by omega), exN_eq hp hR k (by omega)]

/-- The chance of z is at most a limit. -/
def bdW (f : Int → Nat) (R all m n : Nat) (z : Int) : Prop := tl f R z * n ≤ m * all
theorem bdW_up {f : Int → Nat} {R all m n : Nat} {z z' : Int} (h : bdW f R all m n z) (hz : z ≤ z') : bdW f R all m n z' := Nat.le_trans (Nat.mul_le_mul_right _ (tl_anti f R hz)) h
/-- The least number whose chance is at most a limit. -/
def Bnd (f : Int → Nat) (R all m n : Nat) (z : Int) : Prop := bdW f R all m n z ∧ ¬ bdW f R all m n (z - 1)
theorem Bnd.le {f : Int → Nat} {R all m n : Nat} {z x : Int} (h : Bnd f R all m n z) (hx : bdW f R all m n x) : z ≤ x := by
  rcases Int.lt_or_le x z with hl | hl
  · exact absurd (bdW_up hx (show x ≤ z - 1 by omega)) h.2
  · exact hl
theorem Bnd.unique {f : Int → Nat} {R all m n : Nat} {z z' : Int} (h : Bnd f R all m n z) (h' : Bnd f R all m n z') : z = z' := by
  have := h.le h'.1
  have := h'.le h.1
  omega
theorem Bnd.iff {f : Int → Nat} {R all m n : Nat} {z x : Int} (h : Bnd f R all m n z) : z ≤ x ↔ bdW f R all m n x := ⟨fun hx => bdW_up h.1 hx, h.le⟩
theorem bdW_low {f : Int → Nat} {R all m n : Nat} {z : Int} (hz : ∀ s, s < z → f s = 0) (ha : wsum f R = all) (h0 : 0 < all) (hmn : m < n) : ¬ bdW f R all m n z := by
  unfold bdW
  rw [tl_all hz, ha, Nat.mul_comm m]
  exact fun h => absurd (Nat.mul_lt_mul_of_pos_left hmn h0) (by omega)
theorem bdW_high {f : Int → Nat} {R all m n : Nat} {z : Int} (hz : ∀ s, z ≤ s → f s = 0) : bdW f R all m n z := by
  unfold bdW
  rw [tl_none hz, Nat.zero_mul]
  exact Nat.zero_le _
end Hd

/- Words and weights of codes of steps, place by place; who is named. Plain arithmetic, no program. -/
namespace Hd

theorem sum_swap (f : Nat → Nat → Nat) (n m : Nat) : sum (fun i => sum (f i) m) n = sum (fun j => sum (fun i => f i j) n) m := by
  induction n with
  | zero => exact (sum_zero (fun _ _ => rfl)).symm
  | succ n ih =>
    rw [sum_succ, ih, ← sum_add]
    rfl
theorem sum_at {f : Nat → Nat} {n i : Nat} (hi : i < n) (h : ∀ j, j < n → j ≠ i → f j = 0) : sum f n = f i := by
  induction n with
  | zero => omega
  | succ n ih =>
    rw [sum_succ]
    by_cases e : i = n
    · subst e
      rw [sum_zero (fun j hj => h j (by omega) (by omega)), Nat.zero_add]
    · rw [ih (by omega) (fun j hj hne => h j (by omega) hne), h n (by omega) (fun e2 => e e2.symm), Nat.add_zero]
theorem sum_const (c n : Nat) : sum (fun _ => c) n = n * c := by
  induction n with
  | zero => simp [sum]
  | succ n ih => rw [sum_succ, ih, Nat.succ_mul]
/-- None above 1, as many as there are in all: each is 1. -/
theorem sum_full {f : Nat → Nat} {n : Nat} (h : ∀ i, i < n → f i ≤ 1) (e : sum f n = n) : ∀ i, i < n → f i = 1 := by
  induction n with
  | zero => intro i hi; omega
  | succ n ih =>
    rw [sum_succ] at e
    have h1 := h n (by omega)
    have h2 : sum f n ≤ n := by
      have := sum_le (f := f) (g := fun _ => 1) (n := n) (fun i hi => h i (by omega))
      rw [sum_const] at this
      omega
    intro i hi
    rcases Nat.lt_or_ge i n with h3 | h3
    · exact ih (fun i hi => h i (by omega)) (by omega) i h3
    · obtain rfl : i = n := by omega
      omega
/-- A row of n places, none twice. -/
def Inj (a : Nat → Nat) (n : Nat) : Prop := (∀ i, i < n → a i < n) ∧ ∀ i j, i < n → j < n → a i = a j → i = j
theorem Inj.hit {a : Nat → Nat} {n : Nat} (h : Inj a n) : ∀ p, p < n → sum (fun i => if a i = p then 1 else 0) n = 1 := by
  refine sum_full (f := fun p => sum (fun i => if a i = p then 1 else 0) n) (fun p hp => ?_) ?_
  · show sum _ n ≤ 1
    by_cases hx : ∃ i, i < n ∧ a i = p
    · obtain ⟨i, hi, e⟩ := hx
      rw [sum_at hi (fun j hj hne => if_neg fun e2 => hne (h.2 j i hj hi (e2.trans e.symm)))]
      split <;> omega
    · rw [sum_zero (fun i hi => if_neg fun e => hx ⟨i, hi, e⟩)]
      omega
  · rw [sum_swap]
    rw [sum_congr (g := fun _ => 1) (fun i hi => ?_), sum_const, Nat.mul_one]
    rw [sum_at (h.1 i hi) (fun j _ hne => if_neg fun e => hne e.symm), if_pos rfl]
theorem Inj.sum {a : Nat → Nat} {n : Nat} (h : Inj a n) (g : Nat → Nat) : sum (fun i => g (a i)) n = _root_.Hd.sum g n := by
  have e1 : _root_.Hd.sum (fun i => g (a i)) n = _root_.Hd.sum (fun i => _root_.Hd.sum (fun p => if a i = p then g p else 0) n) n := sum_congr fun i hi => by
    rw [sum_at (h.1 i hi) (fun j _ hne => if_neg fun e => hne e.symm), if_pos rfl]
  rw [e1, sum_swap]
  refine sum_congr fun p hp => ?_
  have h1 := h.hit p hp
  rw [sum_congr (g := fun i => g p * (if a i = p then 1 else 0)) (fun i _ => by split <;> simp), sum_mul, h1, Nat.mul_one]
theorem Inj.onto {a : Nat → Nat} {n p : Nat} (h : Inj a n) (hp : p < n) : ∃ i, i < n ∧ a i = p := by
  refine Classical.byContradiction fun hx => ?_
  have := h.hit p hp
  rw [sum_zero (fun i hi => if_neg fun e => hx ⟨i, hi, e⟩)] at this
  omega

/-- The word at the place of a column. -/
theorem mrk_at {a : Nat → Nat} {n s : Nat} (h : Inj a n) : ∀ k, k ≤ n → ∀ i, i < n → mrk a s k (a i) = if s ≤ i ∧ i < k then 1 else 0
  | 0, _, i, _ => by rw [if_neg (by omega)]; rfl
  | k + 1, hk, i, hi => by
    have ih := mrk_at (s := s) h k (by omega) i hi
    by_cases hs : s ≤ k
    · rw [mrk_yes a hs]
      unfold upd
      by_cases e : a i = a k
      · obtain rfl := h.2 i k hi (by omega) e
        rw [if_pos rfl, if_pos ⟨hs, by omega⟩]
      · rw [if_neg e, ih]
        have : i ≠ k := fun e2 => e (by rw [e2])
        by_cases h1 : s ≤ i ∧ i < k
        · rw [if_pos h1, if_pos ⟨h1.1, by omega⟩]
        · rw [if_neg h1, if_neg (fun h2 => h1 ⟨h2.1, by omega⟩)]
    · rw [mrk_no a hs, ih, if_neg (by omega), if_neg (by omega)]
theorem mrk_col {a : Nat → Nat} {n s i : Nat} (h : Inj a n) (hi : i < n) : mrk a s n (a i) = if s ≤ i then 1 else 0 := by
  rw [mrk_at h n (Nat.le_refl _) i hi]
  by_cases h1 : s ≤ i
  · rw [if_pos ⟨h1, hi⟩, if_pos h1]
  · rw [if_neg (fun h2 => h1 h2.1), if_neg h1]
theorem mrk_sum {a : Nat → Nat} {n s : Nat} (h : Inj a n) (hs : s ≤ n) : sum (mrk a s n) n = n - s := by
  rw [← h.sum, sum_congr (g := fun i => if s ≤ i then 1 else 0) (fun i hi => mrk_col h hi)]
  obtain ⟨t, rfl⟩ : ∃ t, n = s + t := ⟨n - s, by omega⟩
  rw [sum_split, sum_zero (fun i hi => if_neg (by omega)), sum_congr (g := fun _ => 1) (fun i _ => if_pos (by omega)), sum_const]
  omega
/-- A user's word at a column of a block. -/
theorem mrk_block {a : Nat → Nat} {n d x b j : Nat} (h : Inj a n) (hi : b * d + j < n) (hj : j < d) : mrk a (x * d) n (a (b * d + j)) = if x ≤ b then 1 else 0 := by
  rw [mrk_col h hi]
  by_cases h1 : x ≤ b
  · have := Nat.mul_le_mul_right d h1
    rw [if_pos h1, if_pos (by omega)]
  · have := Nat.mul_le_mul_right d (show b + 1 ≤ x by omega)
    rw [Nat.succ_mul] at this
    rw [if_neg h1, if_neg (by omega)]

/-- The weight of a block: one by one. -/
theorem wts_part {a y : Nat → Nat} {d : Nat} (hd : 0 < d) (b : Nat) : ∀ k, wts a y d k b = sum (fun i => if i / d = b ∧ y (a i) = 1 then 1 else 0) k
  | 0 => rfl
  | k + 1 => by
    rw [sum_succ, ← wts_part hd b k]
    by_cases h : y (a k) = 1
    · rw [wts_yes h]
      unfold upd
      by_cases e : b = k / d
      · subst e
        rw [if_pos rfl, if_pos ⟨rfl, h⟩]
      · rw [if_neg e, if_neg (fun h2 => e h2.1.symm)]; omega
    · rw [wts_no h, if_neg (fun h2 => h h2.2)]; omega
theorem wts_eq {a y : Nat → Nat} {d M b : Nat} (hd : 0 < d) (hb : b < M) : wts a y d (M * d) b = sum (fun j => if y (a (b * d + j)) = 1 then 1 else 0) d := by
  rw [wts_part hd]
  obtain ⟨t, rfl⟩ : ∃ t, M = b + (1 + t) := ⟨M - b - 1, by omega⟩
  have e : (b + (1 + t)) * d = b * d + (d + t * d) := by rw [Nat.add_mul, Nat.add_mul, Nat.one_mul]
  have hdiv : ∀ i, i < d → (b * d + i) / d = b := fun i hi => by
    rw [Nat.add_comm, Nat.add_mul_div_right _ _ hd, Nat.div_eq_of_lt hi, Nat.zero_add]
  rw [e, sum_split, sum_split]
  rw [sum_zero (n := b * d) (fun i hi => if_neg (fun h => by
    have := (Nat.div_lt_iff_lt_mul hd).2 hi
    omega))]
  rw [sum_zero (n := t * d) (fun i _ => if_neg (fun h => by
    have h1 := h.1
    rw [show b * d + (d + i) = d * (b + 1) + i by rw [Nat.mul_add, Nat.mul_comm d b]; omega, Nat.mul_add_div hd] at h1
    have := Nat.zero_le (i / d)
    generalize i / d = q at h1 this
    omega))]
  rw [Nat.zero_add, Nat.add_zero]
  refine sum_congr fun j hj => ?_
  have := hdiv j hj
  by_cases h : y (a (b * d + j)) = 1
  · rw [if_pos ⟨this, h⟩, if_pos h]
  · rw [if_neg (fun h2 => h h2.2), if_neg h]
theorem block_lt {M d b j : Nat} (hb : b < M) (hj : j < d) : b * d + j < M * d := by
  have := Nat.mul_le_mul_right d (show b + 1 ≤ M by omega)
  rw [Nat.succ_mul] at this
  omega
/-- All 0 in a block; all 1 in a block. -/
theorem wts_none {a y : Nat → Nat} {d M b : Nat} (hd : 0 < d) (hb : b < M) (h : ∀ j, j < d → y (a (b * d + j)) ≠ 1) : wts a y d (M * d) b = 0 := by
  rw [wts_eq hd hb]
  exact sum_zero fun j hj => if_neg (h j hj)
theorem wts_full {a y : Nat → Nat} {d M b : Nat} (hd : 0 < d) (hb : b < M) (h : ∀ j, j < d → y (a (b * d + j)) = 1) : wts a y d (M * d) b = d := by
  rw [wts_eq hd hb, sum_congr (g := fun _ => 1) (fun j hj => if_pos (h j hj)), sum_const, Nat.mul_one]
/-- The weights of a user's own word. -/
theorem wts_word {a : Nat → Nat} {d M b x : Nat} (hi : Inj a (M * d)) (hd : 0 < d) (hb : b < M) : wts a (mrk a (x * d) (M * d)) d (M * d) b = if x ≤ b then d else 0 := by
  by_cases h : x ≤ b
  · rw [if_pos h]
    exact wts_full hd hb fun j hj => by rw [mrk_block hi (block_lt hb hj) hj, if_pos h]
  · rw [if_neg h]
    exact wts_none hd hb fun j hj => by rw [mrk_block hi (block_lt hb hj) hj, if_neg h]; omega

/-- The copy that has as many 1 in each block as asked: the first places of each block. cps: what has been laid for block b up to place i; the rest from y on. -/
def inB (a : Nat → Nat) (d n b p : Nat) : Bool := decide (mrk a (b * d) n p = 1) && decide (mrk a ((b + 1) * d) n p = 0)
def rank (f : Nat → Bool) (p : Nat) : Nat := sum (fun i => if f i then 1 else 0) p
theorem rank_succ (f : Nat → Bool) (p : Nat) : rank f (p + 1) = rank f p + if f p then 1 else 0 := rfl
/-- Of those that meet f, the first m: m of them, if there are as many. -/
theorem rank_first (f : Nat → Bool) (m : Nat) : ∀ n, sum (fun p => if f p = true ∧ rank f p < m then 1 else 0) n = min m (rank f n)
  | 0 => by simp [sum, rank]
  | n + 1 => by
    rw [sum_succ, rank_first f m n, rank_succ]
    cases f n with
    | false => simp
    | true =>
      by_cases h : rank f n < m
      · rw [if_pos ⟨rfl, h⟩]; simp; omega
      · rw [if_neg (fun h2 => h h2.2)]; simp; omega
theorem inB_col {a : Nat → Nat} {d M b c j : Nat} (hi : Inj a (M * d)) (hc : c < M) (hj : j < d) : inB a d (M * d) b (a (c * d + j)) = decide (c = b) := by
  unfold inB
  rw [mrk_block hi (block_lt hc hj) hj, mrk_block hi (block_lt hc hj) hj]
  by_cases h1 : b ≤ c
  · by_cases h2 : b + 1 ≤ c
    · rw [if_pos h1, if_pos h2, decide_eq_false (show ¬ c = b by omega)]; rfl
    · rw [if_pos h1, if_neg h2, decide_eq_true (show c = b by omega)]; rfl
  · rw [if_neg h1, if_neg (show ¬ b + 1 ≤ c by omega), decide_eq_false (show ¬ c = b by omega)]; rfl
/-- Over all places only those of the block count. -/
theorem inB_sum {a : Nat → Nat} {d M b : Nat} (hi : Inj a (M * d)) (hd : 0 < d) (hb : b < M) (g : Nat → Nat) : sum (fun p => if inB a d (M * d) b p then g p else 0) (M * d) = sum (fun j => g (a (b * d + j))) d := by
  rw [← hi.sum]
  obtain ⟨t, ht⟩ : ∃ t, M = b + (1 + t) := ⟨M - b - 1, by omega⟩
  have e : M * d = b * d + (d + t * d) := by rw [ht, Nat.add_mul, Nat.add_mul, Nat.one_mul]
  have key : ∀ i, i < M * d → inB a d (M * d) b (a i) = decide (i / d = b) := fun i hi' => by
    have h1 := inB_col (b := b) (c := i / d) (j := i % d) hi ((Nat.div_lt_iff_lt_mul hd).2 hi') (Nat.mod_lt _ hd)
    rw [Nat.mul_comm (i / d) d, Nat.div_add_mod] at h1
    exact h1
  rw [sum_congr (g := fun i => if i / d = b then g (a i) else 0) (fun i hi' => by rw [key i hi']; by_cases h : i / d = b <;> simp [h])]
  rw [e, sum_split, sum_split]
  rw [sum_zero (n := b * d) (fun i hi => if_neg (fun h => by
    have := (Nat.div_lt_iff_lt_mul hd).2 hi
    omega))]
  rw [sum_zero (n := t * d) (fun i _ => if_neg (fun h => by
    rw [show b * d + (d + i) = d * (b + 1) + i by rw [Nat.mul_add, Nat.mul_comm d b]; omega, Nat.mul_add_div hd] at h
    have := Nat.zero_le (i / d)
    generalize i / d = q at h this
    omega))]
  rw [Nat.zero_add, Nat.add_zero]
  exact sum_congr fun j hj => if_pos (by rw [Nat.add_comm, Nat.add_mul_div_right _ _ hd, Nat.div_eq_of_lt hj, Nat.zero_add])
theorem inB_rank {a : Nat → Nat} {d M b : Nat} (hi : Inj a (M * d)) (hd : 0 < d) (hb : b < M) : rank (inB a d (M * d) b) (M * d) = d := by
  have := inB_sum hi hd hb (fun _ => 1)
  rw [sum_const, Nat.mul_one] at this
  exact this
/-- The copy made for weights: place by place. -/
def mdC (a : Nat → Nat) (d n : Nat) (W : Nat → Nat) : Nat → Nat → Nat
  | 0 => fun _ => 0
  | b + 1 => fun p => if inB a d n b p = true ∧ rank (inB a d n b) p < W b then 1 else mdC a d n W b p
theorem mdC_le (a : Nat → Nat) (d n : Nat) (W : Nat → Nat) : ∀ b p, mdC a d n W b p ≤ 1
  | 0, _ => Nat.zero_le _
  | b + 1, p => by
    show (if _ then _ else _) ≤ 1
    split
    · exact Nat.le_refl _
    · exact mdC_le a d n W b p
/-- At the columns of a block only that block's round tells. -/
theorem mdC_col {a : Nat → Nat} {d M : Nat} {W : Nat → Nat} (hi : Inj a (M * d)) {c j : Nat} (hc : c < M) (hj : j < d) : ∀ b, b ≤ M → mdC a d (M * d) W b (a (c * d + j)) = if c < b ∧ rank (inB a d (M * d) c) (a (c * d + j)) < W c then 1 else 0
  | 0, _ => by rw [if_neg (by omega)]; rfl
  | b + 1, hb => by
    show (if _ then _ else _) = _
    rw [inB_col hi hc hj, mdC_col hi hc hj b (by omega)]
    by_cases e : c = b
    · subst e
      by_cases h : rank (inB a d (M * d) c) (a (c * d + j)) < W c
      · rw [if_pos ⟨by simp, h⟩, if_pos ⟨by omega, h⟩]
      · rw [if_neg (fun h2 => h h2.2), if_neg (fun h2 => h h2.2), if_neg (fun h2 => h h2.2)]
    · rw [if_neg (fun h2 => e (of_decide_eq_true h2.1))]
      by_cases h : rank (inB a d (M * d) c) (a (c * d + j)) < W c
      · by_cases h3 : c < b
        · rw [if_pos ⟨h3, h⟩, if_pos ⟨by omega, h⟩]
        · rw [if_neg (fun h2 => h3 h2.1), if_neg (fun h2 => h3 (by omega))]
      · rw [if_neg (fun h2 => h h2.2), if_neg (fun h2 => h h2.2)]
theorem wts_made {a : Nat → Nat} {d M b : Nat} {W : Nat → Nat} (hi : Inj a (M * d)) (hd : 0 < d) (hb : b < M) (hW : W b ≤ d) : wts a (mdC a d (M * d) W M) d (M * d) b = W b := by
  rw [wts_eq hd hb]
  have h1 := rank_first (inB a d (M * d) b) (W b) (M * d)
  rw [inB_rank hi hd hb, Nat.min_eq_left hW] at h1
  have h2 := inB_sum hi hd hb (fun p => if rank (inB a d (M * d) b) p < W b then 1 else 0)
  have h3 : sum (fun p => if inB a d (M * d) b p = true ∧ rank (inB a d (M * d) b) p < W b then 1 else 0) (M * d) = sum (fun p => if inB a d (M * d) b p = true then (if rank (inB a d (M * d) b) p < W b then 1 else 0) else 0) (M * d) := sum_congr fun p _ => by
    by_cases h3 : inB a d (M * d) b p = true
    · by_cases h4 : rank (inB a d (M * d) b) p < W b
      · rw [if_pos ⟨h3, h4⟩, if_pos h3, if_pos h4]
      · rw [if_neg (fun h5 => h4 h5.2), if_pos h3, if_neg h4]
    · rw [if_neg (fun h5 => h3 h5.1), if_neg h3]
  refine Eq.trans ?_ (h2.symm.trans (h3.symm.trans h1))
  refine sum_congr fun j hj => ?_
  have e := mdC_col (W := W) hi hb hj M (Nat.le_refl _)
  by_cases h4 : rank (inB a d (M * d) b) (a (b * d + j)) < W b
  · rw [if_pos ⟨hb, h4⟩] at e
    rw [e, if_pos h4, if_pos rfl]
  · rw [if_neg (fun h5 => h4 h5.2)] at e
    rw [e, if_neg h4, if_neg (by omega)]
/-- The copy under way: block b, up to place i. -/
def mdI (a : Nat → Nat) (d n : Nat) (W : Nat → Nat) (b i p : Nat) : Nat := if p < i ∧ inB a d n b p = true ∧ rank (inB a d n b) p < W b then 1 else mdC a d n W b p
theorem mdI_zero (a : Nat → Nat) (d n : Nat) (W : Nat → Nat) (b p : Nat) : mdI a d n W b 0 p = mdC a d n W b p := if_neg (by omega)
theorem mdI_end (a : Nat → Nat) (d n : Nat) (W : Nat → Nat) (b : Nat) {p : Nat} (hp : p < n) : mdI a d n W b n p = mdC a d n W (b + 1) p := by
  unfold mdI
  show _ = if inB a d n b p = true ∧ rank (inB a d n b) p < W b then 1 else mdC a d n W b p
  by_cases h : inB a d n b p = true ∧ rank (inB a d n b) p < W b
  · rw [if_pos h, if_pos ⟨hp, h⟩]
  · rw [if_neg h, if_neg (fun h2 => h h2.2)]
theorem mdI_hit {a : Nat → Nat} {d n : Nat} {W : Nat → Nat} {b i : Nat} (h1 : inB a d n b i = true) (h2 : rank (inB a d n b) i < W b) (p : Nat) : mdI a d n W b (i + 1) p = upd (mdI a d n W b i) i 1 p := by
  unfold upd
  by_cases e : p = i
  · subst e
    rw [if_pos rfl]
    exact if_pos ⟨by omega, h1, h2⟩
  · rw [if_neg e]
    unfold mdI
    by_cases h : p < i ∧ inB a d n b p = true ∧ rank (inB a d n b) p < W b
    · rw [if_pos h, if_pos ⟨by omega, h.2⟩]
    · rw [if_neg h, if_neg (fun h3 => h ⟨by omega, h3.2⟩)]
theorem mdI_miss {a : Nat → Nat} {d n : Nat} {W : Nat → Nat} {b i : Nat} (h : ¬ (inB a d n b i = true ∧ rank (inB a d n b) i < W b)) (p : Nat) : mdI a d n W b (i + 1) p = mdI a d n W b i p := by
  unfold mdI
  by_cases h1 : p < i ∧ inB a d n b p = true ∧ rank (inB a d n b) p < W b
  · rw [if_pos h1, if_pos ⟨by omega, h1.2⟩]
  · rw [if_neg h1, if_neg (fun h3 => by
      by_cases e : p = i
      · subst e; exact h h3.2
      · exact h1 ⟨by omega, h3.2⟩)]
theorem rank_yes {f : Nat → Bool} {i : Nat} (h : f i = true) : rank f (i + 1) = rank f i + 1 := by rw [rank_succ, h]; rfl
theorem rank_no {f : Nat → Bool} {i : Nat} (h : f i = false) : rank f (i + 1) = rank f i := by rw [rank_succ, h]; rfl
theorem nmd_congr {U d m n : Nat} {W W' : Nat → Nat} (hU : 2 ≤ U) (h : ∀ b, b < U - 1 → W b = W' b) {k : Nat} (hk : k < U) : nmd U d m n W k = nmd U d m n W' k := by
  unfold nmd
  by_cases h0 : k = 0
  · rw [if_pos h0, if_pos h0, h 0 (by omega)]
  · rw [if_neg h0, if_neg h0]
    by_cases h1 : k = U - 1
    · rw [if_pos h1, if_pos h1, h (k - 1) (by omega)]
    · rw [if_neg h1, if_neg h1, h (k - 1) (by omega), h k (by omega)]
theorem nmL_congr {U d m n : Nat} {W W' : Nat → Nat} (hU : 2 ≤ U) (h : ∀ b, b < U - 1 → W b = W' b) : ∀ k, k ≤ U → nmL U d m n W k = nmL U d m n W' k
  | 0, _ => rfl
  | k + 1, hk => by
    have e := nmd_congr (d := d) (m := m) (n := n) hU h (show k < U by omega)
    have ih := nmL_congr (d := d) (m := m) (n := n) hU h k (by omega)
    cases hn : nmd U d m n W k with
    | true => rw [nmL_yes hn, nmL_yes (by rw [← e]; exact hn), ih]
    | false => rw [nmL_no hn, nmL_no (by rw [← e]; exact hn), ih]
end Hd
