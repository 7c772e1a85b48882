set_option linter.unusedVariables false
set_option linter.unusedSimpArgs false
/- The arrangement of columns: numbers 0 .. n - 1 shuffled from the end. Plain arithmetic, no program. -/
namespace Hd

/-- Two places of a row changed for one another. -/
def swp (f : Nat → Nat) (i j : Nat) (x : Nat) : Nat := if x = i then f j else if x = j then f i else f x
/-- The arrangement when k places from the end have been drawn: r i: the place drawn for i. -/
def arr (r : Nat → Nat) (n : Nat) : Nat → Nat → Nat
  | 0 => fun x => x
  | k + 1 => swp (arr r n k) (n - 1 - k) (r (n - 1 - k))
theorem swp_lt {f : Nat → Nat} {i j n : Nat} (h : ∀ x, x < n → f x < n) (hi : i < n) (hj : j < n) : ∀ x, x < n → swp f i j x < n := fun x hx => by
  unfold swp
  split
  · exact h j hj
  · split
    · exact h i hi
    · exact h x hx
theorem arr_lt {r : Nat → Nat} {n : Nat} (hr : ∀ i, i < n → r i ≤ i) : ∀ k, k < n → ∀ x, x < n → arr r n k x < n
  | 0, _, _, hx => hx
  | k + 1, hk, x, hx => by
    have h := hr (n - 1 - k) (by omega)
    exact swp_lt (arr_lt hr k (by omega)) (by omega) (by omega) x hx
theorem swp_inj {f : Nat → Nat} {i j n : Nat} (h : ∀ x y, x < n → y < n → f x = f y → x = y) (hi : i < n) (hj : j < n) : ∀ x y, x < n → y < n → swp f i j x = swp f i j y → x = y := fun x y hx hy e => by
  have key : ∀ x, swp f i j x = f (if x = i then j else if x = j then i else x) := fun x => by
    unfold swp
    split
    · rfl
    · split <;> rfl
  rw [key, key] at e
  have e2 := h _ _ (by split; exact hj; split; exact hi; exact hx) (by split; exact hj; split; exact hi; exact hy) e
  by_cases h1 : x = i <;> by_cases h2 : y = i <;> by_cases h3 : x = j <;> by_cases h4 : y = j <;> simp_all
theorem arr_inj {r : Nat → Nat} {n : Nat} (hr : ∀ i, i < n → r i ≤ i) : ∀ k, k < n → ∀ x y, x < n → y < n → arr r n k x = arr r n k y → x = y
  | 0, _, _, _, _, _, e => e
  | k + 1, hk, x, y, hx, hy, e => by
    have h := hr (n - 1 - k) (by omega)
    exact swp_inj (arr_inj hr k (by omega)) (by omega) (by omega) x y hx hy e
end Hd
