set_option linter.unusedVariables false
set_option linter.unusedSimpArgs false
/- Digits to the base 2^32 as functions of the index: their value, canonical numbers, and the steps of addition, subtraction and multiplication. Plain arithmetic, no program. -/
namespace Hd

/-- The base. -/
def B : Nat := 4294967296
theorem B_pos : 0 < B := by unfold B; omega
theorem B_eq : B = 4294967296 := rfl
theorem Bpow_pos (n : Nat) : 0 < B ^ n := Nat.pow_pos B_pos

/-- The value of n digits. -/
def val (f : Nat → Nat) : Nat → Nat
  | 0 => 0
  | n + 1 => val f n + f n * B ^ n

theorem val_zero (f : Nat → Nat) : val f 0 = 0 := rfl
theorem val_succ (f : Nat → Nat) (n : Nat) : val f (n + 1) = val f n + f n * B ^ n := rfl

theorem val_congr {f g : Nat → Nat} {n : Nat} (h : ∀ j, j < n → f j = g j) : val f n = val g n := by
  induction n with
  | zero => rfl
  | succ n ih => rw [val_succ, val_succ, ih (fun j hj => h j (by omega)), h n (by omega)]

theorem val_lt {f : Nat → Nat} {n : Nat} (h : ∀ j, j < n → f j < B) : val f n < B ^ n := by
  induction n with
  | zero => simp [val]
  | succ n ih =>
    have h1 := ih (fun j hj => h j (by omega))
    have h2 := h n (by omega)
    rw [val_succ, Nat.pow_succ]
    have h3 : f n * B ^ n ≤ (B - 1) * B ^ n := Nat.mul_le_mul_right _ (by omega)
    have h4 : (B - 1) * B ^ n + B ^ n = B ^ n * B := by
      have h5 : (B - 1 + 1) * B ^ n = (B - 1) * B ^ n + 1 * B ^ n := Nat.add_mul ..
      have h6 : B - 1 + 1 = B := rfl
      rw [h6] at h5
      rw [Nat.mul_comm (B ^ n) B]
      omega
    omega

/-- The lowest digits first: n digits of a number shifted by one place. -/
theorem val_shift (f : Nat → Nat) (n : Nat) : val f (n + 1) = f 0 + B * val (fun j => f (j + 1)) n := by
  induction n with
  | zero => simp [val]
  | succ n ih =>
    rw [val_succ, ih, val_succ, Nat.mul_add, Nat.pow_succ]
    have : f (n + 1) * (B ^ n * B) = B * (f (n + 1) * B ^ n) := by
      rw [Nat.mul_comm (B ^ n) B, ← Nat.mul_assoc, Nat.mul_comm (f (n + 1)) B, Nat.mul_assoc]
    omega

/-- k digits, then those from k on. -/
theorem val_split (f : Nat → Nat) (k n : Nat) : val f (k + n) = val f k + B ^ k * val (fun j => f (k + j)) n := by
  induction n with
  | zero => simp [val]
  | succ n ih =>
    rw [← Nat.add_assoc, val_succ, ih, val_succ, Nat.mul_add, Nat.pow_add]
    have : f (k + n) * (B ^ k * B ^ n) = B ^ k * (f (k + n) * B ^ n) := by
      rw [← Nat.mul_assoc, Nat.mul_comm (f (k + n)) (B ^ k), Nat.mul_assoc]
    omega

theorem val_zeros {f : Nat → Nat} {n : Nat} (h : ∀ j, j < n → f j = 0) : val f n = 0 := by
  induction n with
  | zero => rfl
  | succ n ih => rw [val_succ, ih (fun j hj => h j (by omega)), h n (by omega)]; simp

/-- Zeros behind do not count. -/
theorem val_more {f : Nat → Nat} {n k : Nat} (hk : n ≤ k) (h : ∀ j, n ≤ j → j < k → f j = 0) : val f k = val f n := by
  obtain ⟨d, rfl⟩ : ∃ d, k = n + d := ⟨k - n, by omega⟩
  rw [val_split, val_zeros (fun j hj => h (n + j) (by omega) (by omega))]
  simp

/-- Digits, none too great, no zero at the end. -/
structure Canon (f : Nat → Nat) (n : Nat) : Prop where
  lt : ∀ j, j < n → f j < B
  top : 0 < n → f (n - 1) ≠ 0

theorem Canon.lower {f : Nat → Nat} {n : Nat} (h : Canon f n) (hn : 0 < n) : B ^ (n - 1) ≤ val f n := by
  obtain ⟨m, rfl⟩ : ∃ m, n = m + 1 := ⟨n - 1, by omega⟩
  have ht := h.top hn
  simp only [Nat.add_sub_cancel] at ht ⊢
  rw [val_succ]
  have : 1 * B ^ m ≤ f m * B ^ m := Nat.mul_le_mul_right _ (by omega)
  omega

theorem Canon.upper {f : Nat → Nat} {n : Nat} (h : Canon f n) : val f n < B ^ n := val_lt h.lt

theorem pow_lt_pow_iff (a b : Nat) : B ^ a < B ^ b ↔ a < b := Nat.pow_lt_pow_iff_right (by unfold B; omega)

theorem Canon.len_le_iff {f : Nat → Nat} {n : Nat} (h : Canon f n) (k : Nat) : n ≤ k ↔ val f n < B ^ k := by
  constructor
  · intro hk
    exact Nat.lt_of_lt_of_le h.upper (Nat.pow_le_pow_right B_pos hk)
  · intro hv
    rcases Nat.eq_zero_or_pos n with h0 | h0
    · omega
    · have := h.lower h0
      have h2 : B ^ (n - 1) < B ^ k := Nat.lt_of_le_of_lt this hv
      rw [pow_lt_pow_iff] at h2
      omega

theorem Canon.len_lt {f g : Nat → Nat} {n m : Nat} (hf : Canon f n) (hg : Canon g m) (h : n < m) : val f n < val g m :=
  Nat.lt_of_lt_of_le (Nat.lt_of_lt_of_le hf.upper (Nat.pow_le_pow_right B_pos (by omega))) (hg.lower (by omega))

theorem Canon.zero_iff {f : Nat → Nat} {n : Nat} (h : Canon f n) : n = 0 ↔ val f n = 0 := by
  constructor
  · rintro rfl; rfl
  · intro hv
    rcases Nat.eq_zero_or_pos n with h0 | h0
    · exact h0
    · have := h.lower h0
      have := Bpow_pos (n - 1)
      omega

/-- The highest digit at which two numbers part tells their order. -/
theorem val_lt_of {f g : Nat → Nat} {n i : Nat} (hi : i < n) (hf : ∀ j, j < n → f j < B) (hs : ∀ j, i < j → j < n → f j = g j) (hlt : f i < g i) : val f n < val g n := by
  obtain ⟨d, rfl⟩ : ∃ d, n = (i + 1) + d := ⟨n - (i + 1), by omega⟩
  rw [val_split f, val_split g]
  have : val (fun j => f (i + 1 + j)) d = val (fun j => g (i + 1 + j)) d := val_congr fun j hj => hs _ (by omega) (by omega)
  rw [this, val_succ, val_succ]
  have h1 : val f i < B ^ i := val_lt fun j hj => hf j (by omega)
  have h2 : (f i + 1) * B ^ i ≤ g i * B ^ i := Nat.mul_le_mul_right _ hlt
  rw [Nat.add_mul] at h2
  omega

theorem val_inj {f g : Nat → Nat} {n : Nat} (hf : ∀ j, j < n → f j < B) (hg : ∀ j, j < n → g j < B) (h : val f n = val g n) : ∀ j, j < n → f j = g j := by
  induction n with
  | zero => intro j hj; omega
  | succ n ih =>
    have h1 : val f n < B ^ n := val_lt fun j hj => hf j (by omega)
    have h2 : val g n < B ^ n := val_lt fun j hj => hg j (by omega)
    rw [val_succ, val_succ] at h
    have hd : f n = g n := by
      have a1 : (val f n + f n * B ^ n) / B ^ n = f n := by
        rw [Nat.add_mul_div_right _ _ (Bpow_pos n), Nat.div_eq_of_lt h1]; omega
      have a2 : (val g n + g n * B ^ n) / B ^ n = g n := by
        rw [Nat.add_mul_div_right _ _ (Bpow_pos n), Nat.div_eq_of_lt h2]; omega
      rw [← a1, ← a2, h]
    rw [hd] at h
    intro j hj
    rcases Nat.lt_or_ge j n with hj' | hj'
    · exact ih (fun j hj => hf j (by omega)) (fun j hj => hg j (by omega)) (by omega) j hj'
    · have : j = n := by omega
      rw [this]; exact hd

theorem Canon.unique {f g : Nat → Nat} {n m : Nat} (hf : Canon f n) (hg : Canon g m) (h : val f n = val g m) : n = m ∧ ∀ j, j < n → f j = g j := by
  have hnm : n = m := by
    rcases Nat.lt_trichotomy n m with h1 | h1 | h1
    · have := hf.len_lt hg h1; omega
    · exact h1
    · have := hg.len_lt hf h1; omega
  subst hnm
  exact ⟨rfl, val_inj hf.lt hg.lt h⟩

/-- What is left behind the zeros at the end are struck. -/
theorem canon_trim {f : Nat → Nat} {n k : Nat} (hlt : ∀ j, j < n → f j < B) (hk : k ≤ n) (hz : ∀ j, k ≤ j → j < n → f j = 0) (ht : 0 < k → f (k - 1) ≠ 0) : Canon f k ∧ val f k = val f n :=
  ⟨⟨fun j hj => hlt j (by omega), ht⟩, (val_more hk hz).symm⟩

/-- The digits beyond the end are 0. -/
def dig (f : Nat → Nat) (n i : Nat) : Nat := if i < n then f i else 0
theorem dig_lt {f : Nat → Nat} {n : Nat} (h : ∀ j, j < n → f j < B) (i : Nat) : dig f n i < B := by
  unfold dig; split
  · exact h _ ‹_›
  · exact B_pos
theorem dig_of_lt {f : Nat → Nat} {n i : Nat} (h : i < n) : dig f n i = f i := if_pos h
theorem dig_of_ge {f : Nat → Nat} {n i : Nat} (h : n ≤ i) : dig f n i = 0 := if_neg (by omega)
theorem val_dig {f : Nat → Nat} {n k : Nat} (h : n ≤ k) : val (dig f n) k = val f n := by
  rw [val_more h (fun j hj _ => dig_of_ge hj)]
  exact val_congr fun j hj => dig_of_lt hj

/-- One digit written. -/
def upd (f : Nat → Nat) (i d : Nat) : Nat → Nat := fun j => if j = i then d else f j
theorem upd_same (f : Nat → Nat) (i d : Nat) : upd f i d i = d := if_pos rfl
theorem upd_other (f : Nat → Nat) (d : Nat) {i j : Nat} (h : j ≠ i) : upd f i d j = f j := if_neg h
theorem upd_lt {f : Nat → Nat} {i d n M : Nat} (h : ∀ j, j < n → f j < M) (hd : d < M) : ∀ j, j < n → upd f i d j < M := by
  intro j hj
  unfold upd; split
  · exact hd
  · exact h j hj
theorem val_upd_ge (f : Nat → Nat) (d : Nat) {i k : Nat} (h : k ≤ i) : val (upd f i d) k = val f k := val_congr fun j hj => upd_other f d (by omega)
theorem val_upd_next (f : Nat → Nat) (d i : Nat) : val (upd f i d) (i + 1) = val f i + d * B ^ i := by rw [val_succ, val_upd_ge f d (Nat.le_refl _), upd_same]

/-! ### Addition: a round -/
theorem add_round {a b c o' c' V W S : Nat} (i : Nat) (h : S + c * B ^ i = V + W) (ho : o' = (a + b + c) % B) (hc : c' = (a + b + c) / B) :
    S + o' * B ^ i + c' * B ^ (i + 1) = V + a * B ^ i + (W + b * B ^ i) := by
  have hd : a + b + c = B * c' + o' := by rw [ho, hc]; exact (Nat.div_add_mod _ _).symm
  have h1 : (a + b + c) * B ^ i = (B * c' + o') * B ^ i := by rw [hd]
  rw [Nat.add_mul, Nat.add_mul, Nat.add_mul] at h1
  have h2 : c' * B ^ (i + 1) = B * c' * B ^ i := by rw [Nat.pow_succ, Nat.mul_comm (B ^ i) B, ← Nat.mul_assoc, Nat.mul_comm c' B]
  omega

/-! ### Subtraction: a round. bo, bo' are the borrows -/
theorem sub_round {a b o bo bo' V W S : Nat} (i : Nat) (h : S + W = V + bo * B ^ i) (hd : o + b + bo = a + bo' * B) :
    S + o * B ^ i + (W + b * B ^ i) = V + a * B ^ i + bo' * B ^ (i + 1) := by
  have h1 : (o + b + bo) * B ^ i = (a + bo' * B) * B ^ i := by rw [hd]
  rw [Nat.add_mul, Nat.add_mul, Nat.add_mul] at h1
  have h2 : bo' * B ^ (i + 1) = bo' * B * B ^ i := by rw [Nat.pow_succ, Nat.mul_comm (B ^ i) B, ← Nat.mul_assoc]
  omega

/-! ### Multiplication: a round of the inner loop: S: the value of the digits below i + j -/
theorem mul_round {x y c old o' c' V S T : Nat} (i j : Nat) (h : S + c * B ^ (i + j) = T + x * V * B ^ i) (ho : o' = (x * y + old + c) % B) (hc : c' = (x * y + old + c) / B) :
    S + o' * B ^ (i + j) + c' * B ^ (i + j + 1) = T + old * B ^ (i + j) + x * (V + y * B ^ j) * B ^ i := by
  have hd : x * y + old + c = B * c' + o' := by rw [ho, hc]; exact (Nat.div_add_mod _ _).symm
  have h1 : (x * y + old + c) * B ^ (i + j) = (B * c' + o') * B ^ (i + j) := by rw [hd]
  rw [Nat.add_mul, Nat.add_mul, Nat.add_mul] at h1
  have h2 : c' * B ^ (i + j + 1) = B * c' * B ^ (i + j) := by rw [Nat.pow_succ, Nat.mul_comm (B ^ (i + j)) B, ← Nat.mul_assoc, Nat.mul_comm c' B]
  have h3 : x * (V + y * B ^ j) * B ^ i = x * V * B ^ i + x * y * B ^ (i + j) := by
    rw [Nat.mul_add, Nat.add_mul, Nat.pow_add, Nat.mul_comm (B ^ i) (B ^ j)]
    congr 1
    rw [← Nat.mul_assoc, ← Nat.mul_assoc]
  omega

/-- A product of two digits and two carries fits in two digits. -/
theorem mul_fits {x y o c : Nat} (hx : x < B) (hy : y < B) (ho : o < B) (hc : c < B) : x * y + o + c < B * B := by
  have h1 : x * y ≤ (B - 1) * (B - 1) := Nat.mul_le_mul (by omega) (by omega)
  have h2 : (B - 1) * (B - 1) + (B - 1) + (B - 1) < B * B := by decide
  omega
theorem carry_fits {t : Nat} (h : t < B * B) : t / B < B := Nat.div_lt_of_lt_mul h

end Hd
