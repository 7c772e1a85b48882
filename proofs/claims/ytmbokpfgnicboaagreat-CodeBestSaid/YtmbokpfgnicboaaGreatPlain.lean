set_option linter.unusedVariables false
set_option linter.unusedSimpArgs false
/- Digits to the base 2^32 as functions of the index: their value, canonical numbers, and the steps of addition, subtraction and multiplication. Plain arithmetic, no program. -/
namespace Hd

/-- The base. -/
def B : Nat := 4294967296
theorem B_pos : 0 < B := by unfold B; omega
theorem B_eq : B = 4294967296 := rfl
theorem Bpow_pos (n : Nat) : 0 < B ^ n := Nat.pow_pos B_pos

/-- The value of n digits. -/
def val (f : Nat → Nat) : Nat → Nat
  | 0 => 0
  | n + 1 => val f n + f n * B ^ n

theorem val_zero (f : Nat → Nat) : val f 0 = 0 := rfl
theorem val_succ (f : Nat → Nat) (n : Nat) : val f (n + 1) = val f n + f n * B ^ n := rfl

theorem val_congr {f g : Nat → Nat} {n : Nat} (h : ∀ j, j < n → f j = g j) : val f n = val g n := by
  induction n with
  | zero => rfl
  | succ n ih => rw [val_succ, val_succ, ih (fun j hj => h j (by omega)), h n (by omega)]

theorem val_lt {f : Nat → Nat} {n : Nat} (h : ∀ j, j < n → f j < B) : val f n < B ^ n := by
  induction n with
  | zero => simp [val]
  | succ n ih =>
    have h1 := ih (fun j hj => h j (by omega))
    have h2 := h n (by omega)
    rw [val_succ, Nat.pow_succ]
    have h3 : f n * B ^ n ≤ (B - 1) * B ^ n := Nat.mul_le_mul_right _ (by omega)
    have h4 : (B - 1) * B ^ n + B ^ n = B ^ n * B := by
      have h5 : (B - 1 + 1) * B ^ n = (B - 1) * B ^ n + 1 * B ^ n := Nat.add_mul ..
      have h6 : B - 1 + 1 = B := rfl
      rw [h6] at h5
      rw [Nat.mul_comm (B ^ n) B]
      omega
    omega

/-- The lowest digits first: n digits of a number shifted by one place. -/
theorem val_shift (f : Nat → Nat) (n : Nat) : val f (n + 1) = f 0 + B * val (fun j => f (j + 1)) n := by
  induction n with
  | zero => simp [val]
  | succ n ih =>
    rw [val_succ, ih, val_succ, Nat.mul_add, Nat.pow_succ]
    have : f (n + 1) * (B ^ n * B) = B * (f (n + 1) * B ^ n) := by
      rw [Nat.mul_comm (B ^ n) B, ← Nat.mul_assoc, Nat.mul_comm (f (n + 1)) B, Nat.mul_assoc]
    omega

/-- k digits, then those from k on. -/
theorem val_split (f : Nat → Nat) (k n : Nat) : val f (k + n) = val f k + B ^ k * val (fun j => f (k + j)) n := by
  induction n with
  | zero => simp [val]
  | succ n ih =>
    rw [← Nat.add_assoc, val_succ, ih, val_succ, Nat.mul_add, Nat.pow_add]
    have : f (k + n) * (B ^ k * B ^ n) = B ^ k * (f (k + n) * B ^ n) := by
      rw [← Nat.mul_assoc, Nat.mul_comm (f (k + n)) (B ^ k), Nat.mul_assoc]
    omega

theorem val_zeros {f : Nat → Nat} {n : Nat} (h : ∀ j, j < n → f j = 0) : val f n = 0 := by
  induction n with
  | zero => rfl
  | succ n ih => rw [val_succ, ih (fun j hj => h j (by omega)), h n (by omega)]; simp

/-- Zeros behind do not count. -/
theorem val_more {f : Nat → Nat} {n k : Nat} (hk : n ≤ k) (h : ∀ j, n ≤ j → j < k → f j = 0) : val f k = val f n := by
  obtain ⟨d, rfl⟩ : ∃ d, k = n + d := ⟨k - n, by omega⟩
  rw [val_split, val_zeros (fun j hj => h (n + j) (by omega) (by omega))]
  simp

/-- Digits, none too great, no zero at the end. -/
structure Canon (f : Nat → Nat) (n : Nat) : Prop where
  lt : ∀ j, j < n → f j < B
  top : 0 < n → f (n - 1) ≠ 0

theorem Canon.lower {f : Nat → Nat} {n : Nat} (h : Canon f n) (hn : 0 < n) : B ^ (n - 1) ≤ val f n := by
  obtain ⟨m, rfl⟩ : ∃ m, n = m + 1 := ⟨n - 1, by omega⟩
  have ht := h.top hn
  simp only [Nat.add_sub_cancel] at ht ⊢
  rw [val_succ]
  have : 1 * B ^ m ≤ f m * B ^ m := Nat.mul_le_mul_right _ (by omega)
  omega

theorem Canon.upper {f : Nat → Nat} {n : Nat} (h : Canon f n) : val f n < B ^ n := val_lt h.lt

theorem pow_lt_pow_iff (a b : Nat) : B ^ a < B ^ b ↔ a < b := Nat.pow_lt_pow_iff_right (by unfold B; omega)

theorem Canon.len_le_iff {f : Nat → Nat} {n : Nat} (h : Canon f n) (k : Nat) : n ≤ k ↔ val f n < B ^ k := by
  constructor
  · intro hk
    exact Nat.lt_of_lt_of_le h.upper (Nat.pow_le_pow_right B_pos hk)
  · intro hv
    rcases Nat.eq_zero_or_pos n with h0 | h0
    · omega
    · have := h.lower h0
      have h2 : B ^ (n - 1) < B ^ k := Nat.lt_of_le_of_lt this hv
      rw [pow_lt_pow_iff] at h2
      omega

theorem Canon.len_lt {f g : Nat → Nat} {n m : Nat} (hf : Canon f n) (hg : Canon g m) (h : n < m) : val f n < val g m :=
  Nat.lt_of_lt_of_le (Nat.lt_of_lt_of_le hf.upper (Nat.pow_le_pow_right B_pos (by omega))) (hg.lower (by omega))

theorem Canon.zero_iff {f : Nat → Nat} {n : Nat} (h : Canon f n) : n = 0 ↔ val f n = 0 := by
  constructor
  · rintro rfl; rfl
  · intro hv
    rcases Nat.eq_zero_or_pos n with h0 | h0
    · exact h0
    · have := h.lower h0
      have := Bpow_pos (n - 1)
      omega

/-- The highest digit at which two numbers part tells their order. -/
theorem val_lt_of {f g : Nat → Nat} {n i : Nat} (hi : i < n) (hf : ∀ j, j < n → f j < B) (hs : ∀ j, i < j → j < n → f j = g j) (hlt : f i < g i) : val f n < val g n := by
  obtain ⟨d, rfl⟩ : ∃ d, n = (i + 1) + d := ⟨n - (i + 1), by omega⟩
  rw [val_split f, val_split g]
  have : val (fun j => f (i + 1 + j)) d = val (fun j => g (i + 1 + j)) d := val_congr fun j hj => hs _ (by omega) (by omega)
  rw [this, val_succ, val_succ]
  have h1 : val f i < B ^ i := val_lt fun j hj => hf j (by omega)
  have h2 : (f i + 1) * B ^ i ≤ g i * B ^ i := Nat.mul_le_mul_right _ hlt
  rw [Nat.add_mul] at h2
  omega

theorem val_inj {f g : Nat → Nat} {n : Nat} (hf : ∀ j, j < n → f j < B) (hg : ∀ j, j < n → g j < B) (h : val f n = val g n) : ∀ j, j < n → f j = g j := by
  induction n with
  | zero => intro j hj; omega
  | succ n ih =>
    have h1 : val f n < B ^ n := val_lt fun j hj => hf j (by omega)
    have h2 : val g n < B ^ n := val_lt fun j hj => hg j (by omega)
    rw [val_succ, val_succ] at h
    have hd : f n = g n := by
      have a1 : (val f n + f n * B ^ n) / B ^ n = f n := by
        rw [Nat.add_mul_div_right _ _ (Bpow_pos n), Nat.div_eq_of_lt h1]; omega
      have a2 : (val g n + g n * B ^ n) / B ^ n = g n := by
        rw [Nat.add_mul_div_right _ _ (Bpow_pos n), Nat.div_eq_of_lt h2]; omega
      rw [← a1, ← a2, h]
    rw [hd] at h
    intro j hj
    rcases Nat.lt_or_ge j n with hj' | hj'
    · exact ih (fun j hj => hf j (by omega)) (fun j hj => hg j (by omega)) (by omega) j hj'
    · have : j = n := by omega
      rw [this]; exact hd

theorem Canon.unique {f g : Nat → Nat} {n m : Nat} (hf : Canon f n) (hg : Canon g m) (h : val f n = val g m) : n = m ∧ ∀ j, j < n → f j = g j := by
  have hnm : n = m := by
    rcases Nat.lt_trichotomy n m with h1 | h1 | h1
    · have := hf.len_lt hg h1; omega
    · exact h1
    · have := hg.len_lt hf h1; omega
  subst hnm
  exact ⟨rfl, val_inj hf.lt hg.lt h⟩

/-- What is left behind the zeros at the end are struck. -/
theorem canon_trim {f : Nat → Nat} {n k : Nat} (hlt : ∀ j, j < n → f j < B) (hk : k ≤ n) (hz : ∀ j, k ≤ j → j < n → f j = 0) (ht : 0 < k → f (k - 1) ≠ 0) : Canon f k ∧ val f k = val f n :=
  ⟨⟨fun j hj => hlt j (by omega), ht⟩, (val_more hk hz).symm⟩

/-- The digits beyond the end are 0. -/
def dig (f : Nat → Nat) (n i : Nat) : Nat := if i < n then f i else 0
theorem dig_lt {f : Nat → Nat} {n : Nat} (h : ∀ j, j < n → f j < B) (i : Nat) : dig f n i < B := by
  unfold dig; split
  · exact h _ ‹_›
  · exact B_pos
theorem dig_of_lt {f : Nat → Nat} {n i : Nat} (h : i < n) : dig f n i = f i := if_pos h
theorem dig_of_ge {f : Nat → Nat} {n i : Nat} (h : n ≤ i) : dig f n i = 0 := if_neg (by omega)
theorem val_dig {f : Nat → Nat} {n k : Nat} (h : n ≤ k) : val (dig f n) k = val f n := by
  rw [val_more h (fun j hj _ => dig_of_ge hj)]
  exact val_congr fun j hj => dig_of_lt hj

/-- One digit written. -/
def upd (f : Nat → Nat) (i d : Nat) : Nat → Nat := fun j => if j = i then d else f j
theorem upd_same (f : Nat → Nat) (i d : Nat) : upd f i d i = d := if_pos rfl
theorem upd_other (f : Nat → Nat) (d : Nat) {i j : Nat} (h : j ≠ i) : upd f i d j = f j := if_neg h
theorem upd_lt {f : Nat → Nat} {i d n M : Nat} (h : ∀ j, j < n → f j < M) (hd : d < M) : ∀ j, j < n → upd f i d j < M := by
  intro j hj
  unfold upd; split
  · exact hd
  · exact h j hj
theorem val_upd_ge (f : Nat → Nat) (d : Nat) {i k : Nat} (h : k ≤ i) : val (upd f i d) k = val f k := val_congr fun j hj => upd_other f d (by omega)
theorem val_upd_next (f : Nat → Nat) (d i : Nat) : val (upd f i d) (i + 1) = val f i + d * B ^ i := by rw [val_succ, val_upd_ge f d (Nat.le_refl _), upd_same]

/-! ### Addition: a round -/
theorem add_round {a b c o' c' V W S : Nat} (i : Nat) (h : S + c * B ^ i = V + W) (ho : o' = (a + b + c) % B) (hc : c' = (a + b + c) / B) :
    S + o' * B ^ i + c' * B ^ (i + 1) = V + a * B ^ i + (W + b * B ^ i) := by
  have hd : a + b + c = B * c' + o' := by rw [ho, hc]; exact (Nat.div_add_mod _ _).symm
  have h1 : (a + b + c) * B ^ i = (B * c' + o') * B ^ i := by rw [hd]
  rw [Nat.add_mul, Nat.add_mul, Nat.add_mul] at h1
  have h2 : c' * B ^ (i + 1) = B * c' * B ^ i := by rw [Nat.pow_succ, Nat.mul_comm (B ^ i) B, ← Nat.mul_assoc, Nat.mul_comm c' B]
  omega

/-! ### Subtraction: a round. bo, bo' are the borrows -/
theorem sub_round {a b o bo bo' V W S : Nat} (i : Nat) (h : S + W = V + bo * B ^ i) (hd : o + b + bo = a + bo' * B) :
    S + o * B ^ i + (W + b * B ^ i) = V + a * B ^ i + bo' * B ^ (i + 1) := by
  have h1 : (o + b + bo) * B ^ i = (a + bo' * B) * B ^ i := by rw [hd]
  rw [Nat.add_mul, Nat.add_mul, Nat.add_mul] at h1
  have h2 : bo' * B ^ (i + 1) = bo' * B * B ^ i := by rw [Nat.pow_succ, Nat.mul_comm (B ^ i) B, ← Nat.mul_assoc]
  omega

/-! ### Multiplication: a round of the inner loop: S: the value of the digits below i + j -/
theorem mul_round {x y c old o' c' V S T : Nat} (i j : Nat) (h : S + c * B ^ (i + j) = T + x * V * B ^ i) (ho : o' = (x * y + old + c) % B) (hc : c' = (x * y + old + c) / B) :
    S + o' * B ^ (i + j) + c' * B ^ (i + j + 1) = T + old * B ^ (i + j) + x * (V + y * B ^ j) * B ^ i := by
  have hd : x * y + old + c = B * c' + o' := by rw [ho, hc]; exact (Nat.div_add_mod _ _).symm
  have h1 : (x * y + old + c) * B ^ (i + j) = (B * c' + o') * B ^ (i + j) := by rw [hd]
  rw [Nat.add_mul, Nat.add_mul, Nat.add_mul] at h1
  have h2 : c' * B ^ (i + j + 1) = B * c' * B ^ (i + j) := by rw [Nat.pow_succ, Nat.mul_comm (B ^ (i + j)) B, ← Nat.mul_assoc, Nat.mul_comm c' B]
  have h3 : x * (V + y * B ^ j) * B ^ i = x * V * B ^ i + x * y * B ^ (i + j) := by
    rw [Nat.mul_add, Nat.add_mul, Nat.pow_add, Nat.mul_comm (B ^ i) (B ^ j)]
    congr 1
    rw [← Nat.mul_assoc, ← Nat.mul_assoc]
  omega

/-- A product of two digits and two carries fits in two digits. -/
theorem mul_fits {x y o c : Nat} (hx : x < B) (hy : y < B) (ho : o < B) (hc : c < B) : x * y + o + c < B * B := by
  have h1 : x * y ≤ (B - 1) * (B - 1) := Nat.mul_le_mul (by omega) (by omega)
  have h2 : (B - 1) * (B - 1) + (B - 1) + (B - 1) < B * B := by decide
  omega
theorem carry_fits {t : Nat} (h : t < B * B) : t / B < B := Nat.div_lt_of_lt_mul h

end Hd

/- The borrow of a difference of 32 bits, as the library reckons it from the top bits. -/
namespace Hd
/-- What is borrowed. -/
def brw (x y b : Nat) : Nat := if x < y + b then 1 else 0
theorem top_and (a b : Nat) : (a &&& b) / 2147483648 = a / 2147483648 &&& b / 2147483648 := by
  have := Nat.shiftRight_and_distrib (a := a) (b := b) (i := 31)
  simpa [Nat.shiftRight_eq_div_pow] using this
theorem top_or (a b : Nat) : (a ||| b) / 2147483648 = a / 2147483648 ||| b / 2147483648 := by
  have := Nat.shiftRight_or_distrib (a := a) (b := b) (i := 31)
  simpa [Nat.shiftRight_eq_div_pow] using this
theorem top_xor (a b : Nat) : (a ^^^ b) / 2147483648 = a / 2147483648 ^^^ b / 2147483648 := by
  have := Nat.shiftRight_xor_distrib (a := a) (b := b) (i := 31)
  simpa [Nat.shiftRight_eq_div_pow] using this
theorem brw_bits (x y b d : Nat) (hx : x < 4294967296) (hy : y < 4294967296) (hb : b ≤ 1) (hd : d = (x + 4294967296 - y - b) % 4294967296) :
    (((4294967295 ^^^ x) &&& y) ||| ((4294967295 ^^^ (x ^^^ y)) &&& d)) / 2147483648 = brw x y b := by
  have hd2 : d < 4294967296 := by rw [hd]; exact Nat.mod_lt _ (by decide)
  rw [top_or, top_and, top_and, top_xor, top_xor, top_xor, show 4294967295 / 2147483648 = 1 from rfl]
  have hX : x / 2147483648 = 0 ∨ x / 2147483648 = 1 := by omega
  have hY : y / 2147483648 = 0 ∨ y / 2147483648 = 1 := by omega
  have hD : d / 2147483648 = 0 ∨ d / 2147483648 = 1 := by omega
  unfold brw
  rcases hX with eX | eX <;> rcases hY with eY | eY <;> rcases hD with eD | eD <;> rw [eX, eY, eD] <;> split <;> first | rfl | (exfalso; omega)
end Hd

/- The cipher, plain: words of a block, a round, the round keys. -/
namespace Hd

/-- 2 to the power of 64. -/
def W64 : Nat := 18446744073709551616
/-- A number from its bytes, the highest first. -/
def beN (f : Nat → Nat) : Nat → Nat
  | 0 => 0
  | n + 1 => beN f n * 256 + f n
theorem beN_lt {f : Nat → Nat} : ∀ n, (∀ j, j < n → f j < 256) → beN f n < 256 ^ n
  | 0, _ => by simp [beN]
  | n + 1, h => by
    have := beN_lt n (fun j hj => h j (by omega))
    have h2 := h n (by omega)
    rw [beN, Nat.pow_succ]; omega
theorem beN_congr {f g : Nat → Nat} : ∀ n, (∀ j, j < n → f j = g j) → beN f n = beN g n
  | 0, _ => rfl
  | n + 1, h => by rw [beN, beN, beN_congr n (fun j hj => h j (by omega)), h n (by omega)]
/-- The byte i of a word. -/
def byteN (x i : Nat) : Nat := x / 2 ^ (56 - 8 * i) % 256
theorem byteN_lt (x i : Nat) : byteN x i < 256 := Nat.mod_lt _ (by decide)
theorem beN_byteN (x : Nat) : ∀ n, n ≤ 8 → x < W64 → beN (byteN x) n = x / 2 ^ (64 - 8 * n)
  | 0, _, h => by
    show 0 = _
    rw [Nat.div_eq_of_lt]
    exact h
  | n + 1, hn, h => by
    rw [beN, beN_byteN x n (by omega) h, byteN]
    have e : 64 - 8 * n = (56 - 8 * n) + 8 := by omega
    have e2 : 64 - 8 * (n + 1) = 56 - 8 * n := by omega
    rw [e, e2, Nat.pow_add, ← Nat.div_div_eq_div_mul]
    exact Nat.div_add_mod' _ 256
theorem beN_byteN8 {x : Nat} (h : x < W64) : beN (byteN x) 8 = x := by
  rw [beN_byteN x 8 (by omega) h]; simp

/-- A word rotated left by s bits. -/
def rol (x s : Nat) : Nat := (x * 2 ^ s % W64) ||| (x / 2 ^ (64 - s))
theorem rol_lt {x s : Nat} (h : x < W64) : rol x s < W64 :=
  Nat.or_lt_two_pow (n := 64) (Nat.mod_lt _ (by decide)) (Nat.lt_of_le_of_lt (Nat.div_le_self _ _) h)
/-- The words after a round. -/
def rnd (p : Nat × Nat) (k : Nat) : Nat × Nat :=
  let x := ((rol p.1 56 + p.2) % W64) ^^^ k
  (x, rol p.2 3 ^^^ x)
/-- Both are words. -/
def Wd (p : Nat × Nat) : Prop := p.1 < W64 ∧ p.2 < W64
theorem rnd_wd {p : Nat × Nat} {k : Nat} (h : Wd p) (hk : k < W64) : Wd (rnd p k) := by
  have h1 : ((rol p.1 56 + p.2) % W64) ^^^ k < W64 := Nat.xor_lt_two_pow (n := 64) (Nat.mod_lt _ (by decide)) hk
  exact ⟨h1, Nat.xor_lt_two_pow (n := 64) (rol_lt h.2) h1⟩
/-- The words of a block. -/
def wordsN (K : Nat → Nat) : Nat × Nat := (beN K 8, beN (fun j => K (8 + j)) 8)
/-- Sixteen bytes. -/
def Kb (K : Nat → Nat) : Prop := ∀ j, j < 16 → K j < 256
theorem wordsN_wd {K : Nat → Nat} (h : Kb K) : Wd (wordsN K) :=
  ⟨beN_lt (f := K) 8 (fun j hj => h j (by omega)), beN_lt (f := fun j => K (8 + j)) 8 (fun j hj => h (8 + j) (by omega))⟩
/-- The block of two words. -/
def blockN (p : Nat × Nat) (j : Nat) : Nat := if j < 8 then byteN p.1 j else byteN p.2 (j - 8)
theorem blockN_kb (p : Nat × Nat) : Kb (blockN p) := fun j _ => by
  unfold blockN; split <;> exact byteN_lt _ _
theorem wordsN_blockN {p : Nat × Nat} (h : Wd p) : wordsN (blockN p) = p := by
  have h1 : beN (blockN p) 8 = beN (byteN p.1) 8 := beN_congr 8 (fun j hj => by unfold blockN; rw [if_pos hj])
  have h2 : beN (fun j => blockN p (8 + j)) 8 = beN (byteN p.2) 8 := beN_congr 8 (fun j hj => by
    show blockN p (8 + j) = _
    unfold blockN; rw [if_neg (by omega)]; congr 1; omega)
  unfold wordsN
  rw [h1, h2, beN_byteN8 h.1, beN_byteN8 h.2]
/-- What makes the round keys. -/
def sched (K : Nat → Nat) : Nat → Nat × Nat
  | 0 => wordsN K
  | i + 1 => rnd (sched K i) i
theorem sched_wd {K : Nat → Nat} (h : Kb K) : ∀ i, i ≤ 32 → Wd (sched K i)
  | 0, _ => wordsN_wd h
  | i + 1, hi => rnd_wd (sched_wd h i (by omega)) (by unfold W64; omega)
/-- The words after i rounds. -/
def encN (K : Nat → Nat) (p : Nat × Nat) : Nat → Nat × Nat
  | 0 => p
  | i + 1 => rnd (encN K p i) (sched K i).2
theorem encN_wd {K : Nat → Nat} {p : Nat × Nat} (h : Kb K) (hp : Wd p) : ∀ i, i ≤ 32 → Wd (encN K p i)
  | 0, _ => hp
  | i + 1, hi => rnd_wd (encN_wd h hp i (by omega)) (sched_wd h i (by omega)).2
/-- The word of a tag. -/
@[irreducible] def tagW (tag : Nat) : Nat := tag * 2 ^ 56
/-- The derived key. -/
def derN (K : Nat → Nat) (tag n : Nat) : Nat → Nat := blockN (encN K (tagW tag, n) 32)
/-- The number below most. -/
def numN (K : Nat → Nat) (n most : Nat) : Nat := if most = 0 then 0 else (encN K (tagW 3, n) 32).1 % most
theorem tag_wd {tag n : Nat} (ht : tag < 256) (hn : n < W64) : Wd (tagW tag, n) := ⟨by show tagW tag < W64; unfold W64 tagW; omega, hn⟩
theorem derN_kb (K : Nat → Nat) (tag n : Nat) : Kb (derN K tag n) := blockN_kb _
theorem words_derN {K : Nat → Nat} {tag n : Nat} (h : Kb K) (ht : tag < 256) (hn : n < W64) : wordsN (derN K tag n) = encN K (tagW tag, n) 32 :=
  wordsN_blockN (encN_wd h (tag_wd ht hn) 32 (Nat.le_refl _))
theorem numN_lt {K : Nat → Nat} {n most : Nat} (h : 0 < most) : numN K n most < most := by
  unfold numN; rw [if_neg (by omega)]; exact Nat.mod_lt _ h
theorem or_byte {a b : Nat} (hb : b < 256) : a * 256 ||| b = a * 256 + b := by
  have := Nat.two_pow_add_eq_or_of_lt (i := 8) (b := b) hb a
  rw [show (2 : Nat) ^ 8 = 256 from rfl, Nat.mul_comm 256 a] at this
  exact this.symm
/-- The four ways a rotation is spelled. -/
theorem rol_comm (x s : Nat) : (x / 2 ^ (64 - s)) ||| (x * 2 ^ s % W64) = rol x s := Nat.or_comm _ _
end Hd

/- Numbers shifted by less than a digit. Plain arithmetic, no program. -/
namespace Hd

theorem B_split {s : Nat} (hs : s < 32) : B = 2 ^ (32 - s) * 2 ^ s := by rw [← Nat.pow_add, show 32 - s + s = 32 by omega]; rfl
theorem low_shift {s : Nat} (hs : s < 32) (x : Nat) : x * 2 ^ s % B = x % 2 ^ (32 - s) * 2 ^ s := by rw [B_split hs, Nat.mul_mod_mul_right]
theorem or_shift {s c : Nat} (hs : s < 32) (hc : c < 2 ^ s) (x : Nat) : c ||| (x * 2 ^ s % B) = c + x * 2 ^ s % B := by
  rw [low_shift hs, Nat.mul_comm, Nat.or_comm, ← Nat.two_pow_add_eq_or_of_lt hc, Nat.add_comm]
theorem high_shift {s x : Nat} (hx : x < B) : x * 2 ^ s / B < 2 ^ s := by
  rw [Nat.div_lt_iff_lt_mul B_pos, Nat.mul_comm]
  exact Nat.mul_lt_mul_of_pos_left hx (Nat.two_pow_pos s)
theorem sum_shift {s c : Nat} (hs : s < 32) (hc : c < 2 ^ s) (x : Nat) : c + x * 2 ^ s % B < B := by
  rw [low_shift hs]
  have h1 : x % 2 ^ (32 - s) < 2 ^ (32 - s) := Nat.mod_lt _ (Nat.two_pow_pos _)
  have h2 : (x % 2 ^ (32 - s) + 1) * 2 ^ s ≤ 2 ^ (32 - s) * 2 ^ s := Nat.mul_le_mul_right _ h1
  rw [← B_split hs, Nat.add_mul, Nat.one_mul] at h2
  omega

/-- The digits of a number divided by 2^s. -/
def shr (f : Nat → Nat) (s k : Nat) : Nat := (f (k + 1) * B + f k) / 2 ^ s % B

theorem shr_step {f0 f1 R s : Nat} (hs : s < 32) (h0 : f0 < B) (h1 : f1 = R % B) : (f0 + B * R) / 2 ^ s = (f1 * B + f0) / 2 ^ s % B + B * (R / 2 ^ s) := by
  have hp : 0 < 2 ^ s := Nat.two_pow_pos s
  have ht : R % 2 ^ s < 2 ^ s := Nat.mod_lt _ hp
  have hm : (f0 + B * (R % 2 ^ s)) / 2 ^ s < B := by
    rw [Nat.div_lt_iff_lt_mul hp]
    have : B * (R % 2 ^ s + 1) ≤ B * 2 ^ s := Nat.mul_le_mul_left _ ht
    rw [Nat.mul_add] at this
    omega
  have e1 : f0 + B * R = f0 + B * (R % 2 ^ s) + 2 ^ s * (B * (R / 2 ^ s)) := by
    have := Nat.div_add_mod R (2 ^ s)
    have e : B * R = B * (2 ^ s * (R / 2 ^ s) + R % 2 ^ s) := by rw [this]
    rw [Nat.mul_add] at e
    have e3 : B * (2 ^ s * (R / 2 ^ s)) = 2 ^ s * (B * (R / 2 ^ s)) := by rw [← Nat.mul_assoc, Nat.mul_comm B, Nat.mul_assoc]
    omega
  have ef : f1 % 2 ^ s = R % 2 ^ s := by
    rw [h1, B_split hs, Nat.mod_mul_left_mod]
  have e2 : f1 * B + f0 = f0 + B * (R % 2 ^ s) + 2 ^ s * (B * (f1 / 2 ^ s)) := by
    have := Nat.div_add_mod f1 (2 ^ s)
    rw [ef] at this
    have e : f1 * B = (2 ^ s * (f1 / 2 ^ s) + R % 2 ^ s) * B := by rw [this]
    rw [Nat.add_mul, Nat.mul_comm (R % 2 ^ s)] at e
    have e3 : 2 ^ s * (f1 / 2 ^ s) * B = 2 ^ s * (B * (f1 / 2 ^ s)) := by rw [Nat.mul_assoc, Nat.mul_comm (f1 / 2 ^ s)]
    omega
  rw [e1, e2, Nat.add_mul_div_left _ _ hp, Nat.add_mul_div_left _ _ hp, Nat.add_mul_mod_self_left, Nat.mod_eq_of_lt hm]

theorem val_shr {s : Nat} (hs : s < 32) : ∀ (n : Nat) (f : Nat → Nat), (∀ j, f j < B) → f n = 0 → val (shr f s) n = val f n / 2 ^ s
  | 0, f, _, _ => by simp [val]
  | n + 1, f, hf, hz => by
    have ih := val_shr hs n (fun j => f (j + 1)) (fun j => hf _) hz
    rw [val_shift (shr f s), val_shift f]
    have e : val (fun j => shr f s (j + 1)) n = val (shr (fun j => f (j + 1)) s) n := rfl
    rw [e, ih]
    symm
    refine shr_step hs (hf 0) ?_
    rcases n with _ | n
    · simpa [val] using hz
    · rw [val_shift, Nat.add_mul_mod_self_left, Nat.mod_eq_of_lt (hf _)]
end Hd

/- Long division by digits (Knuth's algorithm D): the estimate of a digit, and what a round leaves. Plain arithmetic, no program. -/
namespace Hd

/-- The dividend's and the divisor's highest digits, and what stands below them (at B ^ k). -/
structure Head (U V top next high p2 ul vl k : Nat) : Prop where
  v : V = (top * B + next) * B ^ k + vl
  u : U = (high * B + p2) * B ^ k + ul
  vl : vl < B ^ k
  ul : ul < B ^ k

variable {U V top next high p2 ul vl k x r : Nat}

theorem Head.vpos (h : Head U V top next high p2 ul vl k) (ht : 0 < top) : 0 < V := by
  have h1 : 1 * B ^ k ≤ (top * B + next) * B ^ k := Nat.mul_le_mul_right _ (by have := Nat.mul_le_mul_right B ht; have := B_pos; omega)
  have := Bpow_pos k
  have := h.v
  omega

/-- Too great an estimate is above the digit. -/
theorem Head.dec (h : Head U V top next high p2 ul vl k) (ht : 0 < top) (hx : x * top + r = high) (ht2 : r * B + p2 < x * next) : U / V < x := by
  have hv := h.vpos ht
  rw [Nat.div_lt_iff_lt_mul hv]
  have h1 : (high * B + p2 + 1) * B ^ k ≤ (x * (top * B + next)) * B ^ k := by
    refine Nat.mul_le_mul_right _ ?_
    have e1 : x * (top * B + next) = x * top * B + x * next := by rw [Nat.mul_add, Nat.mul_assoc]
    have e2 : high * B = x * top * B + r * B := by rw [← hx, Nat.add_mul]
    omega
  have h2 : x * V = x * (top * B + next) * B ^ k + x * vl := by rw [h.v, Nat.mul_add, Nat.mul_assoc]
  have h3 := h.ul
  have h4 := h.u
  rw [Nat.add_mul, Nat.one_mul] at h1
  omega

/-- An estimate that passes the test is at most one too great. -/
theorem Head.done (h : Head U V top next high p2 ul vl k) (ht : 0 < top) (hx : x * top + r = high) (ht2 : x * next ≤ r * B + p2) (hxB : x < B) : x ≤ U / V + 1 := by
  have hv := h.vpos ht
  have h0 : (x - 1) * V ≤ U := by
    have h1 : x * (top * B + next) * B ^ k ≤ (high * B + p2) * B ^ k := by
      refine Nat.mul_le_mul_right _ ?_
      have e1 : x * (top * B + next) = x * top * B + x * next := by rw [Nat.mul_add, Nat.mul_assoc]
      have e2 : high * B = x * top * B + r * B := by rw [← hx, Nat.add_mul]
      omega
    have h2 : x * V = x * (top * B + next) * B ^ k + x * vl := by rw [h.v, Nat.mul_add, Nat.mul_assoc]
    have h3 : x * vl ≤ B * B ^ k := Nat.mul_le_mul (Nat.le_of_lt hxB) (Nat.le_of_lt h.vl)
    have h4 : B * B ^ k ≤ V := by
      have : B * B ^ k ≤ (top * B + next) * B ^ k := Nat.mul_le_mul_right _ (by have := Nat.mul_le_mul_right B ht; omega)
      have := h.v
      omega
    have h5 := h.u
    rw [Nat.sub_mul, Nat.one_mul]
    omega
  have := (Nat.le_div_iff_mul_le hv).2 h0
  omega

/-- With so great a rest the test passes by itself. -/
theorem test_passes (hx : x < B) (hn : next < B) (hr : B ≤ r) : x * next ≤ r * B + p2 := by
  have : x * next ≤ B * B := Nat.mul_le_mul (by omega) (by omega)
  have : B * B ≤ r * B := Nat.mul_le_mul_right _ hr
  omega

/-- So great a rest: the estimate is a digit. -/
theorem est_digit (hx : x * top + r = high) (hh : high < top * B + B) (hr : B ≤ r) : x < B := by
  have h1 : x * top < B * top := by
    have := Nat.mul_comm top B
    omega
  exact Nat.lt_of_mul_lt_mul_right h1

theorem digit_lt (h : U < V * B) : U / V < B := Nat.div_lt_of_lt_mul h

/-- Where the estimate was right, and where it was one too great. -/
theorem round_right {q out b : Nat} {M : Nat} (hV : 0 < V) (h : U + b * M = out + x * V) (hb : b = 0) (hq : q = U / V) (hx : q ≤ x) : x = q ∧ out = U % V := by
  subst hb hq
  have h1 : x ≤ U / V := (Nat.le_div_iff_mul_le hV).2 (by omega)
  have hxq : x = U / V := by omega
  refine ⟨hxq, ?_⟩
  have := Nat.div_add_mod U V
  have e := Nat.mul_comm (U / V) V
  rw [hxq] at h
  omega
theorem round_back {q out out' c : Nat} {M : Nat} (hV : 0 < V) (h : U + M = out + x * V) (ho : out < M) (hVM : V ≤ M) (hg : out + V = out' + c * M) (ho' : out' < M) (hq : q = U / V) (hx : x ≤ q + 1) :
    x = q + 1 ∧ out' = U % V := by
  subst hq
  have hxq : x = U / V + 1 := by
    rcases Nat.lt_or_ge (U / V) x with h1 | h1
    · omega
    · have := (Nat.le_div_iff_mul_le hV).1 h1
      omega
  refine ⟨hxq, ?_⟩
  have h1 := Nat.div_add_mod U V
  have h2 := Nat.mod_lt U hV
  have e := Nat.mul_comm (U / V) V
  rw [hxq, Nat.add_mul, Nat.one_mul] at h
  have hc : c = 1 := by
    rcases Nat.lt_or_ge c 1 with h3 | h3
    · obtain rfl : c = 0 := by omega
      omega
    · rcases Nat.lt_or_ge c 2 with h4 | h4
      · omega
      · have : 2 * M ≤ c * M := Nat.mul_le_mul_right _ h4
        omega
  subst hc
  omega

/-- A round of the subtraction of x times v: bo the borrow, c the carry. -/
theorem subtract_round {p v o low c c' bo bo' P W O : Nat} (i : Nat) (h : P + bo * B ^ i + c * B ^ i = O + x * W) (hl : low = (x * v + c) % B) (hc : c' = (x * v + c) / B) (hs : o + low + bo = p + bo' * B) :
    P + p * B ^ i + bo' * B ^ (i + 1) + c' * B ^ (i + 1) = O + o * B ^ i + x * (W + v * B ^ i) := by
  have hd : x * v + c = B * c' + low := by rw [hl, hc]; exact (Nat.div_add_mod _ _).symm
  have h1 : (x * v + c) * B ^ i = (B * c' + low) * B ^ i := by rw [hd]
  have h2 : (o + low + bo) * B ^ i = (p + bo' * B) * B ^ i := by rw [hs]
  rw [Nat.add_mul, Nat.add_mul] at h1 h2
  rw [Nat.add_mul] at h2
  have h3 : c' * B ^ (i + 1) = B * c' * B ^ i := by rw [Nat.pow_succ, Nat.mul_comm (B ^ i) B, ← Nat.mul_assoc, Nat.mul_comm c' B]
  have h4 : bo' * B ^ (i + 1) = bo' * B * B ^ i := by rw [Nat.pow_succ, Nat.mul_comm (B ^ i) B, ← Nat.mul_assoc]
  have h5 : x * (W + v * B ^ i) = x * W + x * v * B ^ i := by rw [Nat.mul_add, Nat.mul_assoc]
  omega

/-- A round of giving v back: c the carry. -/
theorem back_round {p v o c c' P W O : Nat} (i : Nat) (h : P + W = O + c * B ^ i) (hs : p + v + c = o + c' * B) : P + p * B ^ i + (W + v * B ^ i) = O + o * B ^ i + c' * B ^ (i + 1) := by
  have h2 : (p + v + c) * B ^ i = (o + c' * B) * B ^ i := by rw [hs]
  rw [Nat.add_mul, Nat.add_mul, Nat.add_mul] at h2
  have h4 : c' * B ^ (i + 1) = c' * B * B ^ i := by rw [Nat.pow_succ, Nat.mul_comm (B ^ i) B, ← Nat.mul_assoc]
  omega

/-- From one round of the division to the next: Q the quotient's digits so far, R the rest of the higher digits. -/
theorem next_round {A Q R V d : Nat} (hA : A = Q * V + R) : A * B + d = (Q * B + (R * B + d) / V) * V + (R * B + d) % V := by
  have h1 := Nat.div_add_mod (R * B + d) V
  rw [hA, Nat.add_mul, Nat.add_mul]
  have e : Q * V * B = Q * B * V := by rw [Nat.mul_assoc, Nat.mul_comm V B, ← Nat.mul_assoc]
  have e2 : (R * B + d) / V * V = V * ((R * B + d) / V) := Nat.mul_comm _ _
  omega

theorem div_of {A Q R V : Nat} (h : A = Q * V + R) (hR : R < V) : Q = A / V ∧ R = A % V := by
  have hV : 0 < V := by omega
  constructor
  · rw [h, Nat.add_comm, Nat.add_mul_div_right _ _ hV, Nat.div_eq_of_lt hR]; omega
  · rw [h, Nat.add_comm, Nat.add_mul_mod_self_right, Nat.mod_eq_of_lt hR]

/-- Division of shifted numbers. -/
theorem div_shift (a b s : Nat) (hs : 0 < s) : a * s / (b * s) = a / b ∧ a * s % (b * s) / s = a % b := by
  constructor
  · exact Nat.mul_div_mul_right _ _ hs
  · rw [Nat.mul_mod_mul_right, Nat.mul_div_cancel _ hs]

end Hd

/- Long division: the state between two rounds. Plain arithmetic, no program. -/
namespace Hd

/-- u0: the shifted dividend (n + 1 digits); v: the shifted divisor (m digits); p: what is left of the dividend; o: the quotient's digits; j rounds are left. -/
structure DivAt (n m : Nat) (u0 v p o : Nat → Nat) (j : Nat) : Prop where
  plt : ∀ i, i < n + 1 → p i < B
  olt : ∀ i, i < n + 1 - m → o i < B
  low : ∀ i, i < j → p i = u0 i
  high : ∀ i, j + m ≤ i → i < n + 1 → p i = 0
  rest : val (fun i => p (j + i)) m < val v m
  eq : val (fun i => u0 (j + i)) (n + 1 - j) = val (fun i => o (j + i)) (n + 1 - m - j) * val v m + val (fun i => p (j + i)) m

theorem DivAt.start {n m : Nat} {u0 v : Nat → Nat} (hm : m ≤ n) (h : ∀ i, i < n + 1 → u0 i < B) (hr : val (fun i => u0 (n + 1 - m + i)) m < val v m) : DivAt n m u0 v u0 (fun _ => 0) (n + 1 - m) where
  plt := h
  olt := fun _ _ => B_pos
  low := fun _ _ => rfl
  high := fun i h1 h2 => by omega
  rest := hr
  eq := by
    rw [show n + 1 - (n + 1 - m) = m by omega, Nat.sub_self, val_zero, Nat.zero_mul, Nat.zero_add]

/-- The digits that a round works on. -/
def P (p : Nat → Nat) (t m : Nat) : Nat := val (fun i => p (t + i)) (m + 1)

theorem DivAt.part {n m t : Nat} {u0 v p o : Nat → Nat} (h : DivAt n m u0 v p o (t + 1)) : P p t m = p t + B * val (fun i => p (t + 1 + i)) m := by
  unfold P
  rw [val_shift]
  have e : (fun j => p (t + (j + 1))) = fun i => p (t + 1 + i) := by funext j; rw [Nat.add_right_comm t 1 j, Nat.add_assoc]
  rw [e, Nat.add_zero]
theorem DivAt.part_lt {n m t : Nat} {u0 v p o : Nat → Nat} (h : DivAt n m u0 v p o (t + 1)) (ht : t + m < n + 1) : P p t m < val v m * B := by
  rw [h.part]
  have h1 := h.plt t (by omega)
  have h2 : B * (val (fun i => p (t + 1 + i)) m + 1) ≤ B * val v m := Nat.mul_le_mul_left _ h.rest
  rw [Nat.mul_add, Nat.mul_one, Nat.mul_comm B (val v m)] at h2
  omega

theorem DivAt.next {n m t : Nat} {u0 v p o p' : Nat → Nat} (h : DivAt n m u0 v p o (t + 1)) (ht : t + m < n + 1) (hV : 0 < val v m) (hVm : val v m < B ^ m) (hp : ∀ i, i < n + 1 → p' i < B) (hout : ∀ i, i < t ∨ t + (m + 1) ≤ i → p' i = p i)
    (hval : val (fun i => p' (t + i)) (m + 1) = P p t m % val v m) : DivAt n m u0 v p' (upd o t (P p t m / val v m)) t := by
  have hmod := Nat.mod_lt (P p t m) hV
  have htop : p' (t + m) = 0 := by
    rcases Nat.eq_zero_or_pos (p' (t + m)) with h0 | h0
    · exact h0
    · rw [val_succ] at hval
      have : 1 * B ^ m ≤ p' (t + m) * B ^ m := Nat.mul_le_mul_right _ h0
      omega
  have hv2 : val (fun i => p' (t + i)) m = P p t m % val v m := by
    rw [val_succ] at hval
    rw [← hval]
    simp [htop]
  refine ⟨hp, ?_, ?_, ?_, ?_, ?_⟩
  · exact upd_lt h.olt (digit_lt (h.part_lt ht))
  · intro i hi
    rw [hout i (by omega)]
    exact h.low i (by omega)
  · intro i h1 h2
    by_cases e : i = t + m
    · rw [e]; exact htop
    · rw [hout i (by omega)]
      exact h.high i (by omega) h2
  · rw [hv2]; exact hmod
  · rw [hv2, show n + 1 - t = (n - t) + 1 by omega, val_shift, show n + 1 - m - t = (n - m - t) + 1 by omega, val_shift]
    have e1 : (fun j => u0 (t + (j + 1))) = fun i => u0 (t + 1 + i) := by funext j; rw [Nat.add_right_comm t 1 j, Nat.add_assoc]
    have e2 : val (fun j => upd o t (P p t m / val v m) (t + (j + 1))) (n - m - t) = val (fun i => o (t + 1 + i)) (n - m - t) := val_congr fun j _ => by
      rw [upd_other _ _ (by omega)]; congr 1; omega
    have h3 := h.eq
    rw [show n + 1 - (t + 1) = n - t by omega, show n + 1 - m - (t + 1) = n - m - t by omega] at h3
    rw [e1, e2, Nat.add_zero, upd_same]
    have h4 := h.part
    have h5 := h.low t (by omega)
    rw [h5] at h4
    have h6 := next_round (d := u0 t) h3
    rw [Nat.mul_comm (val (fun i => p (t + 1 + i)) m) B, Nat.add_comm (B * val (fun i => p (t + 1 + i)) m) (u0 t), ← h4] at h6
    rw [Nat.mul_comm B, Nat.add_comm, h6, Nat.add_comm (P p t m / val v m), Nat.mul_comm B]

/-- At the end. -/
theorem DivAt.done {n m : Nat} {u0 v p o : Nat → Nat} (h : DivAt n m u0 v p o 0) (hm : m ≤ n + 1) : val o (n + 1 - m) = val u0 (n + 1) / val v m ∧ val p (n + 1) = val u0 (n + 1) % val v m := by
  have h1 := h.eq
  have h2 := h.rest
  have e : ∀ f : Nat → Nat, (fun i => f (0 + i)) = f := fun f => by funext i; rw [Nat.zero_add]
  simp only [e, Nat.sub_zero] at h1 h2
  obtain ⟨q1, q2⟩ := div_of h1 h2
  refine ⟨q1, ?_⟩
  rw [← q2]
  exact val_more (by omega) fun j h3 h4 => h.high j (by omega) h4

theorem P_head {n m t : Nat} {v p : Nat → Nat} (hp : ∀ i, i < n + 1 → p i < B) (hv : ∀ i, i < m → v i < B) (hm : 2 ≤ m) (ht : t + m < n + 1) :
    Head (P p t m) (val v m) (v (m - 1)) (v (m - 2)) (p (t + m) * B + p (t + (m - 1))) (p (t + (m - 2))) (val (fun i => p (t + i)) (m - 2)) (val v (m - 2)) (m - 2) := by
  obtain ⟨k, rfl⟩ : ∃ k, m = k + 2 := ⟨m - 2, by omega⟩
  have e1 : B ^ (k + 1) = B * B ^ k := by rw [Nat.pow_succ, Nat.mul_comm]
  have e2 : B ^ (k + 2) = B * B * B ^ k := by rw [Nat.pow_succ, e1, Nat.mul_comm _ B, Nat.mul_assoc]
  refine ⟨?_, ?_, val_lt fun j hj => hv j (by omega), val_lt fun j hj => hp _ (by omega)⟩
  · simp only [Nat.add_sub_cancel, show k + 2 - 1 = k + 1 by omega]
    rw [val_succ, val_succ, e1, Nat.add_mul, Nat.mul_assoc]
    omega
  · unfold P
    simp only [Nat.add_sub_cancel, show k + 2 - 1 = k + 1 by omega]
    rw [val_succ, val_succ, val_succ, e1, e2, Nat.add_mul, Nat.add_mul, Nat.add_mul, Nat.mul_assoc, Nat.mul_assoc, Nat.mul_assoc, Nat.mul_assoc]
    omega

theorem DivAt.top_le {n m t : Nat} {u0 v p o : Nat → Nat} (h : DivAt n m u0 v p o (t + 1)) (hv : ∀ i, i < m → v i < B) (hm : 2 ≤ m) : p (t + m) ≤ v (m - 1) := by
  rcases Nat.lt_or_ge (v (m - 1)) (p (t + m)) with h1 | h1
  · have hr := h.rest
    obtain ⟨k, rfl⟩ : ∃ k, m = k + 1 := ⟨m - 1, by omega⟩
    rw [val_succ, val_succ] at hr
    simp only [Nat.add_sub_cancel] at h1
    have h2 : (v k + 1) * B ^ k ≤ p (t + 1 + k) * B ^ k := Nat.mul_le_mul_right _ (by rw [show t + 1 + k = t + (k + 1) by omega]; exact h1)
    have h3 : val v k < B ^ k := val_lt fun j hj => hv j (by omega)
    rw [Nat.add_mul] at h2
    omega
  · exact h1

/-- The first estimate is not too small. -/
theorem est_start {U V top next high p2 ul vl k : Nat} (h : Head U V top next high p2 ul vl k) (ht : 0 < top) (h2 : p2 < B) : U / V ≤ high / top := by
  rw [Nat.le_div_iff_mul_le ht]
  have h1 : U / V * V ≤ U := Nat.div_mul_le_self U V
  have h3 : U < (high + 1) * (B * B ^ k) := by
    have h4 : (p2 + 1) * B ^ k ≤ B * B ^ k := Nat.mul_le_mul_right _ h2
    rw [Nat.add_mul, Nat.one_mul] at h4
    have := h.ul
    rw [h.u, Nat.add_mul, Nat.add_mul high 1, Nat.one_mul, Nat.mul_assoc]
    omega
  have h4 : U / V * (top * (B * B ^ k)) ≤ U / V * V := by
    refine Nat.mul_le_mul_left _ ?_
    rw [h.v, Nat.add_mul, ← Nat.mul_assoc]
    omega
  have h5 : U / V * top * (B * B ^ k) < (high + 1) * (B * B ^ k) := by rw [Nat.mul_assoc]; omega
  have := Nat.lt_of_mul_lt_mul_right h5
  omega

/-- What holds at the head of the estimate's loop. -/
structure Est (U V top high x r : Nat) : Prop where
  eq : x * top + r = high
  le : U / V ≤ x
  lt : r < B
theorem Est.start {U V top next high p2 ul vl k : Nat} (h : Head U V top next high p2 ul vl k) (ht : 0 < top) (h2 : p2 < B) (htB : top < B) : Est U V top high (high / top) (high % top) :=
  ⟨by have := Nat.div_add_mod high top; rw [Nat.mul_comm]; exact this, est_start h ht h2, Nat.lt_trans (Nat.mod_lt _ ht) htB⟩
/-- An estimate that may be taken. -/
def Took (U V x : Nat) : Prop := U / V ≤ x ∧ x ≤ U / V + 1 ∧ x < B
theorem Est.took {U V top next high p2 ul vl k x r : Nat} (h : Head U V top next high p2 ul vl k) (ht : 0 < top) (e : Est U V top high x r) (hx : x < B) (ht2 : x * next ≤ r * B + p2) : Took U V x :=
  ⟨e.le, h.done ht e.eq ht2 hx, hx⟩
/-- A round: the estimate was too great. -/
theorem Est.less {U V top next high p2 ul vl k x r : Nat} (h : Head U V top next high p2 ul vl k) (ht : 0 < top) (hU : U < V * B) (e : Est U V top high x r) (hf : B ≤ x ∨ r * B + p2 < x * next) : 1 ≤ x ∧ (x - 1) * top + (r + top) = high ∧ U / V ≤ x - 1 := by
  have hlt : U / V < x := by
    rcases hf with hf | hf
    · exact Nat.lt_of_lt_of_le (digit_lt hU) hf
    · exact h.dec ht e.eq hf
  generalize U / V = q at hlt
  obtain ⟨y, rfl⟩ : ∃ y, x = y + 1 := ⟨x - 1, by omega⟩
  refine ⟨by omega, ?_, by omega⟩
  have h1 := e.eq
  rw [Nat.add_mul] at h1
  rw [Nat.add_sub_cancel]
  omega
theorem Est.over {U V top next high p2 ul vl k x r : Nat} (h : Head U V top next high p2 ul vl k) (ht : 0 < top) (hn : next < B) (hh : high < top * B + B) (e : x * top + r = high) (hle : U / V ≤ x) (hr : B ≤ r) : Took U V x := by
  have hx : x < B := est_digit e hh hr
  exact ⟨hle, h.done ht e (test_passes hx hn hr) hx, hx⟩
end Hd

/- Division bit by bit: what a round leaves. Plain arithmetic, no program. -/
namespace Hd

theorem Bpow_two (t : Nat) : B ^ t = 2 ^ (32 * t) := by rw [Nat.pow_mul]; rfl

theorem div_two_pow (x i : Nat) : x / 2 ^ i = 2 * (x / 2 ^ (i + 1)) + x / 2 ^ i % 2 := by
  have h : x / 2 ^ (i + 1) = x / 2 ^ i / 2 := by rw [Nat.pow_succ, Nat.div_div_eq_div_mul]
  rw [h]; omega

/-- A bit of a number is a bit of one of its digits. -/
theorem bit_val {f : Nat → Nat} {n t s : Nat} (hs : s < 32) (ht : t < n) (hf : ∀ j, j < n → f j < B) : val f n / 2 ^ (32 * t + s) % 2 = f t / 2 ^ s % 2 := by
  obtain ⟨d, rfl⟩ : ∃ d, n = t + (d + 1) := ⟨n - t - 1, by omega⟩
  have h1 : val f t < B ^ t := val_lt fun j hj => hf j (by omega)
  rw [val_split, val_shift, Nat.pow_add, ← Nat.div_div_eq_div_mul, ← Bpow_two, Nat.add_mul_div_left _ _ (Bpow_pos t), Nat.div_eq_of_lt h1, Nat.zero_add, Nat.add_zero]
  generalize val (fun j => f (t + (j + 1))) d = R
  have e : B * R = 2 ^ s * (2 * (2 ^ (31 - s) * R)) := by
    have : B = 2 ^ s * (2 * 2 ^ (31 - s)) := by
      rw [← Nat.pow_succ', ← Nat.pow_add, show s + (31 - s).succ = 32 by omega]; rfl
    rw [this]
    simp only [Nat.mul_assoc]
  rw [e, Nat.add_mul_div_left _ _ (Nat.two_pow_pos s)]
  omega

theorem val_add_at (f : Nat → Nat) (e : Nat) {t n : Nat} (h : t < n) : val (upd f t (f t + e)) n = val f n + e * B ^ t := by
  induction n with
  | zero => omega
  | succ n ih =>
    rw [val_succ, val_succ]
    by_cases hn : t = n
    · subst hn
      rw [val_upd_ge _ _ (Nat.le_refl _), upd_same, Nat.add_mul]; omega
    · rw [ih (by omega), upd_other _ _ (by omega : n ≠ t)]; omega

/-- The bits below m are not set. -/
def Lo (q : Nat → Nat) (n m : Nat) : Prop := ∀ j, j < n → 2 ^ (min 32 (m - 32 * j)) ∣ q j

theorem Lo.zero (n m : Nat) : Lo (fun _ => 0) n m := fun _ _ => Nat.dvd_zero _
theorem Lo.mono {q : Nat → Nat} {n m k : Nat} (h : Lo q n m) (hk : k ≤ m) : Lo q n k := fun j hj =>
  Nat.dvd_trans (Nat.pow_dvd_pow 2 (by omega)) (h j hj)

theorem Lo.room {q : Nat → Nat} {n t s : Nat} (h : Lo q n (32 * t + s + 1)) (hs : s < 32) (ht : t < n) (hq : q t < B) : q t + 2 ^ s < B := by
  have h1 := h t ht
  rw [show min 32 (32 * t + s + 1 - 32 * t) = s + 1 by omega] at h1
  obtain ⟨c, hc⟩ := h1
  have e : B = 2 ^ (s + 1) * 2 ^ (31 - s) := by rw [← Nat.pow_add, show s + 1 + (31 - s) = 32 by omega]; rfl
  rw [hc] at hq ⊢
  rw [e] at hq
  have h2 : c < 2 ^ (31 - s) := Nat.lt_of_mul_lt_mul_left hq
  have h3 : 2 ^ (s + 1) * (c + 1) ≤ B := by rw [e]; exact Nat.mul_le_mul_left _ h2
  rw [Nat.mul_add, Nat.mul_one] at h3
  have h4 : 2 ^ s < 2 ^ (s + 1) := Nat.pow_lt_pow_right (by omega) (by omega)
  omega

theorem Lo.set {q : Nat → Nat} {n t s : Nat} (h : Lo q n (32 * t + s + 1)) (hs : s < 32) : Lo (upd q t (q t + 2 ^ s)) n (32 * t + s) := fun j hj => by
  unfold upd
  split
  · rename_i e
    subst e
    have h1 := h j hj
    rw [show min 32 (32 * j + s + 1 - 32 * j) = s + 1 by omega] at h1
    rw [show min 32 (32 * j + s - 32 * j) = s by omega]
    exact Nat.dvd_add (Nat.dvd_trans (Nat.pow_dvd_pow 2 (by omega)) h1) (Nat.dvd_refl _)
  · exact Nat.dvd_trans (Nat.pow_dvd_pow 2 (by omega)) (h j hj)

/-- A round of the division bit by bit: X is divided by b; Q and r: the quotient and the rest of the bits from i + 1 on. -/
theorem bit_round {X Q r b i : Nat} (h : X / 2 ^ (i + 1) = Q * b + r) : X / 2 ^ i = 2 * Q * b + (2 * r + X / 2 ^ i % 2) := by
  rw [div_two_pow X i, h, Nat.mul_add, Nat.mul_assoc]
  omega
theorem bit_round_up {X Q r b i : Nat} (h : X / 2 ^ (i + 1) = Q * b + r) (hb : b ≤ 2 * r + X / 2 ^ i % 2) : X / 2 ^ i = (2 * Q + 1) * b + (2 * r + X / 2 ^ i % 2 - b) := by
  have := bit_round h
  rw [Nat.add_mul, Nat.one_mul]
  omega

/-- The digits from k on. -/
theorem val_top {f : Nat → Nat} {k d : Nat} (hf : ∀ j, j < k + d → f j < B) : val f (k + d) / B ^ k = val (fun j => f (k + j)) d := by
  have h1 : val f k < B ^ k := val_lt fun j hj => hf j (by omega)
  rw [val_split, Nat.add_mul_div_left _ _ (Bpow_pos k), Nat.div_eq_of_lt h1, Nat.zero_add]
end Hd

/- Sums, numbers of choices, Vandermonde's sum, the symmetry of the tails. Plain arithmetic, no program. -/
namespace Hd

/-- The sum of f 0 to f (n - 1). -/
def sum (f : Nat → Nat) : Nat → Nat
  | 0 => 0
  | n + 1 => sum f n + f n
theorem sum_succ (f : Nat → Nat) (n : Nat) : sum f (n + 1) = sum f n + f n := rfl
theorem sum_congr {f g : Nat → Nat} {n : Nat} (h : ∀ i, i < n → f i = g i) : sum f n = sum g n := by
  induction n with
  | zero => rfl
  | succ n ih => rw [sum_succ, sum_succ, ih (fun i hi => h i (by omega)), h n (by omega)]
theorem sum_zero {f : Nat → Nat} {n : Nat} (h : ∀ i, i < n → f i = 0) : sum f n = 0 := by
  induction n with
  | zero => rfl
  | succ n ih => rw [sum_succ, ih (fun i hi => h i (by omega)), h n (by omega)]
theorem sum_add (f g : Nat → Nat) (n : Nat) : sum (fun i => f i + g i) n = sum f n + sum g n := by
  induction n with
  | zero => rfl
  | succ n ih => rw [sum_succ, sum_succ, sum_succ, ih]; omega
theorem sum_mul (f : Nat → Nat) (c n : Nat) : sum (fun i => c * f i) n = c * sum f n := by
  induction n with
  | zero => rfl
  | succ n ih => rw [sum_succ, sum_succ, ih, Nat.mul_add]
theorem sum_head (f : Nat → Nat) (n : Nat) : sum f (n + 1) = f 0 + sum (fun i => f (i + 1)) n := by
  induction n with
  | zero => simp [sum]
  | succ n ih => rw [sum_succ, ih, sum_succ]; omega
theorem sum_split (f : Nat → Nat) (k n : Nat) : sum f (k + n) = sum f k + sum (fun i => f (k + i)) n := by
  induction n with
  | zero => simp [sum]
  | succ n ih => rw [← Nat.add_assoc, sum_succ, ih, sum_succ]; omega
theorem sum_le {f g : Nat → Nat} {n : Nat} (h : ∀ i, i < n → f i ≤ g i) : sum f n ≤ sum g n := by
  induction n with
  | zero => exact Nat.le_refl _
  | succ n ih =>
    have := ih (fun i hi => h i (by omega))
    have := h n (by omega)
    rw [sum_succ, sum_succ]; omega
theorem sum_le_sum (f : Nat → Nat) {n m : Nat} (h : n ≤ m) : sum f n ≤ sum f m := by
  obtain ⟨d, rfl⟩ : ∃ d, m = n + d := ⟨m - n, by omega⟩
  rw [sum_split]; omega
theorem sum_rev (f : Nat → Nat) (n : Nat) : sum (fun i => f (n - 1 - i)) n = sum f n := by
  induction n with
  | zero => rfl
  | succ n ih =>
    rw [sum_head, sum_succ]
    have : sum (fun i => f (n + 1 - 1 - (i + 1))) n = sum (fun i => f (n - 1 - i)) n := sum_congr fun i hi => by
      show f (n + 1 - 1 - (i + 1)) = f (n - 1 - i)
      congr 1; omega
    rw [this, ih]
    simp only [Nat.add_sub_cancel, Nat.sub_zero]
    omega

/-- The number of ways to chs k of n things. -/
def chs : Nat → Nat → Nat
  | _, 0 => 1
  | 0, _ + 1 => 0
  | n + 1, k + 1 => chs n k + chs n (k + 1)
theorem choose_zero (n : Nat) : chs n 0 = 1 := by cases n <;> rfl
theorem choose_none (k : Nat) : chs 0 (k + 1) = 0 := rfl
theorem choose_succ (n k : Nat) : chs (n + 1) (k + 1) = chs n k + chs n (k + 1) := rfl
theorem choose_over {n k : Nat} (h : n < k) : chs n k = 0 := by
  induction n generalizing k with
  | zero =>
    obtain ⟨j, rfl⟩ : ∃ j, k = j + 1 := ⟨k - 1, by omega⟩
    rfl
  | succ n ih =>
    obtain ⟨j, rfl⟩ : ∃ j, k = j + 1 := ⟨k - 1, by omega⟩
    rw [choose_succ, ih (by omega), ih (by omega)]
theorem choose_self (n : Nat) : chs n n = 1 := by
  induction n with
  | zero => rfl
  | succ n ih => rw [choose_succ, ih, choose_over (by omega)]
theorem choose_pos {n k : Nat} (h : k ≤ n) : 0 < chs n k := by
  induction n generalizing k with
  | zero => obtain rfl : k = 0 := by omega
            simp [chs]
  | succ n ih =>
    cases k with
    | zero => simp [chs]
    | succ k => rw [choose_succ]; have := ih (k := k) (by omega); omega
theorem choose_le (n k : Nat) : chs n k ≤ 2 ^ n := by
  induction n generalizing k with
  | zero => cases k <;> simp [chs]
  | succ n ih =>
    cases k with
    | zero => simp [choose_zero, Nat.one_le_two_pow]
    | succ k => rw [choose_succ, Nat.pow_succ]; have := ih k; have := ih (k + 1); omega

/-- From one number of choices to the next. -/
theorem choose_next (n k : Nat) : chs n (k + 1) * (k + 1) = chs n k * (n - k) := by
  induction n generalizing k with
  | zero => simp [chs]
  | succ n ih =>
    cases k with
    | zero =>
      have := ih 0
      rw [choose_succ]
      simp only [choose_zero, Nat.zero_add, Nat.mul_one, Nat.one_mul, Nat.sub_zero] at this ⊢
      omega
    | succ k =>
      rw [choose_succ, choose_succ n k]
      have h1 := ih k
      have h2 := ih (k + 1)
      rcases Nat.lt_or_ge k n with h | h
      · obtain ⟨d, rfl⟩ : ∃ d, n = k + 1 + d := ⟨n - (k + 1), by omega⟩
        have e1 : k + 1 + d - k = d + 1 := by omega
        have e2 : k + 1 + d - (k + 1) = d := by omega
        have e3 : k + 1 + d + 1 - (k + 1) = d + 1 := by omega
        rw [e1] at h1; rw [e2] at h2; rw [e3]
        have a1 : chs (k + 1 + d) (k + 1) * (k + 1 + 1) = chs (k + 1 + d) (k + 1) * (k + 1) + chs (k + 1 + d) (k + 1) := by rw [Nat.mul_add, Nat.mul_one]
        have a2 : chs (k + 1 + d) (k + 1) * (d + 1) = chs (k + 1 + d) (k + 1) * d + chs (k + 1 + d) (k + 1) := by rw [Nat.mul_add, Nat.mul_one]
        have a3 : chs (k + 1 + d) k * (d + 1) = chs (k + 1 + d) k * d + chs (k + 1 + d) k := by rw [Nat.mul_add, Nat.mul_one]
        rw [Nat.add_mul, Nat.add_mul]
        omega
      · rw [choose_over (show n < k + 1 by omega), choose_over (show n < k + 1 + 1 by omega)]
        rw [show n + 1 - (k + 1) = 0 by omega]
        simp

theorem choose_flip {n k : Nat} (h : k ≤ n) : chs n (n - k) = chs n k := by
  induction n generalizing k with
  | zero => obtain rfl : k = 0 := by omega
            rfl
  | succ n ih =>
    cases k with
    | zero => rw [choose_zero]; exact choose_self _
    | succ k =>
      rcases Nat.lt_or_ge k n with h' | h'
      · have e : n + 1 - (k + 1) = (n - k - 1) + 1 := by omega
        rw [e, choose_succ, choose_succ]
        have h1 := ih (k := k) (by omega)
        have h2 := ih (k := k + 1) (by omega)
        rw [show n - k - 1 + 1 = n - k by omega, h1, show n - k - 1 = n - (k + 1) by omega, h2]
        omega
      · obtain rfl : k = n := by omega
        rw [show k + 1 - (k + 1) = 0 by omega, choose_zero, choose_self]

/-- How many of the divisions have exactly i marked places in the first block: 0 if i is above d. -/
def term (k m d i : Nat) : Nat := if i ≤ d then chs k i * chs m (d - i) else 0

theorem vandermonde (k m d : Nat) : sum (term k m d) (d + 1) = chs (k + m) d := by
  induction k generalizing d with
  | zero =>
    rw [sum_head, sum_zero (fun i hi => by simp [term, chs])]
    simp [term, choose_zero]
  | succ k ih =>
    cases d with
    | zero => simp [sum, term, choose_zero]
    | succ d =>
      rw [show k + 1 + m = k + m + 1 by omega, choose_succ, ← ih d, ← ih (d + 1), sum_head (term (k + 1) m (d + 1)), sum_head (term k m (d + 1))]
      have : sum (fun i => term (k + 1) m (d + 1) (i + 1)) (d + 1) = sum (fun i => term k m d i + term k m (d + 1) (i + 1)) (d + 1) := sum_congr fun i hi => by
        simp only [term]
        rw [if_pos (by omega), if_pos (by omega), if_pos (by omega), choose_succ, Nat.add_mul, show d + 1 - (i + 1) = d - i by omega]
      rw [this, sum_add]
      simp only [term, choose_zero]
      omega

/-- The sum over all numbers of marked places. -/
theorem vandermonde_marked (k m d : Nat) : sum (term k m d) (k + 1) = chs (k + m) d := by
  rw [← vandermonde]
  rcases Nat.le_total k d with h | h
  · obtain ⟨e, rfl⟩ : ∃ e, d = k + e := ⟨d - k, by omega⟩
    rw [show k + e + 1 = k + 1 + e by omega, sum_split (term k m (k + e)) (k + 1) e, sum_zero (n := e) (fun i _ => by simp only [term]; split <;> simp [choose_over (show k < k + 1 + i by omega)])]
    simp
  · obtain ⟨e, rfl⟩ : ∃ e, k = d + e := ⟨k - d, by omega⟩
    rw [show d + e + 1 = d + 1 + e by omega, sum_split (term (d + e) m d) (d + 1) e, sum_zero (n := e) (fun i _ => by simp only [term]; rw [if_neg (by omega)])]
    simp

/-- Turned round: as many divisions have i marked places in the first block as have them in the second. -/
theorem term_flip {k d i : Nat} (hk : k ≤ 2 * d) (hi : i ≤ k) : term k (2 * d - k) d (k - i) = term k (2 * d - k) d i := by
  simp only [term]
  by_cases h1 : i ≤ d
  · by_cases h2 : k - i ≤ d
    · rw [if_pos h1, if_pos h2, choose_flip hi]
      congr 1
      rw [← choose_flip (n := 2 * d - k) (k := d - i) (by omega)]
      congr 1; omega
    · rw [if_neg h2, if_pos h1, choose_over (n := 2 * d - k) (k := d - i) (by omega)]; simp
  · rw [if_neg h1]
    split
    · rw [choose_over (n := 2 * d - k) (k := d - (k - i)) (by omega)]; simp
    · rfl

/-- The first x + 1 and the first k - x terms (the tails of x and of k - x - 1) are all. -/
theorem tails_add {k d x : Nat} (hk : k ≤ 2 * d) (hx : x ≤ k + 1) : sum (term k (2 * d - k) d) x + sum (term k (2 * d - k) d) (k + 1 - x) = chs (2 * d) d := by
  have hv := vandermonde_marked k (2 * d - k) d
  rw [show k + (2 * d - k) = 2 * d by omega] at hv
  rw [← hv, ← sum_rev (term k (2 * d - k) d) (k + 1 - x)]
  conv => rhs; rw [show k + 1 = x + (k + 1 - x) by omega, sum_split]
  congr 1
  refine sum_congr fun i hi => ?_
  show term k (2 * d - k) d (k + 1 - x - 1 - i) = _
  rw [← term_flip hk (i := x + i) (by omega)]
  congr 1; omega

end Hd

/- How many pass one after the other; thresholds. Plain arithmetic, no program. -/
namespace Hd

/-- How many of the first n pass before one does not. -/
def good (p : Nat → Bool) : Nat → Nat
  | 0 => 0
  | n + 1 => if good p n = n ∧ p n = true then n + 1 else good p n
theorem good_le (p : Nat → Bool) (n : Nat) : good p n ≤ n := by
  induction n with
  | zero => exact Nat.le_refl _
  | succ n ih => unfold good; split <;> omega
theorem good_all (p : Nat → Bool) (n : Nat) : ∀ j, j < good p n → p j = true := by
  induction n with
  | zero => intro j hj; exact absurd hj (Nat.not_lt_zero _)
  | succ n ih =>
    intro j hj
    unfold good at hj
    split at hj
    · rename_i h
      rcases Nat.lt_or_ge j n with h1 | h1
      · exact ih j (by omega)
      · obtain rfl : j = n := by omega
        exact h.2
    · exact ih j hj
theorem good_of {p : Nat → Bool} {n m : Nat} (hm : m ≤ n) (h1 : ∀ j, j < m → p j = true) (h2 : m < n → p m = false) : good p n = m := by
  induction n with
  | zero => unfold good; omega
  | succ n ih =>
    rcases Nat.lt_or_ge m (n + 1) with h | h
    · have e : good p n = m := ih (by omega) (fun h' => h2 (by omega))
      unfold good
      rw [e]
      split
      · rename_i h'
        have := h2 h
        rw [h'.1, h'.2] at this
        cases this
      · rfl
    · obtain rfl : m = n + 1 := by omega
      have e : ∀ k, k ≤ n + 1 → good p k = k := by
        intro k
        induction k with
        | zero => intro _; rfl
        | succ k ihk => intro hk; unfold good; rw [ihk (by omega), if_pos ⟨rfl, h1 k (by omega)⟩]
      exact e _ (Nat.le_refl _)
theorem good_stop {p : Nat → Bool} {n : Nat} (h : good p n < n) : p (good p n) = false := by
  induction n with
  | zero => omega
  | succ n ih =>
    unfold good at h ⊢
    split at h
    · omega
    · rename_i hh
      rw [if_neg hh]
      rcases Nat.lt_or_ge (good p n) n with h1 | h1
      · exact ih h1
      · have := good_le p n
        have e : good p n = n := by omega
        rw [e]
        cases hp : p n
        · rfl
        · exact absurd ⟨e, hp⟩ hh

/-- Divisions of 2d places, k of them marked, with i marked places in the first block. -/
def T (d k : Nat) : Nat → Nat := term k (2 * d - k) d
/-- a of b is at most m of n. -/
def inside (a b m n : Nat) : Bool := decide (a * n ≤ m * b)
/-- Up to x marked places: at most the limit. -/
def okT (d m n k x : Nat) : Bool := inside (sum (T d k) (x + 1)) (chs (2 * d) d) m n
/-- The threshold. -/
def thr (d m n k : Nat) : Int := (good (okT d m n k) (k + 1) : Int) - 1

theorem T_le {d k : Nat} (hk : k ≤ 2 * d) {x : Nat} (hx : x ≤ k + 1) : sum (T d k) x ≤ chs (2 * d) d := by
  have h := vandermonde_marked k (2 * d - k) d
  rw [show k + (2 * d - k) = 2 * d by omega] at h
  rw [← h]
  exact sum_le_sum _ hx
theorem T_all {d k : Nat} (hk : k ≤ 2 * d) : sum (T d k) (k + 1) = chs (2 * d) d := by
  have h := vandermonde_marked k (2 * d - k) d
  rwa [show k + (2 * d - k) = 2 * d by omega] at h
theorem thr_ge (d m n k : Nat) : -1 ≤ thr d m n k := by unfold thr; omega
theorem thr_le (d m n k : Nat) : thr d m n k ≤ k := by have := good_le (okT d m n k) (k + 1); unfold thr; omega
/-- With a limit below 1 the last one never passes. -/
theorem thr_lt {d m n k : Nat} (hk : k ≤ 2 * d) (hmn : m < n) : thr d m n k < k := by
  have h1 : okT d m n k k = false := by
    unfold okT inside
    rw [T_all hk]
    simp only [decide_eq_false_iff_not, Nat.not_le]
    rw [Nat.mul_comm m]
    exact Nat.mul_lt_mul_of_pos_left hmn (choose_pos (by omega))
  have h2 : good (okT d m n k) (k + 1) ≤ k := by
    rcases Nat.lt_or_ge k (good (okT d m n k) (k + 1)) with h | h
    · have := good_all _ _ k h
      rw [h1] at this
      cases this
    · exact h
  unfold thr
  omega
end Hd

/- Weights that name nobody up to a block. Plain arithmetic, no program. -/
namespace Hd

/-- The weights that the block j may have if nobody up to there is named. -/
def May (d m n : Nat) : Nat → Nat → Prop
  | 0, w => w = 0
  | j + 1, w => w ≤ d ∧ ∃ v, v ≤ d ∧ May d m n j v ∧ thr d m n (v + w) < (v : Int)
theorem May.le {d m n : Nat} : ∀ {j w : Nat}, May d m n j w → w ≤ d
  | 0, w, h => by have : w = 0 := h; omega
  | _ + 1, _, h => h.1
/-- How many of the keys up to d are left. -/
def cntL (left : Int → Bool) (d : Nat) : Nat := sum (fun i => if left (i : Int) then 1 else 0) (d + 1)
theorem cntL_le (left : Int → Bool) (d : Nat) : cntL left d ≤ d + 1 := by
  have h := sum_le (f := fun i => if left (i : Int) then 1 else 0) (g := fun _ => 1) (n := d + 1) (fun i _ => by split <;> omega)
  have e : ∀ k, sum (fun _ => 1) k = k := by
    intro k
    induction k with
    | zero => rfl
    | succ k ih => rw [sum_succ, ih]
  rw [e] at h
  exact h
theorem cntL_lose (left : Int → Bool) (d x : Nat) (hx : x ≤ d) (hl : left (x : Int) = true) : cntL (fun z => left z && decide (z ≠ (x : Int))) d + 1 = cntL left d := by
  have key : ∀ k, sum (fun i => if (left (i : Int) && decide ((i : Int) ≠ (x : Int))) = true then 1 else 0) k + (if x < k then 1 else 0) = sum (fun i => if left (i : Int) = true then 1 else 0) k := by
    intro k
    induction k with
    | zero => simp [sum]
    | succ k ih =>
      rw [sum_succ, sum_succ]
      by_cases e : k = x
      · subst e
        rw [if_pos (Nat.lt_succ_self _)]
        rw [if_neg (Nat.lt_irrefl _)] at ih
        have e2 : decide ((k : Int) ≠ (k : Int)) = false := decide_eq_false (by simp)
        rw [e2, Bool.and_false, if_neg (by simp), if_pos hl]
        omega
      · have e2 : decide ((k : Int) ≠ (x : Int)) = true := decide_eq_true (by omega)
        rw [e2, Bool.and_true]
        have e3 : (if x < k + 1 then 1 else 0) = (if x < k then 1 else 0) := by
          by_cases h : x < k
          · rw [if_pos h, if_pos (by omega)]
          · rw [if_neg h, if_neg (by omega)]
        rw [e3, ← ih]
        exact Nat.add_right_comm _ _ _
  have := key (d + 1)
  rw [if_pos (by omega)] at this
  exact this
end Hd
