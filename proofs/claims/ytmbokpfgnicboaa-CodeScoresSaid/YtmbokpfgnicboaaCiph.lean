set_option linter.unusedVariables false
set_option linter.unusedSimpArgs false
/- The cipher, plain: words of a block, a round, the round keys. -/
namespace Hd

/-- 2 to the power of 64. -/
def W64 : Nat := 18446744073709551616
/-- A number from its bytes, the highest first. -/
def beN (f : Nat → Nat) : Nat → Nat
  | 0 => 0
  | n + 1 => beN f n * 256 + f n
theorem beN_lt {f : Nat → Nat} : ∀ n, (∀ j, j < n → f j < 256) → beN f n < 256 ^ n
  | 0, _ => by simp [beN]
  | n + 1, h => by
    have := beN_lt n (fun j hj => h j (by omega))
    have h2 := h n (by omega)
    rw [beN, Nat.pow_succ]; omega
theorem beN_congr {f g : Nat → Nat} : ∀ n, (∀ j, j < n → f j = g j) → beN f n = beN g n
  | 0, _ => rfl
  | n + 1, h => by rw [beN, beN, beN_congr n (fun j hj => h j (by omega)), h n (by omega)]
/-- The byte i of a word. -/
def byteN (x i : Nat) : Nat := x / 2 ^ (56 - 8 * i) % 256
theorem byteN_lt (x i : Nat) : byteN x i < 256 := Nat.mod_lt _ (by decide)
theorem beN_byteN (x : Nat) : ∀ n, n ≤ 8 → x < W64 → beN (byteN x) n = x / 2 ^ (64 - 8 * n)
  | 0, _, h => by
    show 0 = _
    rw [Nat.div_eq_of_lt]
    exact h
  | n + 1, hn, h => by
    rw [beN, beN_byteN x n (by omega) h, byteN]
    have e : 64 - 8 * n = (56 - 8 * n) + 8 := by omega
    have e2 : 64 - 8 * (n + 1) = 56 - 8 * n := by omega
    rw [e, e2, Nat.pow_add, ← Nat.div_div_eq_div_mul]
    exact Nat.div_add_mod' _ 256
theorem beN_byteN8 {x : Nat} (h : x < W64) : beN (byteN x) 8 = x := by
  rw [beN_byteN x 8 (by omega) h]; simp

/-- A word rotated left by s bits. -/
def rol (x s : Nat) : Nat := (x * 2 ^ s % W64) ||| (x / 2 ^ (64 - s))
theorem rol_lt {x s : Nat} (h : x < W64) : rol x s < W64 :=
  Nat.or_lt_two_pow (n := 64) (Nat.mod_lt _ (by decide)) (Nat.lt_of_le_of_lt (Nat.div_le_self _ _) h)
/-- The words after a round. -/
def rnd (p : Nat × Nat) (k : Nat) : Nat × Nat :=
  let x := ((rol p.1 56 + p.2) % W64) ^^^ k
  (x, rol p.2 3 ^^^ x)
/-- Both are words. -/
def Wd (p : Nat × Nat) : Prop := p.1 < W64 ∧ p.2 < W64
theorem rnd_wd {p : Nat × Nat} {k : Nat} (h : Wd p) (hk : k < W64) : Wd (rnd p k) := by
  have h1 : ((rol p.1 56 + p.2) % W64) ^^^ k < W64 := Nat.xor_lt_two_pow (n := 64) (Nat.mod_lt _ (by decide)) hk
  exact ⟨h1, Nat.xor_lt_two_pow (n := 64) (rol_lt h.2) h1⟩
/-- The words of a block. -/
def wordsN (K : Nat → Nat) : Nat × Nat := (beN K 8, beN (fun j => K (8 + j)) 8)
/-- Sixteen bytes. -/
def Kb (K : Nat → Nat) : Prop := ∀ j, j < 16 → K j < 256
theorem wordsN_wd {K : Nat → Nat} (h : Kb K) : Wd (wordsN K) :=
  ⟨beN_lt (f := K) 8 (fun j hj => h j (by omega)), beN_lt (f := fun j => K (8 + j)) 8 (fun j hj => h (8 + j) (by omega))⟩
/-- The block of two words. -/
def blockN (p : Nat × Nat) (j : Nat) : Nat := if j < 8 then byteN p.1 j else byteN p.2 (j - 8)
theorem blockN_kb (p : Nat × Nat) : Kb (blockN p) := fun j _ => by
  unfold blockN; split <;> exact byteN_lt _ _
theorem wordsN_blockN {p : Nat × Nat} (h : Wd p) : wordsN (blockN p) = p := by
  have h1 : beN (blockN p) 8 = beN (byteN p.1) 8 := beN_congr 8 (fun j hj => by unfold blockN; rw [if_pos hj])
  have h2 : beN (fun j => blockN p (8 + j)) 8 = beN (byteN p.2) 8 := beN_congr 8 (fun j hj => by
    show blockN p (8 + j) = _
    unfold blockN; rw [if_neg (by omega)]; congr 1; omega)
  unfold wordsN
  rw [h1, h2, beN_byteN8 h.1, beN_byteN8 h.2]
/-- What makes the round keys. -/
def sched (K : Nat → Nat) : Nat → Nat × Nat
  | 0 => wordsN K
  | i + 1 => rnd (sched K i) i
theorem sched_wd {K : Nat → Nat} (h : Kb K) : ∀ i, i ≤ 32 → Wd (sched K i)
  | 0, _ => wordsN_wd h
  | i + 1, hi => rnd_wd (sched_wd h i (by omega)) (by unfold W64; omega)
/-- The words after i rounds. -/
def encN (K : Nat → Nat) (p : Nat × Nat) : Nat → Nat × Nat
  | 0 => p
  | i + 1 => rnd (encN K p i) (sched K i).2
theorem encN_wd {K : Nat → Nat} {p : Nat × Nat} (h : Kb K) (hp : Wd p) : ∀ i, i ≤ 32 → Wd (encN K p i)
  | 0, _ => hp
  | i + 1, hi => rnd_wd (encN_wd h hp i (by omega)) (sched_wd h i (by omega)).2
/-- The word of a tag. -/
@[irreducible] def tagW (tag : Nat) : Nat := tag * 2 ^ 56
/-- The derived key. -/
def derN (K : Nat → Nat) (tag n : Nat) : Nat → Nat := blockN (encN K (tagW tag, n) 32)
/-- The number below most. -/
def numN (K : Nat → Nat) (n most : Nat) : Nat := if most = 0 then 0 else (encN K (tagW 3, n) 32).1 % most
theorem tag_wd {tag n : Nat} (ht : tag < 256) (hn : n < W64) : Wd (tagW tag, n) := ⟨by show tagW tag < W64; unfold W64 tagW; omega, hn⟩
theorem derN_kb (K : Nat → Nat) (tag n : Nat) : Kb (derN K tag n) := blockN_kb _
theorem words_derN {K : Nat → Nat} {tag n : Nat} (h : Kb K) (ht : tag < 256) (hn : n < W64) : wordsN (derN K tag n) = encN K (tagW tag, n) 32 :=
  wordsN_blockN (encN_wd h (tag_wd ht hn) 32 (Nat.le_refl _))
theorem numN_lt {K : Nat → Nat} {n most : Nat} (h : 0 < most) : numN K n most < most := by
  unfold numN; rw [if_neg (by omega)]; exact Nat.mod_lt _ h
theorem or_byte {a b : Nat} (hb : b < 256) : a * 256 ||| b = a * 256 + b := by
  have := Nat.two_pow_add_eq_or_of_lt (i := 8) (b := b) hb a
  rw [show (2 : Nat) ^ 8 = 256 from rfl, Nat.mul_comm 256 a] at this
  exact this.symm
/-- The four ways a rotation is spelled. -/
theorem rol_comm (x s : Nat) : (x / 2 ^ (64 - s)) ||| (x * 2 ^ s % W64) = rol x s := Nat.or_comm _ _
end Hd
