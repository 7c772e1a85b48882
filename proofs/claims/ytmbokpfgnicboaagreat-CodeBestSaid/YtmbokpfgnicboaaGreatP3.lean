import Derived.Test.YtmbokpfgnicboaaGreatP2
import Derived.Test.YtmbokpfgnicboaaGreatC3
import Derived.Shelf.RegionOpen
set_option linter.unusedVariables false
set_option linter.unusedSimpArgs false
/- The walks of package number: long division by one digit. -/
namespace Go.Proofs.YtmbokpfgnicboaaGreat
open Go.RowKit Go.Shelf Go.Hd _root_.Hd

attribute [local go_sem] Oper.semAt_some

/-- A digit of the division by one digit: the quotient's digits so far, and the rest. -/
def stp (f : Nat → Nat) (b : Nat) (s : (Nat → Nat) × Nat) (x : Nat) : (Nat → Nat) × Nat := (upd s.1 x ((s.2 * B + f x) / b), (s.2 * B + f x) % b)
def dv (f : Nat → Nat) (b : Nat) (l : List Nat) : (Nat → Nat) × Nat := l.foldl (stp f b) (fun _ => 0, 0)
theorem dv_snoc (f : Nat → Nat) (b : Nat) (l : List Nat) (x : Nat) : dv f b (l ++ [x]) = stp f b (dv f b l) x := by simp [dv]
theorem dv_facts {f : Nat → Nat} {b : Nat} (hb : 0 < b) (hbB : b < B) (n : Nat) (hf : ∀ j, j < n → f j < B) : ∀ (m : Nat) (l : List Nat), l.length = m → (∀ x ∈ l, x < n) → (dv f b l).2 < b ∧ ∀ j, (dv f b l).1 j < B := by
  intro m
  induction m with
  | zero =>
    intro l hl _
    obtain rfl := List.length_eq_zero_iff.1 hl
    exact ⟨hb, fun j => B_pos⟩
  | succ m ih =>
    intro l hl h
    rcases List.eq_nil_or_concat l with rfl | ⟨l, x, rfl⟩
    · simp at hl
    rw [List.concat_eq_append] at *
    obtain ⟨h1, h2⟩ := ih l (by simpa using hl) (fun y hy => h y (by simp [hy]))
    have hx := hf x (h x (by simp))
    rw [dv_snoc]
    refine ⟨Nat.mod_lt _ hb, fun j => ?_⟩
    show upd _ _ _ j < B
    unfold upd
    split
    · rw [Nat.div_lt_iff_lt_mul hb, Nat.mul_comm B]
      have : ((dv f b l).2 + 1) * B ≤ b * B := Nat.mul_le_mul_right _ h1
      rw [Nat.add_mul] at this
      omega
    · exact h2 j
theorem dv_back {f : Nat → Nat} {b : Nat} (n : Nat) : ∀ k, k ≤ n → val (fun j => f (n - k + j)) k = val (fun j => (dv f b (upto (bk n) k)).1 (n - k + j)) k * b + (dv f b (upto (bk n) k)).2 := by
  intro k
  induction k with
  | zero => intro _; simp [val, upto, dv]
  | succ k ih =>
    intro hk
    have h := ih (by omega)
    have e1 : (fun j => f (n - (k + 1) + (j + 1))) = fun j => f (n - k + j) := by funext j; congr 1; omega
    rw [upto_succ, dv_snoc, val_shift, val_shift, e1, h]
    have e0 : bk n k = n - (k + 1) := by show n - 1 - k = _; omega
    rw [e0, Nat.add_zero]
    generalize dv f b (upto (bk n) k) = s
    have e2 : val (fun j => (stp f b s (n - (k + 1))).1 (n - (k + 1) + (j + 1))) k = val (fun j => s.1 (n - k + j)) k := val_congr fun j _ => by
      show upd _ _ _ _ = _
      rw [upd_other _ _ (by omega), show n - (k + 1) + (j + 1) = n - k + j by omega]
    rw [e2]
    show _ = (upd s.1 (n - (k + 1)) ((s.2 * B + f (n - (k + 1))) / b) (n - (k + 1)) + _) * b + (s.2 * B + f (n - (k + 1))) % b
    rw [upd_same, Nat.add_mul]
    have h3 := Nat.div_add_mod (s.2 * B + f (n - (k + 1))) b
    have h4 := Nat.mul_comm b ((s.2 * B + f (n - (k + 1))) / b)
    rw [Nat.mul_add, Nat.mul_comm B s.2, ← Nat.mul_assoc]
    omega
theorem dv_all {f : Nat → Nat} {b : Nat} (hb : 0 < b) (hbB : b < B) (n : Nat) (hf : ∀ j, j < n → f j < B) : val (dv f b (upto (bk n) n)).1 n = val f n / b ∧ (dv f b (upto (bk n) n)).2 = val f n % b := by
  have h := dv_back (f := f) (b := b) n n (Nat.le_refl _)
  have e : ∀ g : Nat → Nat, (fun j => g (n - n + j)) = g := fun g => by funext j; congr 1; omega
  rw [e, e] at h
  refine div_of h (dv_facts hb hbB n hf _ _ rfl fun x hx => ?_).1
  obtain ⟨k, hk, rfl⟩ := List.mem_map.1 hx
  have := List.mem_range.1 hk
  show n - 1 - k < n
  omega

/-- What cells lay in these blocks lie as they lay. -/
def KeepsAt (p : Nat → Prop) (W W' : World) : Prop := ∀ (k : Nat) (o : Obj), p k → W.heap[k]? = some o → o.isCells = true → W'.heap[k]? = some o
theorem KeepsAt.refl (p : Nat → Prop) (W : World) : KeepsAt p W W := fun _ _ _ h _ => h
theorem KeepsAt.trans {p : Nat → Prop} {X Y Z : World} (h : KeepsAt p X Y) (k : KeepsAt p Y Z) : KeepsAt p X Z := fun i o hp hi ho => k i o hp (h i o hp hi ho) ho
theorem KeepsAt.putObj {p : Nat → Prop} (W : World) (l : Nat) (o o' : Obj) (h : W.heap[l]? = some o) (ho : o.isCells = false) : KeepsAt p W (W.putObj l o') := fun k q _ hk hq => by
  by_cases e : k = l
  · subst e; rw [h] at hk; cases hk; rw [ho] at hq; cases hq
  · exact (World.putObj_heap_other e).trans hk
theorem KeepsAt.set {p : Nat → Prop} {W W' : World} (h : KeepsAt p W W') (a : Addr) (v : Value) (ha : ∀ k, p k → k ≠ a.block) : KeepsAt p W (W'.setCell a v) := fun k o hp hk ho => (Below.heap_setCell _ _ _ _ (fun e => ha k hp e)).trans (h k o hp hk ho)
theorem KeepsAt.cell {p : Nat → Prop} {W W' : World} (h : KeepsAt p W W') {a : Addr} {v : Value} (hc : W.cell? a = some v) (hp : p a.block) : W'.cell? a = some v := by
  obtain ⟨o, h1, h2⟩ := cells_of_cell hc
  have h3 := h a.block o hp h1 h2
  exact (World.cell?_of_block (h3.trans h1.symm)).trans hc

set_option maxRecDepth 100000 in
set_option maxHeartbeats 2000000 in
theorem back_low (n : Nat) (hn : 1 ≤ n) (l Bs bA off len cap : Nat) (f : Nat → Nat) (hl : len ≤ 9223372036854775807) (W : World) (hR : ∀ j, j < len → W.cell? ⟨bA, off + j, none⟩ = some (.int .u32 (f j)))
    (hBs : W.cell? ⟨Bs, 0, none⟩ = some (.slice (some ⟨bA, off, none⟩) len cap)) (J : List (Fin len) → World → Prop)
    (hY : ∀ pre x W1, J pre W1 → pre.length < len → YieldAt Fence.wide (n - 1) Tryz.prog l #[.int .i64 (x.val : Int), .int .u32 (f x.val : Int)] W1 fun e W' => e = .returned (.bool true) ∧ J (pre ++ [x]) W' ∧ KeepsAt (fun k => k = Bs ∨ k = bA) W1 W')
    (h0 : J [] W) :
    CallsIn Fence.wide n Tryz.prog 160 #[.func (.yield l) #[] #[], .pointer (some ⟨Bs, 0, none⟩)] W fun e W' => (∃ v, e = .returned v) ∧ ∃ ys, ys.map (·.val) = upto (bk len) len ∧ J ys W' := by
  have HR := Lib.hid hR
  clear hR
  refine callsIn_of_wp Tryz.func160 rfl trivial ?_ rfl
  simp only [Tryz.ntmps160, List.size_toArray, List.length_cons, List.length_nil, Nat.reduceAdd, Nat.reduceSub, Array.replicate_succ, Array.replicate_zero, List.push_toArray, List.append_toArray, List.nil_append, List.cons_append]
  gi_wp2
  gi_loopw [3] (fun i wr => ∃ (k : Nat) (pre : List (Fin len)), k ≤ len ∧ i = .int .i64 ((len : Int) - 1 - k) ∧ Hid (pre.map (·.val) = upto (bk len) k) ∧ J pre wr ∧ KeepsAt (fun k => k = Bs ∨ k = bA) W wr)
    (fun i _ => (intOf i + 1).toNat)
  case atStart => exact ⟨0, [], Nat.zero_le _, by simp, rfl, h0, KeepsAt.refl _ _⟩
  case round =>
    obtain ⟨k, pre, hk, rfl, hpre, hJs, hnx⟩ := hrel
    have hbs := hnx.cell hBs (.inl rfl)
    have HNx := Lib.hid hnx
    clear hnx
    by_cases hlt : k < len
    · have hcx := HNx.out.cell (HR.out (len - 1 - k) (by omega)) (.inr rfl)
      obtain ⟨i, hi⟩ : ∃ i, i = len - 1 - k := ⟨_, rfl⟩
      have hi2 : (len : Int) - 1 - k = (i : Int) := by omega
      have hil : i < len := by omega
      have hpl : pre.length = k := by
        have := congrArg List.length hpre.out
        rw [upto_length, List.length_map] at this
        exact this
      obtain ⟨fn, tmps, assign, body, hy, hR⟩ := hY _ ⟨i, hil⟩ wr hJs (by omega)
      dsimp only at hy
      rw [← hi] at hcx
      rw [hi2]
      have HI := Lib.hid hi
      have HI2 := Lib.hid hi2
      have HE : Hid ((pre ++ [(⟨i, hil⟩ : Fin len)]).map (·.val) = upto (bk len) (k + 1)) := by
        show _ = _
        have e : bk len k = i := hi.symm
        rw [upto_succ, e, List.map_append, hpre.out]; rfl
      clear hi hi2 hBs hpl
      gi_wp2
      refine hR.mono ?_
      rintro e W3 ⟨rfl, hJ3, hk3⟩
      gi_wp2
      go_roundw
      case rel =>
        have q1 := HI.out
        refine ⟨k + 1, _, by omega, ?_, HE, hJ3, HNx.out.trans hk3⟩
        congr 1; omega
      case measure =>
        have q1 := HI.out
        have q2 := HI2.out
        simp [intOf] <;> omega
    · obtain rfl : k = len := by omega
      have he : (k : Int) - 1 - k = -1 := by omega
      rw [he]
      clear he
      gi_wp2
      go_end0
      exact ⟨⟨_, rfl⟩, _, hpre.out, hJs⟩
end Go.Proofs.YtmbokpfgnicboaaGreat
