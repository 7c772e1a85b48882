import Derived.WalkKit
import Derived.WalkLawsBesides
import Derived.WalkSpells
import Derived.Deep.OwnRows
import Derived.Deep.Draws
import Derived.Deep.QuietTactic
import Derived.BigQuiet
import Derived.Deep.LoopGhost
import Derived.Lib.Hide
import Derived.KernelRfl
import Derived.Maps.AppendAt
import Derived.Test.YtmbokpfgnicboaaGreatPlain
set_option linter.unusedVariables false
set_option linter.unusedSimpArgs false
/- Words for the walks: a slice that reads as digits, as a list of numbers; the world some draws later. -/
namespace Go
open Go.RowKit
namespace Hd
open _root_.Hd

/-- The answer to a question, as a Bool. -/
noncomputable def tt (p : Prop) : Bool := @decide p (Classical.propDecidable p)
theorem tt_pos {p : Prop} (h : p) : tt p = true := by unfold tt; exact @decide_eq_true p (Classical.propDecidable p) h
theorem tt_neg {p : Prop} (h : ¬ p) : tt p = false := by unfold tt; exact @decide_eq_false p (Classical.propDecidable p) h
theorem tt_iff {p : Prop} : tt p = true ↔ p := by unfold tt; exact @decide_eq_true_iff p (Classical.propDecidable p)
theorem tt_not {p : Prop} : tt p = false ↔ ¬ p := by unfold tt; exact @decide_eq_false_iff_not p (Classical.propDecidable p)
theorem tt_congr {p q : Prop} (h : p ↔ q) : tt p = tt q := by
  by_cases hp : p
  · rw [tt_pos hp, tt_pos (h.1 hp)]
  · rw [tt_neg hp, tt_neg (fun hq => hp (h.2 hq))]

/-- Some orders have been drawn, nothing else has turned. -/
def Drawn (w w' : World) : Prop := ∃ n, w' = w.drewN n
theorem Drawn.refl (w : World) : Drawn w w := ⟨0, rfl⟩
theorem Drawn.drew {w w' : World} (h : Drawn w w') : Drawn w w'.drew := by obtain ⟨n, rfl⟩ := h; exact ⟨n + 1, rfl⟩
theorem Drawn.drewN {w w' : World} (h : Drawn w w') (m : Nat) : Drawn w (w'.drewN m) := by obtain ⟨n, rfl⟩ := h; exact ⟨n + m, World.drewN_drewN ..⟩
theorem Drawn.trans {a b c : World} (h : Drawn a b) (k : Drawn b c) : Drawn a c := by obtain ⟨n, rfl⟩ := k; exact h.drewN n
theorem below_drewN {B : Nat} {a w : World} (h : Below B a w) (n : Nat) : Below B a (w.drewN n) := ⟨h.os, h.tape, h.output, h.size, h.block⟩
theorem Drawn.below {w w' : World} (h : Drawn w w') : Below w.heap.size w w' := by obtain ⟨n, rfl⟩ := h; exact below_drewN (Below.refl _ _) n

/-- The cell is one of a block that was there. -/
theorem cell_below {w w1 : World} (h : Below w.heap.size w w1) {a : Addr} {v : Value} (hc : w.cell? a = some v) : w1.cell? a = some v :=
  (h.cell (World.block_lt_of_cell? w a hc)).trans hc

theorem below_then {w w1 w2 : World} (h : Below w.heap.size w w1) (k : Below w1.heap.size w1 w2) : Below w.heap.size w w2 := h.trans (k.mono h.size)
theorem belowB_then {B : Nat} {w w1 w2 : World} (h : Below B w w1) (hB : B ≤ w1.heap.size) (k : Below w1.heap.size w1 w2) : Below B w w2 := h.trans (k.mono hB)

/-- v is a slice of n numbers of the kind k: f 0, f 1, and so on. -/
def Rd (w : World) (k : IntKind) (v : Value) (n : Nat) (f : Nat → Nat) : Prop :=
  ∃ A cap, v = .slice A n cap ∧ n ≤ cap ∧ cap ≤ maxLen ∧ (0 < n → ∃ b off, A = some ⟨b, off, none⟩ ∧ ∀ j, j < n → w.cell? ⟨b, off + j, none⟩ = some (.int k (f j)))

theorem Rd.below {w w1 : World} {k : IntKind} {v : Value} {n : Nat} {f : Nat → Nat} (h : Rd w k v n f) (hb : Below w.heap.size w w1) : Rd w1 k v n f := by
  obtain ⟨A, cap, hv, h1, h2, h3⟩ := h
  exact ⟨A, cap, hv, h1, h2, fun hn => by
    obtain ⟨b, off, hA, hc⟩ := h3 hn
    exact ⟨b, off, hA, fun j hj => cell_below hb (hc j hj)⟩⟩
theorem Rd.congr {w : World} {k : IntKind} {v : Value} {n : Nat} {f g : Nat → Nat} (h : Rd w k v n f) (e : ∀ j, j < n → f j = g j) : Rd w k v n g := by
  obtain ⟨A, cap, hv, h1, h2, h3⟩ := h
  exact ⟨A, cap, hv, h1, h2, fun hn => by
    obtain ⟨b, off, hA, hc⟩ := h3 hn
    exact ⟨b, off, hA, fun j hj => by rw [hc j hj, e j hj]⟩⟩
theorem Rd.len_le {w : World} {k : IntKind} {v : Value} {n : Nat} {f : Nat → Nat} (h : Rd w k v n f) : n ≤ 9223372036854775807 := by
  obtain ⟨A, cap, _, h1, h2, _⟩ := h
  unfold maxLen at h2; omega
theorem Rd.nil (w : World) (k : IntKind) (f : Nat → Nat) : Rd w k (.slice none 0 0) 0 f := ⟨none, 0, rfl, Nat.le_refl _, by unfold maxLen; omega, fun h => absurd h (by omega)⟩

/-- v is the number m: its digits, none of them a zero at the end. -/
def Nt (w : World) (v : Value) (m : Nat) : Prop := ∃ n f, Rd w .u32 v n f ∧ Canon f n ∧ val f n = m

theorem Nt.below {w w1 : World} {v : Value} {m : Nat} (h : Nt w v m) (hb : Below w.heap.size w w1) : Nt w1 v m := by
  obtain ⟨n, f, h1, h2⟩ := h
  exact ⟨n, f, h1.below hb, h2⟩
theorem Nt.nil (w : World) : Nt w (.slice none 0 0) 0 := ⟨0, fun _ => 0, Rd.nil w _ _, ⟨fun j hj => by omega, fun h => by omega⟩, rfl⟩

theorem rowIs_upd {w : World} {b : Nat} {t : TypeId} {n : Nat} {k : IntKind} {o : Nat → Nat} (h : w.rowIs b t n (fun j => .int k (o j))) (i d : Nat) (x : Int) (hx : x = d) : (w.setCell ⟨b, i, none⟩ (.int k x)).rowIs b t n (fun j => .int k (upd o i d j)) :=
  (h.set i _).congr fun j _ => by
    unfold upd
    split
    · rw [hx]
    · rfl
/-- A row of the call's own, read as a slice. -/
theorem rd_of_row {w : World} {b : Nat} {t : TypeId} {n : Nat} {k : IntKind} {f : Nat → Nat} (h : w.rowIs b t n (fun j => .int k (f j))) (hn : n ≤ 9223372036854775807) : Rd w k (.slice (some ⟨b, 0, none⟩) n n) n f :=
  ⟨_, _, rfl, Nat.le_refl _, by unfold maxLen; omega, fun _ => ⟨b, 0, rfl, fun j hj => by rw [Nat.zero_add]; exact h.cell hj⟩⟩

/-- The shape of what reads as a number. -/
theorem Nt.shape {w : World} {v : Value} {m : Nat} (h : Nt w v m) : ∃ A n c, v = .slice A n c := by
  obtain ⟨n, f, ⟨A, cap, h, _⟩, _⟩ := h
  exact ⟨A, n, cap, h⟩

/-- v is a slice of n values F 0, F 1, and so on, a cell each. -/
def RdV (w : World) (v : Value) (n : Nat) (F : Nat → Value) : Prop :=
  ∃ A cap, v = .slice A n cap ∧ n ≤ cap ∧ cap ≤ maxLen ∧ (0 < n → ∃ b off, A = some ⟨b, off, none⟩ ∧ ∀ j, j < n → w.cell? ⟨b, off + j, none⟩ = some (F j))
theorem RdV.below {w w1 : World} {v : Value} {n : Nat} {F : Nat → Value} (h : RdV w v n F) (hb : Below w.heap.size w w1) : RdV w1 v n F := by
  obtain ⟨A, cap, hv, h1, h2, h3⟩ := h
  exact ⟨A, cap, hv, h1, h2, fun hn => by
    obtain ⟨b, off, hA, hc⟩ := h3 hn
    exact ⟨b, off, hA, fun j hj => cell_below hb (hc j hj)⟩⟩
theorem rdV_of_row {w : World} {b : Nat} {t : TypeId} {n : Nat} {F : Nat → Value} (h : w.rowIs b t n F) (hn : n ≤ 9223372036854775807) : RdV w (.slice (some ⟨b, 0, none⟩) n n) n F :=
  ⟨_, _, rfl, Nat.le_refl _, by unfold maxLen; omega, fun _ => ⟨b, 0, rfl, fun j hj => by rw [Nat.zero_add]; exact h.cell hj⟩⟩
theorem rdV_two (w : World) (x y : Value) (t : TypeId) : RdV (w.alloc (.cells #[x, y] t)) (.slice (some ⟨w.heap.size, 0, none⟩) 2 2) 2 (fun j => if j = 0 then x else y) :=
  rdV_of_row (World.rowIs_alloc w #[x, y] t _ (fun i hi => by
    have : i < 2 := hi
    rcases Nat.lt_or_ge i 1 with h | h
    · obtain rfl : i = 0 := by omega
      rfl
    · obtain rfl : i = 1 := by omega
      rfl)) (by simp)
theorem rdV_one (w : World) (x : Value) (t : TypeId) : RdV (w.alloc (.cells #[x] t)) (.slice (some ⟨w.heap.size, 0, none⟩) 1 1) 1 (fun _ => x) :=
  rdV_of_row (World.rowIs_alloc w #[x] t _ (fun i hi => by
    obtain rfl : i = 0 := by simpa using hi
    rfl)) (by simp)

theorem rowIs_four {w : World} {b : Nat} {t : TypeId} {f : Nat → Value} (h : w.rowIs b t 4 f) : w.heap[b]? = some (.cells #[f 0, f 1, f 2, f 3] t (0, 0)) := by
  obtain ⟨c, hb, hn, hc⟩ := h
  rw [hb]
  have : c = #[f 0, f 1, f 2, f 3] := by
    apply Array.ext_getElem?
    intro i
    rcases Nat.lt_or_ge i 4 with hi | hi
    · rw [hc i hi]
      match i, hi with
      | 0, _ => rfl
      | 1, _ => rfl
      | 2, _ => rfl
      | 3, _ => rfl
    · rw [Array.getElem?_eq_none (by omega), Array.getElem?_eq_none (by simpa using hi)]
  rw [this]

/-- A contract that leaves the world alone, inside a region that draws its order. -/
theorem quiet_add {P : Program} {f : FuncId} {args : Array Value} {w : World} {a n : Nat} {v : Value}
    (h : Calls P f args (w.drewN (a + n)) fun e w' => e = .returned v ∧ w.drewN (a + n) = w') : Calls P f args (w.drewN (a + n)) fun e w'' => e = .returned v ∧ ∃ m, w'' = w.drewN (a + m) :=
  h.mono fun _ _ ⟨he, hm⟩ => ⟨he, n, hm.symm⟩
theorem quiet_add_d {P : Program} {f : FuncId} {args : Array Value} {w : World} {a n : Nat} {v : Value}
    (h : Calls P f args (w.drewN (a + n)) fun e w' => e = .returned v ∧ Drawn (w.drewN (a + n)) w') : Calls P f args (w.drewN (a + n)) fun e w'' => e = .returned v ∧ ∃ m, w'' = w.drewN (a + m) :=
  h.mono fun _ _ ⟨he, m, hm⟩ => ⟨he, n + m, by rw [hm, World.drewN_drewN, Nat.add_assoc]⟩
theorem quiet_one_d {P : Program} {f : FuncId} {args : Array Value} {w : World} {n : Nat} {v : Value}
    (h : Calls P f args (w.drewN n) fun e w' => e = .returned v ∧ Drawn (w.drewN n) w') : Calls P f args (w.drewN n) fun e w'' => e = .returned v ∧ ∃ m, w'' = w.drewN m :=
  h.mono fun _ _ ⟨he, m, hm⟩ => ⟨he, n + m, by rw [hm, World.drewN_drewN]⟩
theorem quiet_one {P : Program} {f : FuncId} {args : Array Value} {w : World} {n : Nat} {v : Value}
    (h : Calls P f args (w.drewN n) fun e w' => e = .returned v ∧ w.drewN n = w') : Calls P f args (w.drewN n) fun e w'' => e = .returned v ∧ ∃ m, w'' = w.drewN m :=
  h.mono fun _ _ ⟨he, hm⟩ => ⟨he, n, hm.symm⟩

theorem cell_new (w : World) (v : Value) (t : TypeId) : (w.alloc (.cells #[v] t)).cell? ⟨w.heap.size, 0, none⟩ = some v ∧ (w.alloc (.cells #[v] t)).frozen? ⟨w.heap.size, 0, none⟩ = false := by
  have h := heap_alloc_new w (.cells #[v] t)
  constructor
  · simp only [World.cell?, h]; rfl
  · simp only [World.frozen?, h]; rfl

theorem max2_max (k k' : IntKind) (x y : Int) : Builtin.max2 (.int k x) (.int k' y) = pure (.int k (max x y)) := by
  simp only [Builtin.max2, gt_iff_lt]
  congr 2
  rw [Int.max_def]
  split <;> split <;> omega
theorem min2_min (k k' : IntKind) (x y : Int) : Builtin.min2 (.int k x) (.int k' y) = pure (.int k (min x y)) := by
  simp only [Builtin.min2]
  congr 2
  rw [Int.min_def]
  split <;> split <;> omega
theorem max_two' (ats : Array TypeId) (ty : TypeId) (a b : Value) : Builtin.max_ ats ty #[a, b] = (Builtin.max2 a b >>= fun s => pure s) := by simp only [Builtin.max_, List.foldlM_cons, List.foldlM_nil]
theorem min_two' (ats : Array TypeId) (ty : TypeId) (a b : Value) : Builtin.min_ ats ty #[a, b] = (Builtin.min2 a b >>= fun s => pure s) := by simp only [Builtin.min_, List.foldlM_cons, List.foldlM_nil]
attribute [go_sem high] max2_max min2_min max_two' min_two'

end Hd
end Go
