import Derived.Test.YtmbokpfgnicboaaGreatS1
import Derived.Test.YtmbokpfgnicboaaGreatWhole
set_option linter.unusedVariables false
set_option linter.unusedSimpArgs false
/- The walks of codes of scores: words. -/
namespace Go.Proofs.YtmbokpfgnicboaaGreat
open Go.RowKit Go.Hd _root_.Hd

theorem key_cs (K : Nat → Nat) : ∀ i, i < 16 → (#[.int .u8 (K 0), .int .u8 (K 1), .int .u8 (K 2), .int .u8 (K 3), .int .u8 (K 4), .int .u8 (K 5), .int .u8 (K 6), .int .u8 (K 7), .int .u8 (K 8), .int .u8 (K 9), .int .u8 (K 10), .int .u8 (K 11), .int .u8 (K 12), .int .u8 (K 13), .int .u8 (K 14), .int .u8 (K 15)] : Array Value)[i]? = some (.int .u8 (K i)) := fun i hi => by
  match i, hi with
  | 0, _ => rfl
  | 1, _ => rfl
  | 2, _ => rfl
  | 3, _ => rfl
  | 4, _ => rfl
  | 5, _ => rfl
  | 6, _ => rfl
  | 7, _ => rfl
  | 8, _ => rfl
  | 9, _ => rfl
  | 10, _ => rfl
  | 11, _ => rfl
  | 12, _ => rfl
  | 13, _ => rfl
  | 14, _ => rfl
  | 15, _ => rfl
  | n + 16, h => exact absurd h (by omega)
theorem sc_cs (U Bs : Int) (v : Value) (K : Nat → Nat) : ∀ i, i < 19 → (#[.int .i64 U, .int .i64 Bs, v, .int .u8 (K 0), .int .u8 (K 1), .int .u8 (K 2), .int .u8 (K 3), .int .u8 (K 4), .int .u8 (K 5), .int .u8 (K 6), .int .u8 (K 7), .int .u8 (K 8), .int .u8 (K 9), .int .u8 (K 10), .int .u8 (K 11), .int .u8 (K 12), .int .u8 (K 13), .int .u8 (K 14), .int .u8 (K 15)] : Array Value)[i]? = some (scF U Bs v K i) := fun i hi => by
  match i, hi with
  | 0, _ => rfl
  | 1, _ => rfl
  | 2, _ => rfl
  | 3, _ => rfl
  | 4, _ => rfl
  | 5, _ => rfl
  | 6, _ => rfl
  | 7, _ => rfl
  | 8, _ => rfl
  | 9, _ => rfl
  | 10, _ => rfl
  | 11, _ => rfl
  | 12, _ => rfl
  | 13, _ => rfl
  | 14, _ => rfl
  | 15, _ => rfl
  | 16, _ => rfl
  | 17, _ => rfl
  | 18, _ => rfl
  | n + 19, h => exact absurd h (by omega)
theorem sc_key {w : World} {g : Nat} {t : TypeId} {U Bs : Int} {v : Value} {K : Nat → Nat} (h : w.rowIs g t 19 (scF U Bs v K)) : ∀ j, j < 16 → w.cell? ⟨g, 3 + j, none⟩ = some (.int .u8 (K j)) := fun j hj => by
  have := h.cell (i := j + 3) (by omega)
  rw [Nat.add_comm 3 j]; exact this
theorem key_size : (Tryz.prog.info? 23).map (·.size) = some 16 := by kernel_rfl
theorem sc_size : (Tryz.prog.info? 46).map (·.size) = some 19 := by kernel_rfl

end Go.Proofs.YtmbokpfgnicboaaGreat