import Derived.Test.YtmbokpfgnicboaaS1
import Derived.Test.YtmbokpfgnicboaaWhole
set_option linter.unusedVariables false
set_option linter.unusedSimpArgs false
/- The walks of codes of scores: words. -/
namespace Go.Proofs.Ytmbokpfgnicboaa
open Go.RowKit Go.Hd _root_.Hd

theorem key_cs (K : Nat → Nat) : ∀ i, i < 16 → (#[.int .u8 (K 0), .int .u8 (K 1), .int .u8 (K 2), .int .u8 (K 3), .int .u8 (K 4), .int .u8 (K 5), .int .u8 (K 6), .int .u8 (K 7), .int .u8 (K 8), .int .u8 (K 9), .int .u8 (K 10), .int .u8 (K 11), .int .u8 (K 12), .int .u8 (K 13), .int .u8 (K 14), .int .u8 (K 15)] : Array Value)[i]? = some (.int .u8 (K i)) := fun i hi => by
  match i, hi with
  | 0, _ => rfl
  | 1, _ => rfl
  | 2, _ => rfl
  | 3, _ => rfl
  | 4, _ => rfl
  | 5, _ => rfl
  | 6, _ => rfl
  | 7, _ => rfl
  | 8, _ => rfl
  | 9, _ => rfl
  | 10, _ => rfl
  | 11, _ => rfl
  | 12, _ => rfl
  | 13, _ => rfl
  | 14, _ => rfl
  | 15, _ => rfl
  | n + 16, h => exact absurd h (by omega)
theorem sc_cs (U Bs : Int) (v : Value) (K : Nat → Nat) : ∀ i, i < 19 → (#[.int .i64 U, .int .i64 Bs, v, .int .u8 (K 0), .int .u8 (K 1), .int .u8 (K 2), .int .u8 (K 3), .int .u8 (K 4), .int .u8 (K 5), .int .u8 (K 6), .int .u8 (K 7), .int .u8 (K 8), .int .u8 (K 9), .int .u8 (K 10), .int .u8 (K 11), .int .u8 (K 12), .int .u8 (K 13), .int .u8 (K 14), .int .u8 (K 15)] : Array Value)[i]? = some (scF U Bs v K i) := fun i hi => by
  match i, hi with
  | 0, _ => rfl
  | 1, _ => rfl
  | 2, _ => rfl
  | 3, _ => rfl
  | 4, _ => rfl
  | 5, _ => rfl
  | 6, _ => rfl
  | 7, _ => rfl
  | 8, _ => rfl
  | 9, _ => rfl
  | 10, _ => rfl
  | 11, _ => rfl
  | 12, _ => rfl
  | 13, _ => rfl
  | 14, _ => rfl
  | 15, _ => rfl
  | 16, _ => rfl
  | 17, _ => rfl
  | 18, _ => rfl
  | n + 19, h => exact absurd h (by omega)
theorem sc_key {w : World} {g : Nat} {t : TypeId} {U Bs : Int} {v : Value} {K : Nat → Nat} (h : w.rowIs g t 19 (scF U Bs v K)) : ∀ j, j < 16 → w.cell? ⟨g, 3 + j, none⟩ = some (.int .u8 (K j)) := fun j hj => by
  have := h.cell (i := j + 3) (by omega)
  rw [Nat.add_comm 3 j]; exact this
theorem key_size : (Try.prog.info? 32).map (·.size) = some 16 := by kernel_rfl
theorem sc_size : (Try.prog.info? 34).map (·.size) = some 19 := by kernel_rfl

theorem refCheckScores_any (U Bs : Int) (v : Value) (K : Nat → Nat) (n : Nat) (a : Nat → Int) (w : World) (h : RdV w v n (fun j => .int .i64 (a j))) :
    Calls Try.prog 11 #[scV U Bs v K] w fun e w' => e = .returned (.int .i64 (scE U Bs n a)) ∧ Below w.heap.size w w' := by
  have HV := Lib.hid (validScores_any U Bs v K n a (w.alloc (.cells #[.int .i64 U, .int .i64 Bs, v, .int .u8 (K 0), .int .u8 (K 1), .int .u8 (K 2), .int .u8 (K 3), .int .u8 (K 4), .int .u8 (K 5), .int .u8 (K 6), .int .u8 (K 7), .int .u8 (K 8), .int .u8 (K 9), .int .u8 (K 10), .int .u8 (K 11), .int .u8 (K 12), .int .u8 (K 13), .int .u8 (K 14), .int .u8 (K 15)] 34)) (h.below ((Below.refl w.heap.size w).alloc (Nat.le_refl _) _)))
  obtain ⟨A, cap, rfl, _, _, h3⟩ := h
  clear h3
  have HS := Lib.hid (sc_row w U Bs (.slice A n cap) K 34)
  by_cases hv : VS U Bs n a
  · have ht : Hid (scE U Bs n a = 0) := scE_yes hv
    rw [tt_pos hv] at HV
    clear hv
    go_enter Try.func11, Try.ntmps11
    go_wp2_with (refine wp_load_whole rfl 34 _ rfl w.heap.size rfl 34 19 _ _ _ HS.out rfl (sc_cs _ _ _ _) Try.underlying34 rfl sc_size ?_)
    refine HV.out.mono ?_
    rintro e w1 ⟨rfl, hb⟩
    have HB := Lib.hid (((Below.refl w.heap.size w).alloc (Nat.le_refl _) _).trans (hb.mono (by simp)))
    clear hb
    go_wp2
    go_ret
    exact ⟨by rw [ht.out]; rfl, HB.out⟩
  · have ht : Hid (scE U Bs n a = 70) := scE_no hv
    rw [tt_neg hv] at HV
    clear hv
    go_enter Try.func11, Try.ntmps11
    go_wp2_with (refine wp_load_whole rfl 34 _ rfl w.heap.size rfl 34 19 _ _ _ HS.out rfl (sc_cs _ _ _ _) Try.underlying34 rfl sc_size ?_)
    refine HV.out.mono ?_
    rintro e w1 ⟨rfl, hb⟩
    have HB := Lib.hid (((Below.refl w.heap.size w).alloc (Nat.le_refl _) _).trans (hb.mono (by simp)))
    clear hb
    go_wp2
    go_ret
    exact ⟨by rw [ht.out]; rfl, HB.out⟩
end Go.Proofs.Ytmbokpfgnicboaa
