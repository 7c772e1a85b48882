import Derived.Test.YtmbokpfgnicboaaGreatPq
import Derived.Test.YtmbokpfgnicboaaGreatPlain
set_option linter.unusedVariables false
set_option linter.unusedSimpArgs false
/- Lists of those that are named. Plain arithmetic, no program. -/
namespace Hd

theorem nmL_mem {U d m n k u : Nat} {W : Nat → Nat} : u ∈ nmL U d m n W k ↔ u < k ∧ nmd U d m n W u = true := by
  unfold nmL
  rw [List.mem_filter, List.mem_range]
theorem flt_mem {p : Nat → Bool} {k j : Nat} (h : j < ((List.range k).filter p).length) : ((List.range k).filter p).getD j 0 < k ∧ p (((List.range k).filter p).getD j 0) = true := by
  rw [← List.getElem_eq_getD (h := h)]
  have := List.getElem_mem h
  rw [List.mem_filter, List.mem_range] at this
  exact this
theorem flt_up {p : Nat → Bool} {k j : Nat} (h : j + 1 < ((List.range k).filter p).length) : ((List.range k).filter p).getD j 0 < ((List.range k).filter p).getD (j + 1) 0 := by
  rw [← List.getElem_eq_getD (h := h), ← List.getElem_eq_getD (h := Nat.lt_of_succ_lt h)]
  have hp : ((List.range k).filter p).Pairwise (· < ·) := List.Pairwise.filter _ List.pairwise_lt_range
  exact List.pairwise_iff_getElem.1 hp j (j + 1) _ _ (Nat.lt_succ_self _)
theorem flt_find {p : Nat → Bool} {k u : Nat} (hu : u < k) (h : p u = true) : ∃ j, j < ((List.range k).filter p).length ∧ ((List.range k).filter p).getD j 0 = u := by
  have hm : u ∈ (List.range k).filter p := List.mem_filter.2 ⟨List.mem_range.2 hu, h⟩
  obtain ⟨j, hj, e⟩ := List.getElem_of_mem hm
  exact ⟨j, hj, by rw [← List.getElem_eq_getD (h := hj)]; exact e⟩

/-- Where nobody is named, the last weight is one that may be. -/
theorem nmL_some {U d m n : Nat} {W : Nat → Nat} (hU : 2 ≤ U) (hW : ∀ b, W b ≤ d) (hM : ¬ May d m n (U - 2) d) : nmL U d m n W U ≠ [] := by
  intro he
  have hn : ∀ u, u < U → nmd U d m n W u = false := fun u hu => by
    cases h : nmd U d m n W u
    · rfl
    · have : u ∈ nmL U d m n W U := nmL_mem.2 ⟨hu, h⟩
      rw [he] at this
      cases this
  have key : ∀ j, j ≤ U - 2 → May d m n j (W j) := by
    intro j
    induction j with
    | zero =>
      intro _
      have h := hn 0 (by omega)
      rw [nmd_first] at h
      have := of_decide_eq_false h
      show W 0 = 0
      omega
    | succ j ih =>
      intro hj
      have h := hn (j + 1) (by omega)
      rw [nmd_mid (by omega) (by omega)] at h
      have h2 := of_decide_eq_false h
      rw [Nat.add_sub_cancel] at h2
      exact ⟨hW _, W j, hW _, ih (by omega), by omega⟩
  have hl := hn (U - 1) (by omega)
  rw [nmd_last (by omega) rfl] at hl
  have h2 := of_decide_eq_false hl
  have h3 := hW (U - 2)
  rw [show U - 1 - 1 = U - 2 by omega] at h2
  have : W (U - 2) = d := by omega
  exact hM (this ▸ key (U - 2) (Nat.le_refl _))
end Hd
