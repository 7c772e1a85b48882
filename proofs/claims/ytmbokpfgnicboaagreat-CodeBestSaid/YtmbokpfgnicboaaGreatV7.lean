import Derived.Test.YtmbokpfgnicboaaGreatV3
set_option linter.unusedVariables false
set_option linter.unusedSimpArgs false
/- Copies of slices that are written into afterwards. -/
namespace Go.Proofs.YtmbokpfgnicboaaGreat
open Go.RowKit Go.Hd Go.Sort _root_.Hd

/-- An own slice of at least one cell, as a row. -/
theorem own_row {w : World} {base n : Nat} {e : TypeId} {v : Value} {F : Nat → Value} (h : w.ownsRow base e 1 v n ((List.range n).map F)) (hn : 0 < n) :
    ∃ g cap G, v = .slice (some ⟨g, 0, none⟩) n cap ∧ base ≤ g ∧ n ≤ cap ∧ cap ≤ maxLen ∧ w.rowIs g e cap G ∧ ∀ j, j < n → G j = F j := by
  rcases h.2 with ⟨rfl, h0⟩ | ⟨g, cap, cur, rfl, hb, hh, hnc, hcm, hsz, htk⟩
  · omega
  · rw [Nat.mul_one] at hsz htk
    refine ⟨g, cap, fun j => (cur[j]?).getD undef, rfl, hb, hnc, hcm, ⟨cur, hh, hsz, fun i hi => ?_⟩, fun j hj => ?_⟩
    · have e : cur[i]? = some cur[i] := Array.getElem?_eq_getElem (by omega)
      show cur[i]? = some ((cur[i]?).getD undef)
      rw [e]
      rfl
    · have h1 : (cur.toList.take n)[j]? = some (F j) := by rw [htk]; simp [hj]
      rw [List.getElem?_take_of_lt hj, Array.getElem?_toList] at h1
      dsimp only
      rw [h1]
      rfl
theorem rdV_of_rowc {w : World} {b : Nat} {t : TypeId} {n cap : Nat} {G F : Nat → Value} (h : w.rowIs b t cap G) (hn : n ≤ cap) (hc : cap ≤ maxLen) (hF : ∀ j, j < n → G j = F j) : RdV w (.slice (some ⟨b, 0, none⟩) n cap) n F :=
  ⟨_, _, rfl, hn, hc, fun _ => ⟨b, 0, rfl, fun j hj => by rw [Nat.zero_add, h.cell (by omega), hF j hj]⟩⟩
theorem rd_of_rowc {w : World} {b : Nat} {t : TypeId} {n cap : Nat} {G : Nat → Value} {k : IntKind} {f : Nat → Nat} (h : w.rowIs b t cap G) (hn : n ≤ cap) (hc : cap ≤ maxLen) (hF : ∀ j, j < n → G j = .int k (f j)) : Rd w k (.slice (some ⟨b, 0, none⟩) n cap) n f :=
  rdV_of_rowc h hn hc hF
end Go.Proofs.YtmbokpfgnicboaaGreat
