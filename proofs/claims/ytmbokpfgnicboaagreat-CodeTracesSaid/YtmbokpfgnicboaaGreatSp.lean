import Derived.Test.YtmbokpfgnicboaaGreatSo
set_option linter.unusedVariables false
set_option linter.unusedSimpArgs false
/- Fractions and single numbers, read as data, opened. -/
namespace Go.Proofs.YtmbokpfgnicboaaGreat
open Go.RowKit Go.ChangeShapes Go.WideShapes Go.ChangeAt Go.Deep Go.Hd _root_.Hd

theorem open_fraction {H : Type} {enc : TypeId × Value → H} {P : Program} {W : World} {r : Reach} {b0 : Nat} {t te : TypeId} {g0 g1 : Field} {v : Value} {d : DataW H} {p : List MemPlace} (hs : P.underlying t = some (.struct #[g0, g1])) (hC : P.cellsOf t = 2)
    (p0 : g0.offset = 0) (d0 : P.cellsOf g0.type = 1) (w0 : P.underlying g0.type = some (.slice te)) (p1 : g1.offset = 1) (d1 : P.cellsOf g1.type = 1) (w1 : P.underlying g1.type = some (.slice te)) (ue : P.underlying te = some (.int .u32)) (ce : P.cellsOf te = 1)
    (hv : Value.okWide P W r b0 t v) (h : DataW.Trod enc P W 0 (fun _ => true) true t v d p) :
    ∃ (n m : Nat) (f g : Nat → Nat) (lv lu : Value), v = .agg #[lv, lu] ∧ Rd W .u32 lv n f ∧ Rd W .u32 lu m g ∧ (∀ j, j < n → f j < B) ∧ (∀ j, j < m → g j < B) := by
  obtain ⟨cs, rfl, hsz⟩ := okWide_struct hs hv
  obtain ⟨l⟩ := cs
  have hl : l.length = 2 := hsz.trans hC
  obtain ⟨fuel, hf⟩ := h
  obtain ⟨xs, n, _, _, _, hlen, hg⟩ := DataW.trod_struct hs hf
  have hcl : (Value.agg ⟨l⟩).cells.toList = l := by simp [Value.cells]
  have hx : ∀ i, i < 2 → ∃ x, xs[i]? = some x := fun i hi => ⟨_, List.getElem?_eq_getElem (by rw [hlen]; exact hi)⟩
  obtain ⟨x0, e0⟩ := hx 0 (by omega)
  obtain ⟨x1, e1⟩ := hx 1 (by omega)
  have g0' := hg 0 g0 rfl
  have g1' := hg 1 g1 rfl
  rw [e0, p0, d0] at g0'
  rw [e1, p1, d1] at g1'
  simp only [hcl] at g0' g1'
  match l, hl with
  | [y0, y1], _ =>
    simp only [List.drop_zero, List.take_succ_cons, List.take_zero, List.drop_succ_cons] at g0' g1'
    obtain ⟨n', f, hr, hfB⟩ := open_digits w0 ue ce g0'
    obtain ⟨m', g, hr2, hgB⟩ := open_digits w1 ue ce g1'
    exact ⟨n', m', f, g, y0, y1, rfl, hr, hr2, hfB, hgB⟩

theorem open_uint {H : Type} {enc : TypeId × Value → H} {P : Program} {W : World} {r : Reach} {b0 : Nat} {t : TypeId} {k : IntKind} {v : Value} {d : DataW H} {p : List MemPlace} (ht : P.underlying t = some (.int k)) (hk : 0 ≤ k.min)
    (hv : Value.okWide P W r b0 t v) (h : DataW.Trod enc P W 0 (fun _ => true) true t v d p) : ∃ x : Nat, v = .int k x ∧ (x : Int) ≤ k.max := by
  obtain ⟨y, rfl⟩ := okWide_int ht hv
  obtain ⟨fuel, hf⟩ := h
  obtain ⟨U, hU, hw⟩ := DataW.trod_int ht hf
  simp [Value.cells] at hU
  subst hU
  have hw' : (Lit.int k y).wf = true := by first | exact hw | exact hw.1 | exact hw.2
  simp only [Lit.wf, Bool.and_eq_true, decide_eq_true_eq] at hw'
  obtain ⟨z, rfl⟩ := Int.eq_ofNat_of_zero_le (show 0 ≤ y by omega)
  exact ⟨z, rfl, by omega⟩
end Go.Proofs.YtmbokpfgnicboaaGreat
