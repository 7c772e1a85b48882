import Derived.Test.YtmbokpfgnicboaaGreatRs
import Derived.Test.YtmbokpfgnicboaaGreatSt
set_option linter.unusedVariables false
set_option linter.unusedSimpArgs false
/- A code of steps, read as data, opened. -/
namespace Go.Proofs.YtmbokpfgnicboaaGreat
open Go.RowKit Go.ChangeShapes Go.WideShapes Go.ChangeAt Go.Deep Go.Hd _root_.Hd

theorem wf_u32 {n : Int} (h : (Lit.int .u32 n).wf = true) : 0 ≤ n ∧ n < ((B : Nat) : Int) := by
  simp only [Lit.wf, Bool.and_eq_true, decide_eq_true_eq] at h
  have e1 : IntKind.u32.min = 0 := rfl
  have e2 : IntKind.u32.max = 4294967295 := rfl
  unfold B
  omega

/-- A slice of digits, opened where it lies in a struct. -/
theorem open_digits {H : Type} {enc : TypeId × Value → H} {P : Program} {W : World} {t e : TypeId} {fuel : Nat} {v : Value} {x : DataW H × List MemPlace} (ht : P.underlying t = some (.slice e)) (he : P.underlying e = some (.int .u32)) (hc1 : P.cellsOf e = 1)
    (h : DataW.trod enc P W 0 (fun _ => true) true fuel t [v] = some x) : ∃ (len : Nat) (f : Nat → Nat), Rd W .u32 v len f ∧ ∀ j, j < len → f j < B := by
  rcases open_ints ht he hc1 h with ⟨hcs, _⟩ | ⟨a, l, c, zs, hcs, _, hl, hm, hz, _, hcell, hwz⟩
  · simp at hcs
    subst hcs
    exact ⟨0, fun _ => 0, Rd.nil _ _ _, fun j hj => absurd hj (by omega)⟩
  · simp at hcs
    subst hcs
    simp only [if_true] at hz
    refine ⟨l, nat zs, rd_of_list hl hm hz (fun h => by cases h) (fun a' ha c' hc => ?_) (fun n hn => (wf_u32 (hwz n hn)).1), fun j _ => nat_lt B_pos (fun n hn => (wf_u32 (hwz n hn)).2) j⟩
    cases ha
    exact hcell c' (by rw [hz]; exact hc)

theorem open_steps {H : Type} {enc : TypeId × Value → H} {P : Program} {W : World} {r : Reach} {b0 : Nat} {t te tu : TypeId} {f0 f1 f2 f3 g0 g1 : Field} {v : Value} {d : DataW H} {p : List MemPlace} (hs : P.underlying t = some (.struct #[f0, f1, f2, f3])) (hC : P.cellsOf t = 20)
    (o0 : f0.offset = 0) (c0 : P.cellsOf f0.type = 1) (u0 : P.underlying f0.type = some (.int .i64)) (o1 : f1.offset = 1) (c1 : P.cellsOf f1.type = 1) (u1 : P.underlying f1.type = some (.int .i64))
    (o2 : f2.offset = 2) (c2 : P.cellsOf f2.type = 16) (u2 : P.underlying f2.type = some (.array 16 tu)) (uu : P.underlying tu = some (.int .u8)) (cu : P.cellsOf tu = 1)
    (o3 : f3.offset = 18) (c3 : P.cellsOf f3.type = 2) (u3 : P.underlying f3.type = some (.struct #[g0, g1])) (p0 : g0.offset = 0) (d0 : P.cellsOf g0.type = 1) (w0 : P.underlying g0.type = some (.slice te)) (p1 : g1.offset = 1) (d1 : P.cellsOf g1.type = 1) (w1 : P.underlying g1.type = some (.slice te)) (ue : P.underlying te = some (.int .u32)) (ce : P.cellsOf te = 1)
    (hv : Value.okWide P W r b0 t v) (h : DataW.Trod enc P W 0 (fun _ => true) true t v d p) :
    ∃ (U Bk : Int) (K : Nat → Nat) (n m : Nat) (f g : Nat → Nat) (lv lu : Value), v = stV U Bk K lv lu ∧ Kb K ∧ Rd W .u32 lv n f ∧ Rd W .u32 lu m g ∧ (∀ j, j < n → f j < B) ∧ (∀ j, j < m → g j < B) := by
  obtain ⟨cs, rfl, hsz⟩ := okWide_struct hs hv
  obtain ⟨l⟩ := cs
  have hl : l.length = 20 := hsz.trans hC
  obtain ⟨fuel, hf⟩ := h
  obtain ⟨xs, n, _, _, _, hlen, hg⟩ := DataW.trod_struct hs hf
  have hcl : (Value.agg ⟨l⟩).cells.toList = l := by simp [Value.cells]
  have hx : ∀ i, i < 4 → ∃ x, xs[i]? = some x := fun i hi => ⟨_, List.getElem?_eq_getElem (by rw [hlen]; exact hi)⟩
  obtain ⟨x0, e0⟩ := hx 0 (by omega)
  obtain ⟨x1, e1⟩ := hx 1 (by omega)
  obtain ⟨x2, e2⟩ := hx 2 (by omega)
  obtain ⟨x3, e3⟩ := hx 3 (by omega)
  have g0' := hg 0 f0 rfl
  have g1' := hg 1 f1 rfl
  have g2' := hg 2 f2 rfl
  have g3' := hg 3 f3 rfl
  rw [e0, o0, c0] at g0'
  rw [e1, o1, c1] at g1'
  rw [e2, o2, c2] at g2'
  rw [e3, o3, c3] at g3'
  simp only [hcl] at g0' g1' g2' g3'
  match l, hl with
  | [v0, v1, k0, k1, k2, k3, k4, k5, k6, k7, k8, k9, k10, k11, k12, k13, k14, k15, y0, y1], _ =>
    simp only [List.drop_zero, List.take_succ_cons, List.take_zero, List.drop_succ_cons] at g0' g1' g2' g3'
    obtain ⟨U, hU, _⟩ := DataW.trod_int u0 g0'
    obtain ⟨Bk, hB, _⟩ := DataW.trod_int u1 g1'
    obtain ⟨K, hK, hk⟩ := open_key u2 uu cu g2' rfl
    obtain ⟨ys, n2, _, _, _, hlen2, hg2⟩ := DataW.trod_struct u3 g3'
    have hy : ∀ i, i < 2 → ∃ x, ys[i]? = some x := fun i hi => ⟨_, List.getElem?_eq_getElem (by rw [hlen2]; exact hi)⟩
    obtain ⟨z0, q0⟩ := hy 0 (by omega)
    obtain ⟨z1, q1⟩ := hy 1 (by omega)
    have s0 := hg2 0 g0 rfl
    have s1 := hg2 1 g1 rfl
    rw [q0, p0, d0] at s0
    rw [q1, p1, d1] at s1
    simp only [List.drop_zero, List.take_succ_cons, List.take_zero, List.drop_succ_cons] at s0 s1
    obtain ⟨n', f, hr, hfB⟩ := open_digits w0 ue ce s0
    obtain ⟨m', g, hr2, hgB⟩ := open_digits w1 ue ce s1
    simp at hU hB
    subst hU hB
    refine ⟨U, Bk, K, n', m', f, g, y0, y1, ?_, hK, hr, hr2, hfB, hgB⟩
    simp [List.range_succ] at hk
    obtain ⟨rfl, rfl, rfl, rfl, rfl, rfl, rfl, rfl, rfl, rfl, rfl, rfl, rfl, rfl, rfl, rfl⟩ := hk
    rfl
end Go.Proofs.YtmbokpfgnicboaaGreat
