import Derived.Test.YtmbokpfgnicboaaGreatRw
import Derived.Test.YtmbokpfgnicboaaGreatS1
set_option linter.unusedVariables false
set_option linter.unusedSimpArgs false
/- A code of scores, read as data, opened. -/
namespace Go.Proofs.YtmbokpfgnicboaaGreat
open Go.RowKit Go.ChangeShapes Go.WideShapes Go.ChangeAt Go.Deep Go.Hd _root_.Hd

theorem rdI_of_list {W : World} {k : IntKind} {a : Option Addr} {len cap : Nat} {zs : List Int} (hl : len ≤ cap) (hm : cap ≤ maxLen) (hz : zs.length = cap) (h0 : a = none → cap = 0)
    (hc : ∀ a', a = some a' → ∀ c, c < cap → W.cell? (a'.add c) = some (.int k (zs.getD c 0))) : RdV W (.slice a len cap) len (fun j => .int k (zs.getD j 0)) := by
  refine ⟨a, cap, rfl, hl, hm, fun hn => ?_⟩
  cases a with
  | none => have := h0 rfl; omega
  | some a' =>
    have h1 := hc a' rfl
    obtain ⟨b, off, rfl⟩ := addr_plain (h1 0 (by omega))
    refine ⟨b, off, rfl, fun j hj => ?_⟩
    have h2 := h1 j (by omega)
    rw [Go.Hd.add_plain] at h2
    exact h2

/-- A slice of whole numbers, opened where it lies in a struct. -/
theorem open_rdI {H : Type} {enc : TypeId × Value → H} {P : Program} {W : World} {t e : TypeId} {k : IntKind} {fuel : Nat} {v : Value} {x : DataW H × List MemPlace} (ht : P.underlying t = some (.slice e)) (he : P.underlying e = some (.int k)) (hc1 : P.cellsOf e = 1)
    (h : DataW.trod enc P W 0 (fun _ => true) true fuel t [v] = some x) : ∃ (len : Nat) (zs : List Int), RdV W v len (fun j => .int k (zs.getD j 0)) := by
  rcases open_ints ht he hc1 h with ⟨hcs, _⟩ | ⟨a, l, c, zs, hcs, _, hl, hm, hz, _, hcell, _⟩
  · simp at hcs
    subst hcs
    exact ⟨0, [], none, 0, rfl, Nat.le_refl _, by unfold maxLen; omega, fun h => by omega⟩
  · simp at hcs
    subst hcs
    simp only [if_true] at hz
    exact ⟨l, zs, rdI_of_list hl hm hz (fun h => by cases h) (fun a' ha c' hc => by cases ha; exact hcell c' (by rw [hz]; exact hc))⟩

/-- Sixteen bytes of an array. -/
theorem open_key {H : Type} {enc : TypeId × Value → H} {P : Program} {W : World} {base : Nat} {spare : Nat → Bool} {held : Bool} {t e : TypeId} {fuel : Nat} {cs : List Value} {x : DataW H × List MemPlace} (ht : P.underlying t = some (.array 16 e)) (he : P.underlying e = some (.int .u8)) (hc1 : P.cellsOf e = 1)
    (h : DataW.trod enc P W base spare held fuel t cs = some x) (hcs : cs.length = 16) : ∃ K : Nat → Nat, Kb K ∧ cs = (List.range 16).map fun i => .int .u8 (K i : Int) := by
  obtain ⟨xs, m, _, _, _, hxl, hi⟩ := DataW.trod_array ht h
  have hcell : ∀ i, i < 16 → ∃ z : Int, cs[i]? = some (.int .u8 z) ∧ (Lit.int .u8 z).wf = true := fun i hi16 => by
    have h1 := hi i hi16
    have hd : (cs.drop i).take 1 = [cs[i]'(by omega)] := by rw [List.drop_eq_getElem_cons (by omega)]; rfl
    rw [hc1, Nat.mul_one, hd] at h1
    have hx : xs[i]? = some (xs[i]'(by omega)) := List.getElem?_eq_getElem (by omega)
    rw [hx] at h1
    obtain ⟨z, hz, _, hw⟩ := DataW.trod_int he h1
    rw [List.cons.injEq] at hz
    exact ⟨z, by rw [List.getElem?_eq_getElem (by omega), hz.1], hw⟩
  refine ⟨fun i => match cs[i]? with | some (.int _ z) => z.toNat | _ => 0, fun j hj => ?_, ?_⟩
  · obtain ⟨z, hz, hw⟩ := hcell j hj
    have := wf_u8 hw
    simp only [hz]
    omega
  · apply List.ext_getElem?
    intro i
    rcases Nat.lt_or_ge i 16 with h16 | h16
    · obtain ⟨z, hz, hw⟩ := hcell i h16
      have hzz := wf_u8 hw
      rw [hz, List.getElem?_map, List.getElem?_range h16]
      simp only [Option.map_some, hz]
      congr 2
      omega
    · rw [List.getElem?_eq_none (by omega), List.getElem?_eq_none (by simp; omega)]

theorem open_scores {H : Type} {enc : TypeId × Value → H} {P : Program} {W : World} {r : Reach} {b0 : Nat} {t te tu : TypeId} {f0 f1 f2 f3 : Field} {v : Value} {d : DataW H} {p : List MemPlace} (hs : P.underlying t = some (.struct #[f0, f1, f2, f3])) (hC : P.cellsOf t = 19)
    (o0 : f0.offset = 0) (c0 : P.cellsOf f0.type = 1) (u0 : P.underlying f0.type = some (.int .i64)) (o1 : f1.offset = 1) (c1 : P.cellsOf f1.type = 1) (u1 : P.underlying f1.type = some (.int .i64))
    (o2 : f2.offset = 2) (c2 : P.cellsOf f2.type = 1) (u2 : P.underlying f2.type = some (.slice te)) (ue : P.underlying te = some (.int .i64)) (ce : P.cellsOf te = 1)
    (o3 : f3.offset = 3) (c3 : P.cellsOf f3.type = 16) (u3 : P.underlying f3.type = some (.array 16 tu)) (uu : P.underlying tu = some (.int .u8)) (cu : P.cellsOf tu = 1)
    (hv : Value.okWide P W r b0 t v) (h : DataW.Trod enc P W 0 (fun _ => true) true t v d p) :
    ∃ (U Bs : Int) (sl : Value) (K : Nat → Nat) (n : Nat) (a : Nat → Int), v = scV U Bs sl K ∧ Kb K ∧ RdV W sl n (fun j => .int .i64 (a j)) := by
  obtain ⟨cs, rfl, hsz⟩ := okWide_struct hs hv
  obtain ⟨l⟩ := cs
  have hl : l.length = 19 := hsz.trans hC
  obtain ⟨fuel, hf⟩ := h
  obtain ⟨xs, n, _, _, _, hlen, hg⟩ := DataW.trod_struct hs hf
  have hcl : (Value.agg ⟨l⟩).cells.toList = l := by simp [Value.cells]
  have hx : ∀ i, i < 4 → ∃ x, xs[i]? = some x := fun i hi => ⟨_, List.getElem?_eq_getElem (by rw [hlen]; exact hi)⟩
  obtain ⟨x0, e0⟩ := hx 0 (by omega)
  obtain ⟨x1, e1⟩ := hx 1 (by omega)
  obtain ⟨x2, e2⟩ := hx 2 (by omega)
  obtain ⟨x3, e3⟩ := hx 3 (by omega)
  have g0 := hg 0 f0 rfl
  have g1 := hg 1 f1 rfl
  have g2 := hg 2 f2 rfl
  have g3 := hg 3 f3 rfl
  rw [e0, o0, c0] at g0
  rw [e1, o1, c1] at g1
  rw [e2, o2, c2] at g2
  rw [e3, o3, c3] at g3
  simp only [hcl] at g0 g1 g2 g3
  match l, hl with
  | [v0, v1, v2, k0, k1, k2, k3, k4, k5, k6, k7, k8, k9, k10, k11, k12, k13, k14, k15], _ =>
    simp only [List.drop_zero, List.take_succ_cons, List.take_zero, List.drop_succ_cons] at g0 g1 g2 g3
    obtain ⟨U, hU, _⟩ := DataW.trod_int u0 g0
    obtain ⟨Bs, hB, _⟩ := DataW.trod_int u1 g1
    obtain ⟨len, zs, hr⟩ := open_rdI u2 ue ce g2
    obtain ⟨K, hK, hk⟩ := open_key u3 uu cu g3 rfl
    simp at hU hB
    subst hU hB
    refine ⟨U, Bs, v2, K, len, fun j => zs.getD j 0, ?_, hK, hr⟩
    simp [List.range_succ] at hk
    obtain ⟨rfl, rfl, rfl, rfl, rfl, rfl, rfl, rfl, rfl, rfl, rfl, rfl, rfl, rfl, rfl, rfl⟩ := hk
    rfl
end Go.Proofs.YtmbokpfgnicboaaGreat
