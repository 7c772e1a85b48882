import Derived.Test.YtmbokpfgnicboaaGreatRows
import Derived.Test.YtmbokpfgnicboaaGreatG18
import Derived.Test.YtmbokpfgnicboaaGreatSo
set_option linter.unusedVariables false
set_option linter.unusedSimpArgs false
/- For any code of steps: one of 2 or 3 users is complete exactly if nothing escapes. Its conditions: none. -/
namespace Go.Proofs.YtmbokpfgnicboaaGreat.codeEscapes
open Go.RowKit Go.ChangeShapes Go.WideShapes Go.ChangeAt Go.Hd
open Go.ChangeMaps (open_string shut_string)
theorem own : ownKnob Tryz.prog.godebug = none := by kernel_rfl
theorem laidOut : laidOutB Tryz.prog = true := by kernel_rfl
set_option maxRecDepth 100000 in
theorem lifted (os : Os) (started : os.Started) (H : Type) (enc : TypeId × Value → H) :
    ReturnsInHanded {} Tryz.checked os 18 .any (Rows.codeEscapesSpec.pre6 enc Tryz.prog Tryz.f18 Rows.codeEscapesRow.domain false) (Rows.codeEscapesSpec.post enc Tryz.prog Tryz.f18 false true false false) := by
  refine returnsInHanded_of_change_sized (C := Tryz.checked) own started (by kernel_rfl) Tryz.func18
    (ChangeSpec.witness6 (enc := enc) (C := Tryz.checked) false ⟨#[], #[.agg #[.int .i64 0, .int .i64 0, .int .u8 0, .int .u8 0, .int .u8 0, .int .u8 0, .int .u8 0, .int .u8 0, .int .u8 0, .int .u8 0, .int .u8 0, .int .u8 0, .int .u8 0, .int .u8 0, .int .u8 0, .int .u8 0, .int .u8 0, .int .u8 0, .slice none 0 0, .slice none 0 0]], []⟩ 8 (by kernel_rfl) (by kernel_rfl) (by kernel_rfl) (by kernel_rfl)) ?_
  intro W base args ds gs before hval0 hW hcnd hsz0 _
  have hsz : (DataW.weightsEach Tryz.prog (Tryz.f18.params.toList ++ Rows.codeEscapesSpec.plain.varTypes Tryz.prog) (ds ++ gs)).all (· ≤ reachBytes) = true := hsz0
  have hval : ∀ (j : Nat) t v, Tryz.f18.params[j]? = some t → args[j]? = some v → Value.okWide Tryz.prog W .any base t v := hval0
  have hW' := hW
  obtain ⟨p, q, hA0, hV, rfl, hfz, hnd⟩ := hW
  have hA : DataW.TrodAll enc Tryz.prog W 0 (fun _ => true) true Tryz.f18.params.toList args.toList ds p := hA0
  rw [Tryz.params18] at hA hval hsz
  obtain ⟨v0, vs0, d0, ds0, p0, q0, hargs, rfl, rfl, h0, r0⟩ := trodAll_cons hA
  obtain ⟨rfl, rfl, rfl⟩ := trodAll_nil r0
  obtain rfl : args = #[v0] := by cases args; simp_all
  obtain ⟨rfl, rfl⟩ := trodVars_none hV
  have o0 := hval 0 29 v0 rfl rfl
  have k0 := h0
  have lt0 : ∀ x ∈ p0, x.block < W.heap.size := by obtain ⟨m, hm⟩ := k0; exact DataW.trod_lt m _ _ _ hm
  obtain ⟨U0, Bk0, K0, n0, m0, f0, g0, lv0, lu0, rfl, gK0, gR0, gS0, gf0, gg0⟩ := open_steps (te := 158) (tu := 5) Tryz.underlying29 (by kernel_rfl) rfl (by kernel_rfl) Tryz.underlying3 rfl (by kernel_rfl) Tryz.underlying3 rfl (by kernel_rfl) Tryz.underlying23 Tryz.underlying5 (by kernel_rfl) rfl (by kernel_rfl) Tryz.underlying27 rfl (by kernel_rfl) Tryz.underlying25 rfl (by kernel_rfl) Tryz.underlying25 Tryz.underlying158 (by kernel_rfl) o0 h0
  clear hA0 hval0 hsz0 hsz
  refine (law18 U0 Bk0 K0 n0 m0 f0 g0 lv0 lu0 W gR0 gS0 gf0 gg0 gK0).mono fun e W' ⟨he, bel⟩ => ?_
  subst he
  exact ⟨_, rfl, _, _, _, [], _, [], hW', trodAll_mk1 (shut_bool Tryz.underlying4 _), (trodAll_cons_mk (Below.trod laidOut (by kernel_rfl) (of_decide_eq_true (by kernel_rfl)) k0 bel lt0) trodAll_mk0), rfl, bel.frame _, fun h => by cases h⟩
theorem over : Rows.codeEscapesRow.holds Tryz.pinned (OpenSpec.ofChange Rows.codeEscapesSpec) :=
  OpenClaim.holds_of_wide 18 Tryz.f18 rfl rfl rfl rfl rfl rfl rfl ⟨rfl, rfl, rfl, rfl, rfl⟩ rfl rfl rfl rfl rfl (by kernel_rfl) Tryz.func18 (by kernel_rfl)
    (of_decide_eq_true (by kernel_rfl)) (by unfold Func.isWrapper; first | (rw [if_pos (by decide +kernel)]; kernel_rfl) | (rw [if_neg (by decide +kernel)]; exact ⟨rfl, rfl⟩))
    (fun os started H enc _ => lifted os started H enc)
theorem proved : Rows.CodeEscapesSaid := over
#print axioms proved
end Go.Proofs.YtmbokpfgnicboaaGreat.codeEscapes
namespace Go.Proofs.YtmbokpfgnicboaaGreat
theorem codeEscapes_holds : Rows.CodeEscapesSaid := codeEscapes.proved
end Go.Proofs.YtmbokpfgnicboaaGreat
