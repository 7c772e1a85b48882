import Derived.Test.YtmbokpfgnicboaaGreatRows
import Derived.Test.YtmbokpfgnicboaaGreatL4
import Derived.Test.YtmbokpfgnicboaaGreatSo
set_option linter.unusedVariables false
set_option linter.unusedSimpArgs false
/- For any code of steps, user and copy: the program's StepWord, CheckSteps, Weights and TraceSteps and the reference's tell the same, or the same error; the copy is not changed. Its conditions: none. -/
namespace Go.Proofs.YtmbokpfgnicboaaGreat.codeSteps
open Go.RowKit Go.ChangeShapes Go.WideShapes Go.ChangeAt Go.Hd
open Go.ChangeMaps (open_string shut_string)
theorem own : ownKnob Tryz.prog.godebug = none := by kernel_rfl
theorem laidOut : laidOutB Tryz.prog = true := by kernel_rfl
set_option maxRecDepth 100000 in
theorem lifted (os : Os) (started : os.Started) (H : Type) (enc : TypeId × Value → H) :
    ReturnsInHanded {} Tryz.checked os 3 .any (Rows.codeStepsSpec.pre6 enc Tryz.prog Tryz.f3 Rows.codeStepsRow.domain false) (Rows.codeStepsSpec.post enc Tryz.prog Tryz.f3 false true false false) := by
  refine returnsInHanded_of_change_sized (C := Tryz.checked) own started (by kernel_rfl) Tryz.func3
    (ChangeSpec.witness6 (enc := enc) (C := Tryz.checked) false ⟨#[], #[.agg #[.int .i64 0, .int .i64 0, .int .u8 0, .int .u8 0, .int .u8 0, .int .u8 0, .int .u8 0, .int .u8 0, .int .u8 0, .int .u8 0, .int .u8 0, .int .u8 0, .int .u8 0, .int .u8 0, .int .u8 0, .int .u8 0, .int .u8 0, .int .u8 0, .slice none 0 0, .slice none 0 0], .int .i64 0, .slice none 0 0], []⟩ 8 (by kernel_rfl) (by kernel_rfl) (by kernel_rfl) (by kernel_rfl)) ?_
  intro W base args ds gs before hval0 hW hcnd hsz0 _
  have hsz : (DataW.weightsEach Tryz.prog (Tryz.f3.params.toList ++ Rows.codeStepsSpec.plain.varTypes Tryz.prog) (ds ++ gs)).all (· ≤ reachBytes) = true := hsz0
  have hval : ∀ (j : Nat) t v, Tryz.f3.params[j]? = some t → args[j]? = some v → Value.okWide Tryz.prog W .any base t v := hval0
  have hW' := hW
  obtain ⟨p, q, hA0, hV, rfl, hfz, hnd⟩ := hW
  have hA : DataW.TrodAll enc Tryz.prog W 0 (fun _ => true) true Tryz.f3.params.toList args.toList ds p := hA0
  rw [Tryz.params3] at hA hval hsz
  obtain ⟨v0, vs0, d0, ds0, p0, q0, hargs, rfl, rfl, h0, r0⟩ := trodAll_cons hA
  obtain ⟨v1, vs1, d1, ds1, p1, q1, rfl, rfl, rfl, h1, r1⟩ := trodAll_cons r0
  obtain ⟨v2, vs2, d2, ds2, p2, q2, rfl, rfl, rfl, h2, r2⟩ := trodAll_cons r1
  obtain ⟨rfl, rfl, rfl⟩ := trodAll_nil r2
  obtain rfl : args = #[v0, v1, v2] := by cases args; simp_all
  obtain ⟨rfl, rfl⟩ := trodVars_none hV
  have o0 := hval 0 29 v0 rfl rfl
  obtain ⟨x1, rfl⟩ := okWide_int Tryz.underlying3 (hval 1 3 v1 rfl rfl)
  obtain ⟨a2, len2, cap2, rfl⟩ := okWide_slice Tryz.underlying30 (hval 2 30 v2 rfl rfl)
  have k0 := h0
  have k1 := h1
  have k2 := h2
  have lt0 : ∀ x ∈ p0, x.block < W.heap.size := by obtain ⟨m, hm⟩ := k0; exact DataW.trod_lt m _ _ _ hm
  have lt1 : ∀ x ∈ p1, x.block < W.heap.size := by obtain ⟨m, hm⟩ := k1; exact DataW.trod_lt m _ _ _ hm
  have lt2 : ∀ x ∈ p2, x.block < W.heap.size := by obtain ⟨m, hm⟩ := k2; exact DataW.trod_lt m _ _ _ hm
  obtain ⟨U0, Bk0, K0, n0, m0, f0, g0, lv0, lu0, rfl, gK0, gR0, gS0, gf0, gg0⟩ := open_steps (te := 158) (tu := 5) Tryz.underlying29 (by kernel_rfl) rfl (by kernel_rfl) Tryz.underlying3 rfl (by kernel_rfl) Tryz.underlying3 rfl (by kernel_rfl) Tryz.underlying23 Tryz.underlying5 (by kernel_rfl) rfl (by kernel_rfl) Tryz.underlying27 rfl (by kernel_rfl) Tryz.underlying25 rfl (by kernel_rfl) Tryz.underlying25 Tryz.underlying158 (by kernel_rfl) o0 h0
  obtain ⟨zs2, e2, b2⟩ := open_rd Tryz.underlying30 Tryz.underlying5 (by kernel_rfl) h2 (fun n hn => (wf_u8 hn).1)
  have s2 := sized_rd hsz (j := 2) (t := 30) (bytes := 1) rfl rfl Tryz.underlying30 Tryz.underlying5 (by kernel_rfl) (by kernel_rfl) h2
  have y2 : ∀ j, j < len2 → nat zs2 j < 256 := fun j _ => nat_lt (M := 256) (by omega) (fun n hn => (wf_u8 (b2 n hn)).2) j
  clear hA0 hval0 hsz0 hsz
  refine (law4 U0 Bk0 n0 m0 K0 f0 g0 len2 (nat zs2) lv0 lu0 _ x1 W gR0 gS0 gf0 gg0 gK0 e2 y2 (by omega)).mono fun e W' ⟨he, bel⟩ => ?_
  subst he
  exact ⟨_, rfl, _, _, _, [], _, [], hW', trodAll_mk1 (shut_bool Tryz.underlying4 _), (trodAll_cons_mk (Below.trod laidOut (by kernel_rfl) (of_decide_eq_true (by kernel_rfl)) k0 bel lt0) (trodAll_cons_mk (Below.trod laidOut (by kernel_rfl) (of_decide_eq_true (by kernel_rfl)) k1 bel lt1) (trodAll_cons_mk (Below.trod laidOut (by kernel_rfl) (of_decide_eq_true (by kernel_rfl)) k2 bel lt2) trodAll_mk0))), rfl, bel.frame _, fun h => by cases h⟩
theorem over : Rows.codeStepsRow.holds Tryz.pinned (OpenSpec.ofChange Rows.codeStepsSpec) :=
  OpenClaim.holds_of_wide 3 Tryz.f3 rfl rfl rfl rfl rfl rfl rfl ⟨rfl, rfl, rfl, rfl, rfl⟩ rfl rfl rfl rfl rfl (by kernel_rfl) Tryz.func3 (by kernel_rfl)
    (of_decide_eq_true (by kernel_rfl)) (by unfold Func.isWrapper; first | (rw [if_pos (by decide +kernel)]; kernel_rfl) | (rw [if_neg (by decide +kernel)]; exact ⟨rfl, rfl⟩))
    (fun os started H enc _ => lifted os started H enc)
theorem proved : Rows.CodeStepsSaid := over
#print axioms proved
end Go.Proofs.YtmbokpfgnicboaaGreat.codeSteps
namespace Go.Proofs.YtmbokpfgnicboaaGreat
theorem codeSteps_holds : Rows.CodeStepsSaid := codeSteps.proved
end Go.Proofs.YtmbokpfgnicboaaGreat
