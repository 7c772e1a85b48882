import Derived.Test.YtmbokpfgnicboaaGreatRows
import Derived.Test.YtmbokpfgnicboaaGreatG4
import Derived.Test.YtmbokpfgnicboaaGreatRs
import Derived.Test.YtmbokpfgnicboaaGreatSp
set_option linter.unusedVariables false
set_option linter.unusedSimpArgs false
/- For any code of scores, copy, limit and user: TraceScores names exactly the users whose words have a score of at least the bound; a user whose word is the copy is named, if the chance of the greatest score is at most the limit. Its conditions: none. -/
namespace Go.Proofs.YtmbokpfgnicboaaGreat.codeTraces
open Go.RowKit Go.ChangeShapes Go.WideShapes Go.ChangeAt Go.Hd
open Go.ChangeMaps (open_string shut_string)
theorem own : ownKnob Tryz.prog.godebug = none := by kernel_rfl
theorem laidOut : laidOutB Tryz.prog = true := by kernel_rfl
set_option maxRecDepth 100000 in
theorem lifted (os : Os) (started : os.Started) (H : Type) (enc : TypeId × Value → H) :
    ReturnsInHanded {} Tryz.checked os 4 .any (Rows.codeTracesSpec.pre6 enc Tryz.prog Tryz.f4 Rows.codeTracesRow.domain false) (Rows.codeTracesSpec.post enc Tryz.prog Tryz.f4 false true false false) := by
  refine returnsInHanded_of_change_sized (C := Tryz.checked) own started (by kernel_rfl) Tryz.func4
    (ChangeSpec.witness6 (enc := enc) (C := Tryz.checked) false ⟨#[], #[.agg #[.int .i64 0, .int .i64 0, .slice none 0 0, .int .u8 0, .int .u8 0, .int .u8 0, .int .u8 0, .int .u8 0, .int .u8 0, .int .u8 0, .int .u8 0, .int .u8 0, .int .u8 0, .int .u8 0, .int .u8 0, .int .u8 0, .int .u8 0, .int .u8 0, .int .u8 0], .slice none 0 0, .agg #[.slice none 0 0, .slice none 0 0], .int .i64 0], []⟩ 8 (by kernel_rfl) (by kernel_rfl) (by kernel_rfl) (by kernel_rfl)) ?_
  intro W base args ds gs before hval0 hW hcnd hsz0 _
  have hsz : (DataW.weightsEach Tryz.prog (Tryz.f4.params.toList ++ Rows.codeTracesSpec.plain.varTypes Tryz.prog) (ds ++ gs)).all (· ≤ reachBytes) = true := hsz0
  have hval : ∀ (j : Nat) t v, Tryz.f4.params[j]? = some t → args[j]? = some v → Value.okWide Tryz.prog W .any base t v := hval0
  have hW' := hW
  obtain ⟨p, q, hA0, hV, rfl, hfz, hnd⟩ := hW
  have hA : DataW.TrodAll enc Tryz.prog W 0 (fun _ => true) true Tryz.f4.params.toList args.toList ds p := hA0
  rw [Tryz.params4] at hA hval hsz
  obtain ⟨v0, vs0, d0, ds0, p0, q0, hargs, rfl, rfl, h0, r0⟩ := trodAll_cons hA
  obtain ⟨v1, vs1, d1, ds1, p1, q1, rfl, rfl, rfl, h1, r1⟩ := trodAll_cons r0
  obtain ⟨v2, vs2, d2, ds2, p2, q2, rfl, rfl, rfl, h2, r2⟩ := trodAll_cons r1
  obtain ⟨v3, vs3, d3, ds3, p3, q3, rfl, rfl, rfl, h3, r3⟩ := trodAll_cons r2
  obtain ⟨rfl, rfl, rfl⟩ := trodAll_nil r3
  obtain rfl : args = #[v0, v1, v2, v3] := by cases args; simp_all
  obtain ⟨rfl, rfl⟩ := trodVars_none hV
  have o0 := hval 0 46 v0 rfl rfl
  obtain ⟨a1, len1, cap1, rfl⟩ := okWide_slice Tryz.underlying30 (hval 1 30 v1 rfl rfl)
  have o2 := hval 2 27 v2 rfl rfl
  obtain ⟨x3, rfl⟩ := okWide_int Tryz.underlying3 (hval 3 3 v3 rfl rfl)
  have k0 := h0
  have k1 := h1
  have k2 := h2
  have k3 := h3
  have lt0 : ∀ x ∈ p0, x.block < W.heap.size := by obtain ⟨m, hm⟩ := k0; exact DataW.trod_lt m _ _ _ hm
  have lt1 : ∀ x ∈ p1, x.block < W.heap.size := by obtain ⟨m, hm⟩ := k1; exact DataW.trod_lt m _ _ _ hm
  have lt2 : ∀ x ∈ p2, x.block < W.heap.size := by obtain ⟨m, hm⟩ := k2; exact DataW.trod_lt m _ _ _ hm
  have lt3 : ∀ x ∈ p3, x.block < W.heap.size := by obtain ⟨m, hm⟩ := k3; exact DataW.trod_lt m _ _ _ hm
  obtain ⟨U0, Bs0, sl0, K0, n0, a0, rfl, gK0, gR0⟩ := open_scores (te := 3) (tu := 5) Tryz.underlying46 (by kernel_rfl) rfl (by kernel_rfl) Tryz.underlying3 rfl (by kernel_rfl) Tryz.underlying3 rfl (by kernel_rfl) Tryz.underlying38 Tryz.underlying3 (by kernel_rfl) rfl (by kernel_rfl) Tryz.underlying23 Tryz.underlying5 (by kernel_rfl) o0 h0
  obtain ⟨zs1, e1, b1⟩ := open_rd Tryz.underlying30 Tryz.underlying5 (by kernel_rfl) h1 (fun n hn => (wf_u8 hn).1)
  have s1 := sized_rd hsz (j := 1) (t := 30) (bytes := 1) rfl rfl Tryz.underlying30 Tryz.underlying5 (by kernel_rfl) (by kernel_rfl) h1
  have y1 : ∀ j, j < len1 → nat zs1 j < 256 := fun j _ => nat_lt (M := 256) (by omega) (fun n hn => (wf_u8 (b1 n hn)).2) j
  obtain ⟨n2, m2, f2, g2, lv2, lu2, rfl, gR2, gS2, gf2, gg2⟩ := open_fraction (te := 158) Tryz.underlying27 (by kernel_rfl) rfl (by kernel_rfl) Tryz.underlying25 rfl (by kernel_rfl) Tryz.underlying25 Tryz.underlying158 (by kernel_rfl) o2 h2
  clear hA0 hval0 hsz0 hsz
  refine (law4t U0 Bs0 sl0 K0 n0 a0 len1 (nat zs1) _ n2 m2 f2 g2 lv2 lu2 x3 W gR0 gK0 e1 y1 gR2 gS2 gf2 gg2).mono fun e W' ⟨he, bel⟩ => ?_
  subst he
  exact ⟨_, rfl, _, _, _, [], _, [], hW', trodAll_mk1 (shut_bool Tryz.underlying4 _), (trodAll_cons_mk (Below.trod laidOut (by kernel_rfl) (of_decide_eq_true (by kernel_rfl)) k0 bel lt0) (trodAll_cons_mk (Below.trod laidOut (by kernel_rfl) (of_decide_eq_true (by kernel_rfl)) k1 bel lt1) (trodAll_cons_mk (Below.trod laidOut (by kernel_rfl) (of_decide_eq_true (by kernel_rfl)) k2 bel lt2) (trodAll_cons_mk (Below.trod laidOut (by kernel_rfl) (of_decide_eq_true (by kernel_rfl)) k3 bel lt3) trodAll_mk0)))), rfl, bel.frame _, fun h => by cases h⟩
theorem over : Rows.codeTracesRow.holds Tryz.pinned (OpenSpec.ofChange Rows.codeTracesSpec) :=
  OpenClaim.holds_of_wide 4 Tryz.f4 rfl rfl rfl rfl rfl rfl rfl ⟨rfl, rfl, rfl, rfl, rfl⟩ rfl rfl rfl rfl rfl (by kernel_rfl) Tryz.func4 (by kernel_rfl)
    (of_decide_eq_true (by kernel_rfl)) (by unfold Func.isWrapper; first | (rw [if_pos (by decide +kernel)]; kernel_rfl) | (rw [if_neg (by decide +kernel)]; exact ⟨rfl, rfl⟩))
    (fun os started H enc _ => lifted os started H enc)
theorem proved : Rows.CodeTracesSaid := over
#print axioms proved
end Go.Proofs.YtmbokpfgnicboaaGreat.codeTraces
namespace Go.Proofs.YtmbokpfgnicboaaGreat
theorem codeTraces_holds : Rows.CodeTracesSaid := codeTraces.proved
end Go.Proofs.YtmbokpfgnicboaaGreat
