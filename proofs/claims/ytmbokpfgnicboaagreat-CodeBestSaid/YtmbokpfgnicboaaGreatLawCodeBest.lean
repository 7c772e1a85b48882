import Derived.Test.YtmbokpfgnicboaaGreatRows
import Derived.Test.YtmbokpfgnicboaaGreatG10
import Derived.Test.YtmbokpfgnicboaaGreatRs
set_option linter.unusedVariables false
set_option linter.unusedSimpArgs false
/- For any code of scores, word and copy: no word has a higher score than the copy itself, and one that differs in a readable place has a lower one; a word and its opposite have each place once as a match and once as a mismatch. Its conditions: none. -/
namespace Go.Proofs.YtmbokpfgnicboaaGreat.codeBest
open Go.RowKit Go.ChangeShapes Go.WideShapes Go.ChangeAt Go.Hd
open Go.ChangeMaps (open_string shut_string)
theorem own : ownKnob Tryz.prog.godebug = none := by kernel_rfl
theorem laidOut : laidOutB Tryz.prog = true := by kernel_rfl
set_option maxRecDepth 100000 in
theorem lifted (os : Os) (started : os.Started) (H : Type) (enc : TypeId × Value → H) :
    ReturnsInHanded {} Tryz.checked os 10 .any (Rows.codeBestSpec.pre6 enc Tryz.prog Tryz.f10 Rows.codeBestRow.domain false) (Rows.codeBestSpec.post enc Tryz.prog Tryz.f10 false true false false) := by
  refine returnsInHanded_of_change_sized (C := Tryz.checked) own started (by kernel_rfl) Tryz.func10
    (ChangeSpec.witness6 (enc := enc) (C := Tryz.checked) false ⟨#[], #[.agg #[.int .i64 0, .int .i64 0, .slice none 0 0, .int .u8 0, .int .u8 0, .int .u8 0, .int .u8 0, .int .u8 0, .int .u8 0, .int .u8 0, .int .u8 0, .int .u8 0, .int .u8 0, .int .u8 0, .int .u8 0, .int .u8 0, .int .u8 0, .int .u8 0, .int .u8 0], .slice none 0 0, .slice none 0 0], []⟩ 8 (by kernel_rfl) (by kernel_rfl) (by kernel_rfl) (by kernel_rfl)) ?_
  intro W base args ds gs before hval0 hW hcnd hsz0 _
  have hsz : (DataW.weightsEach Tryz.prog (Tryz.f10.params.toList ++ Rows.codeBestSpec.plain.varTypes Tryz.prog) (ds ++ gs)).all (· ≤ reachBytes) = true := hsz0
  have hval : ∀ (j : Nat) t v, Tryz.f10.params[j]? = some t → args[j]? = some v → Value.okWide Tryz.prog W .any base t v := hval0
  have hW' := hW
  obtain ⟨p, q, hA0, hV, rfl, hfz, hnd⟩ := hW
  have hA : DataW.TrodAll enc Tryz.prog W 0 (fun _ => true) true Tryz.f10.params.toList args.toList ds p := hA0
  rw [Tryz.params10] at hA hval hsz
  obtain ⟨v0, vs0, d0, ds0, p0, q0, hargs, rfl, rfl, h0, r0⟩ := trodAll_cons hA
  obtain ⟨v1, vs1, d1, ds1, p1, q1, rfl, rfl, rfl, h1, r1⟩ := trodAll_cons r0
  obtain ⟨v2, vs2, d2, ds2, p2, q2, rfl, rfl, rfl, h2, r2⟩ := trodAll_cons r1
  obtain ⟨rfl, rfl, rfl⟩ := trodAll_nil r2
  obtain rfl : args = #[v0, v1, v2] := by cases args; simp_all
  obtain ⟨rfl, rfl⟩ := trodVars_none hV
  have o0 := hval 0 46 v0 rfl rfl
  obtain ⟨a1, len1, cap1, rfl⟩ := okWide_slice Tryz.underlying30 (hval 1 30 v1 rfl rfl)
  obtain ⟨a2, len2, cap2, rfl⟩ := okWide_slice Tryz.underlying30 (hval 2 30 v2 rfl rfl)
  have k0 := h0
  have k1 := h1
  have k2 := h2
  have lt0 : ∀ x ∈ p0, x.block < W.heap.size := by obtain ⟨m, hm⟩ := k0; exact DataW.trod_lt m _ _ _ hm
  have lt1 : ∀ x ∈ p1, x.block < W.heap.size := by obtain ⟨m, hm⟩ := k1; exact DataW.trod_lt m _ _ _ hm
  have lt2 : ∀ x ∈ p2, x.block < W.heap.size := by obtain ⟨m, hm⟩ := k2; exact DataW.trod_lt m _ _ _ hm
  obtain ⟨U0, Bs0, sl0, K0, n0, a0, rfl, gK0, gR0⟩ := open_scores (te := 3) (tu := 5) Tryz.underlying46 (by kernel_rfl) rfl (by kernel_rfl) Tryz.underlying3 rfl (by kernel_rfl) Tryz.underlying3 rfl (by kernel_rfl) Tryz.underlying38 Tryz.underlying3 (by kernel_rfl) rfl (by kernel_rfl) Tryz.underlying23 Tryz.underlying5 (by kernel_rfl) o0 h0
  obtain ⟨zs1, e1, b1⟩ := open_rd Tryz.underlying30 Tryz.underlying5 (by kernel_rfl) h1 (fun n hn => (wf_u8 hn).1)
  have s1 := sized_rd hsz (j := 1) (t := 30) (bytes := 1) rfl rfl Tryz.underlying30 Tryz.underlying5 (by kernel_rfl) (by kernel_rfl) h1
  have y1 : ∀ j, j < len1 → nat zs1 j < 256 := fun j _ => nat_lt (M := 256) (by omega) (fun n hn => (wf_u8 (b1 n hn)).2) j
  obtain ⟨zs2, e2, b2⟩ := open_rd Tryz.underlying30 Tryz.underlying5 (by kernel_rfl) h2 (fun n hn => (wf_u8 hn).1)
  have s2 := sized_rd hsz (j := 2) (t := 30) (bytes := 1) rfl rfl Tryz.underlying30 Tryz.underlying5 (by kernel_rfl) (by kernel_rfl) h2
  have y2 : ∀ j, j < len2 → nat zs2 j < 256 := fun j _ => nat_lt (M := 256) (by omega) (fun n hn => (wf_u8 (b2 n hn)).2) j
  clear hA0 hval0 hsz0 hsz
  refine (law10 U0 Bs0 sl0 K0 n0 a0 len1 (nat zs1) len2 (nat zs2) _ _ W gR0 e1 e2 y1 y2).mono fun e W' ⟨he, bel⟩ => ?_
  subst he
  exact ⟨_, rfl, _, _, _, [], _, [], hW', trodAll_mk1 (shut_bool Tryz.underlying4 _), (trodAll_cons_mk (Below.trod laidOut (by kernel_rfl) (of_decide_eq_true (by kernel_rfl)) k0 bel lt0) (trodAll_cons_mk (Below.trod laidOut (by kernel_rfl) (of_decide_eq_true (by kernel_rfl)) k1 bel lt1) (trodAll_cons_mk (Below.trod laidOut (by kernel_rfl) (of_decide_eq_true (by kernel_rfl)) k2 bel lt2) trodAll_mk0))), rfl, bel.frame _, fun h => by cases h⟩
theorem over : Rows.codeBestRow.holds Tryz.pinned (OpenSpec.ofChange Rows.codeBestSpec) :=
  OpenClaim.holds_of_wide 10 Tryz.f10 rfl rfl rfl rfl rfl rfl rfl ⟨rfl, rfl, rfl, rfl, rfl⟩ rfl rfl rfl rfl rfl (by kernel_rfl) Tryz.func10 (by kernel_rfl)
    (of_decide_eq_true (by kernel_rfl)) (by unfold Func.isWrapper; first | (rw [if_pos (by decide +kernel)]; kernel_rfl) | (rw [if_neg (by decide +kernel)]; exact ⟨rfl, rfl⟩))
    (fun os started H enc _ => lifted os started H enc)
theorem proved : Rows.CodeBestSaid := over
#print axioms proved
end Go.Proofs.YtmbokpfgnicboaaGreat.codeBest
namespace Go.Proofs.YtmbokpfgnicboaaGreat
theorem codeBest_holds : Rows.CodeBestSaid := codeBest.proved
end Go.Proofs.YtmbokpfgnicboaaGreat
