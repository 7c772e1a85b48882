import Derived.Test.YtmbokpfgnicboaaS6
set_option linter.unusedVariables false
set_option linter.unusedSimpArgs false
/- The walks of codes of scores: ScoreWord and Score. -/
namespace Go.Proofs.Ytmbokpfgnicboaa
open Go.RowKit Go.Hd Go.Sort _root_.Hd

theorem rdV_congr {w : World} {v : Value} {n : Nat} {F G : Nat → Value} (h : RdV w v n F) (e : ∀ j, j < n → F j = G j) : RdV w v n G := by
  obtain ⟨A, cap, hv, h1, h2, h3⟩ := h
  exact ⟨A, cap, hv, h1, h2, fun hn => by
    obtain ⟨b, off, hA, hc⟩ := h3 hn
    exact ⟨b, off, hA, fun j hj => by rw [hc j hj, e j hj]⟩⟩
/-- What ScoreWord answers. -/
noncomputable def swE (U Bs : Int) (n : Nat) (a : Nat → Int) (u : Int) : Int := if tt (VS U Bs n a) then (if u < 0 ∨ U ≤ u then 2 else 0) else 70
noncomputable def swL (U Bs : Int) (n : Nat) (a : Nat → Int) (u : Int) : Nat := if tt (VS U Bs n a) then (if u < 0 ∨ U ≤ u then 0 else n) else 0
def swF (K : Nat → Nat) (Bs : Int) (a : Nat → Int) (u : Int) : Nat → Nat := swN K u.toNat Bs.toNat (fun j => (a j).toNat)

theorem vs_nat {U Bs : Int} {n : Nat} {a : Nat → Int} (h : VS U Bs n a) : n ≤ 64 ∧ (Bs.toNat : Int) = Bs ∧ Bs.toNat < 1000 ∧ (∀ j, j < n → ((a j).toNat : Int) = a j) ∧ (∀ j, j < n → (a j).toNat < 1000) := by
  obtain ⟨⟨h1, h2, h3, h4, h5, h6⟩, h7⟩ := h
  exact ⟨h6, by omega, by omega, fun j hj => by have := h7 j hj; omega, fun j hj => by have := h7 j hj; omega⟩

set_option maxHeartbeats 1000000 in
theorem scoreWordE_any (U Bs : Int) (v : Value) (K : Nat → Nat) (n : Nat) (a : Nat → Int) (u : Int) (w : World) (h : RdV w v n (fun j => .int .i64 (a j))) (hK : Kb K) :
    Calls Try.prog 8 #[scV U Bs v K, .int .i64 u] w fun e w' => ∃ sl, e = .returned (.tuple #[sl, .int .i64 (swE U Bs n a u)]) ∧ Rd w' .u8 sl (swL U Bs n a u) (swF K Bs a u) ∧ Below w.heap.size w w' := by
  have HV := Lib.hid h
  have HC := Lib.hid (fun W (hb : Below w.heap.size w W) => checkScores_any U Bs v K n a W (h.below hb))
  obtain ⟨A, cap, rfl, _, _, h3⟩ := h
  clear h3
  have HS := Lib.hid (sc_row w U Bs (.slice A n cap) K 34)
  by_cases hv : VS U Bs n a
  · have hans : Hid (scE U Bs n a = 0) := scE_yes hv
    go_enter Try.func8, Try.ntmps8
    go_wp2_with (refine wp_load_whole rfl 34 _ rfl w.heap.size rfl 34 19 _ _ _ HS.out rfl (sc_cs _ _ _ _) Try.underlying34 rfl sc_size ?_)
    refine (HC.out _ ((Below.refl w.heap.size w).alloc (Nat.le_refl _) _)).mono ?_
    rintro e w1 ⟨rfl, hb⟩
    rw [hans.out]
    have HB1 := Lib.hid (((Below.refl w.heap.size w).alloc (Nat.le_refl _) _).trans (hb.mono (by simp)))
    have HS1 := Lib.hid (HS.out.of_block (hb.block _ HS.out.lt))
    have c0 := HS1.out.cell (i := 0) (by omega)
    dsimp only [scF] at c0
    clear hb
    by_cases hu : u < 0 ∨ U ≤ u
    · have hbad : Hid (swE U Bs n a u = 2) := by show _ = _; unfold swE; rw [tt_pos hv, if_pos rfl, if_pos hu]
      have hlen : Hid (swL U Bs n a u = 0) := by show _ = _; unfold swL; rw [tt_pos hv, if_pos rfl, if_pos hu]
      clear hv
      go_wp2
      all_goals first
        | (exfalso; omega)
        | (go_ret2; exact ⟨_, by rw [hbad.out]; rfl, by rw [hlen.out]; exact Rd.nil _ _ _, HB1.out⟩)
    · have hbad : Hid (swE U Bs n a u = 0) := by show _ = _; unfold swE; rw [tt_pos hv, if_pos rfl, if_neg hu]
      have hlen : Hid (swL U Bs n a u = n) := by show _ = _; unfold swL; rw [tt_pos hv, if_pos rfl, if_neg hu]
      obtain ⟨e1, e2, e3, e4, e5⟩ := vs_nat hv
      have hU : U ≤ 64 := hv.1.2.1
      have hu1 : 0 ≤ u := by omega
      have hu2 : u < U := by omega
      have hW := scoreWord_any U Bs.toNat (.slice A n cap) K n (fun j => (a j).toNat) u.toNat w1 (rdV_congr (HV.out.below HB1.out) (fun j hj => by rw [e4 j hj])) e1 hK (by omega) e3 e5
      rw [e2, Int.toNat_of_nonneg hu1] at hW
      have HW := Lib.hid hW
      have hl63 : n ≤ 9223372036854775807 := by omega
      clear hv hW e1 e2 e3 e4 e5 hu
      go_wp2_with (refine wp_load_whole rfl 34 _ rfl w.heap.size rfl 34 19 _ _ _ HS1.out rfl (sc_cs _ _ _ _) Try.underlying34 rfl sc_size ?_)
      refine HW.out.mono ?_
      rintro e w2 ⟨b, rfl, hr, hb2⟩
      have HR := Lib.hid (rd_of_row hr hl63)
      have HB2 := Lib.hid (HB1.out.trans (hb2.mono HB1.out.size))
      clear hr hb2
      go_wp2
      go_ret2
      exact ⟨_, by rw [hbad.out]; rfl, by rw [hlen.out]; exact HR.out, HB2.out⟩
  · have hans : Hid (scE U Bs n a = 70) := scE_no hv
    have hbad : Hid (swE U Bs n a u = 70) := by show _ = _; unfold swE; rw [tt_neg hv]; rfl
    have hlen : Hid (swL U Bs n a u = 0) := by show _ = _; unfold swL; rw [tt_neg hv]; rfl
    clear hv
    go_enter Try.func8, Try.ntmps8
    go_wp2_with (refine wp_load_whole rfl 34 _ rfl w.heap.size rfl 34 19 _ _ _ HS.out rfl (sc_cs _ _ _ _) Try.underlying34 rfl sc_size ?_)
    refine (HC.out _ ((Below.refl w.heap.size w).alloc (Nat.le_refl _) _)).mono ?_
    rintro e w1 ⟨rfl, hb⟩
    rw [hans.out]
    have HB1 := Lib.hid (((Below.refl w.heap.size w).alloc (Nat.le_refl _) _).trans (hb.mono (by simp)))
    clear hb
    go_wp2
    go_ret2
    exact ⟨_, by rw [hbad.out]; rfl, by rw [hlen.out]; exact Rd.nil _ _ _, HB1.out⟩

set_option maxHeartbeats 1000000 in
theorem refScoreWord_any (U Bs : Int) (v : Value) (K : Nat → Nat) (n : Nat) (a : Nat → Int) (u : Int) (w : World) (h : RdV w v n (fun j => .int .i64 (a j))) (hK : Kb K) :
    Calls Try.prog 9 #[scV U Bs v K, .int .i64 u] w fun e w' => ∃ sl, e = .returned (.tuple #[sl, .int .i64 (swE U Bs n a u)]) ∧ Rd w' .u8 sl (swL U Bs n a u) (swF K Bs a u) ∧ Below w.heap.size w w' := by
  have HV := Lib.hid h
  have HC := Lib.hid (fun W (hb : Below w.heap.size w W) => validScores_any U Bs v K n a W (h.below hb))
  obtain ⟨A, cap, rfl, _, _, h3⟩ := h
  clear h3
  have HS := Lib.hid (sc_row w U Bs (.slice A n cap) K 34)
  by_cases hv : VS U Bs n a
  · have hans : Hid (tt (VS U Bs n a) = true) := tt_pos hv
    go_enter Try.func9, Try.ntmps9
    go_wp2_with (refine wp_load_whole rfl 34 _ rfl w.heap.size rfl 34 19 _ _ _ HS.out rfl (sc_cs _ _ _ _) Try.underlying34 rfl sc_size ?_)
    refine (HC.out _ ((Below.refl w.heap.size w).alloc (Nat.le_refl _) _)).mono ?_
    rintro e w1 ⟨rfl, hb⟩
    rw [hans.out]
    have HB1 := Lib.hid (((Below.refl w.heap.size w).alloc (Nat.le_refl _) _).trans (hb.mono (by simp)))
    have HS1 := Lib.hid (HS.out.of_block (hb.block _ HS.out.lt))
    have c0 := HS1.out.cell (i := 0) (by omega)
    dsimp only [scF] at c0
    clear hb
    by_cases hu : u < 0 ∨ U ≤ u
    · have hbad : Hid (swE U Bs n a u = 2) := by show _ = _; unfold swE; rw [tt_pos hv, if_pos rfl, if_pos hu]
      have hlen : Hid (swL U Bs n a u = 0) := by show _ = _; unfold swL; rw [tt_pos hv, if_pos rfl, if_pos hu]
      clear hv
      go_wp2
      all_goals first
        | (exfalso; omega)
        | (go_ret2; exact ⟨_, by rw [hbad.out]; rfl, by rw [hlen.out]; exact Rd.nil _ _ _, HB1.out⟩)
    · have hbad : Hid (swE U Bs n a u = 0) := by show _ = _; unfold swE; rw [tt_pos hv, if_pos rfl, if_neg hu]
      have hlen : Hid (swL U Bs n a u = n) := by show _ = _; unfold swL; rw [tt_pos hv, if_pos rfl, if_neg hu]
      obtain ⟨e1, e2, e3, e4, e5⟩ := vs_nat hv
      have hU : U ≤ 64 := hv.1.2.1
      have hu1 : 0 ≤ u := by omega
      have hu2 : u < U := by omega
      have hW := refScoresWord_any U Bs.toNat (.slice A n cap) K n (fun j => (a j).toNat) u.toNat w1 (rdV_congr (HV.out.below HB1.out) (fun j hj => by rw [e4 j hj])) e1 hK (by omega) e3 e5
      rw [e2, Int.toNat_of_nonneg hu1] at hW
      have HW := Lib.hid hW
      have hl63 : n ≤ 9223372036854775807 := by omega
      clear hv hW e1 e2 e3 e4 e5 hu
      go_wp2_with (refine wp_load_whole rfl 34 _ rfl w.heap.size rfl 34 19 _ _ _ HS1.out rfl (sc_cs _ _ _ _) Try.underlying34 rfl sc_size ?_)
      refine HW.out.mono ?_
      rintro e w2 ⟨b, rfl, hr, hb2⟩
      have HR := Lib.hid (rd_of_row hr hl63)
      have HB2 := Lib.hid (HB1.out.trans (hb2.mono HB1.out.size))
      clear hr hb2
      go_wp2
      go_ret2
      exact ⟨_, by rw [hbad.out]; rfl, by rw [hlen.out]; exact HR.out, HB2.out⟩
  · have hans : Hid (tt (VS U Bs n a) = false) := tt_neg hv
    have hbad : Hid (swE U Bs n a u = 70) := by show _ = _; unfold swE; rw [tt_neg hv]; rfl
    have hlen : Hid (swL U Bs n a u = 0) := by show _ = _; unfold swL; rw [tt_neg hv]; rfl
    clear hv
    go_enter Try.func9, Try.ntmps9
    go_wp2_with (refine wp_load_whole rfl 34 _ rfl w.heap.size rfl 34 19 _ _ _ HS.out rfl (sc_cs _ _ _ _) Try.underlying34 rfl sc_size ?_)
    refine (HC.out _ ((Below.refl w.heap.size w).alloc (Nat.le_refl _) _)).mono ?_
    rintro e w1 ⟨rfl, hb⟩
    rw [hans.out]
    have HB1 := Lib.hid (((Below.refl w.heap.size w).alloc (Nat.le_refl _) _).trans (hb.mono (by simp)))
    clear hb
    go_wp2
    go_ret2
    exact ⟨_, by rw [hbad.out]; rfl, by rw [hlen.out]; exact Rd.nil _ _ _, HB1.out⟩


end Go.Proofs.Ytmbokpfgnicboaa
