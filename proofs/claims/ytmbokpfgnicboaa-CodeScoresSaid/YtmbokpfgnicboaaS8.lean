import Derived.Test.YtmbokpfgnicboaaS7
set_option linter.unusedVariables false
set_option linter.unusedSimpArgs false
/- The walks of codes of scores: Score. -/
namespace Go.Proofs.Ytmbokpfgnicboaa
open Go.RowKit Go.Hd Go.Sort _root_.Hd

/-- What Score answers. -/
noncomputable def stE (U Bs : Int) (n : Nat) (a : Nat → Int) (n1 : Nat) (X : Nat → Nat) (n2 : Nat) (Y : Nat → Nat) : Int := if tt (VS U Bs n a) then (if tt (IsW n1 X n ∧ IsC n2 Y n) then 0 else 71) else 70
noncomputable def stS (U Bs : Int) (n : Nat) (a : Nat → Int) (n1 : Nat) (X : Nat → Nat) (n2 : Nat) (Y : Nat → Nat) : Int := if tt (VS U Bs n a) then (if tt (IsW n1 X n ∧ IsC n2 Y n) then scN Bs.toNat (fun j => (a j).toNat) X Y n else 0) else 0

set_option maxHeartbeats 1000000 in
theorem scoreE_any (U Bs : Int) (v : Value) (K : Nat → Nat) (n : Nat) (a : Nat → Int) (n1 : Nat) (X : Nat → Nat) (n2 : Nat) (Y : Nat → Nat) (ws ys : Value) (w : World) (h : RdV w v n (fun j => .int .i64 (a j))) (hx : Rd w .u8 ws n1 X) (hy : Rd w .u8 ys n2 Y) (hx6 : ∀ j, j < n1 → X j < 256) (hy6 : ∀ j, j < n2 → Y j < 256) :
    Calls Try.prog 12 #[scV U Bs v K, ws, ys] w fun e w' => e = .returned (.tuple #[.int .i64 (stS U Bs n a n1 X n2 Y), .int .i64 (stE U Bs n a n1 X n2 Y)]) ∧ Below w.heap.size w w' := by
  have HV := Lib.hid h
  have HX := Lib.hid hx
  have HY := Lib.hid hy
  have HX6 := Lib.hid hx6
  have HY6 := Lib.hid hy6
  have HC := Lib.hid (fun W (hb : Below w.heap.size w W) => checkScores_any U Bs v K n a W (h.below hb))
  have hl : n ≤ 9223372036854775807 := by obtain ⟨A, cap, _, h1, h2, _⟩ := h; unfold maxLen at h2; omega
  obtain ⟨A, cap, rfl, _, _, h3⟩ := h
  obtain ⟨A1, cap1, rfl, _, _, h4⟩ := hx
  obtain ⟨A2, cap2, rfl, _, _, h5⟩ := hy
  clear h3 h4 h5 hx6 hy6
  have HS := Lib.hid (sc_row w U Bs (.slice A n cap) K 34)
  by_cases hv : VS U Bs n a
  · have hans : Hid (scE U Bs n a = 0) := scE_yes hv
    obtain ⟨e1, e2, e3, e4, e5⟩ := vs_nat hv
    have he : Hid (stE U Bs n a n1 X n2 Y = if tt (IsW n1 X n ∧ IsC n2 Y n) then 0 else 71) := by show _ = _; unfold stE; rw [tt_pos hv, if_pos rfl]
    have hs : Hid (stS U Bs n a n1 X n2 Y = if tt (IsW n1 X n ∧ IsC n2 Y n) then scN Bs.toNat (fun j => (a j).toNat) X Y n else 0) := by show _ = _; unfold stS; rw [tt_pos hv, if_pos rfl]
    have HE4 := Lib.hid e4
    have HE5 := Lib.hid e5
    have HE2 := Lib.hid e2
    clear hv e4 e5 e2
    go_enter Try.func12, Try.ntmps12
    go_wp2_with (refine wp_load_whole rfl 34 _ rfl w.heap.size rfl 34 19 _ _ _ HS.out rfl (sc_cs _ _ _ _) Try.underlying34 rfl sc_size ?_)
    refine (HC.out _ ((Below.refl w.heap.size w).alloc (Nat.le_refl _) _)).mono ?_
    rintro e w1 ⟨rfl, hb⟩
    rw [hans.out]
    have HB1 := Lib.hid (((Below.refl w.heap.size w).alloc (Nat.le_refl _) _).trans (hb.mono (by simp)))
    have HS1 := Lib.hid (HS.out.of_block (hb.block _ HS.out.lt))
    have c2 := HS1.out.cell (i := 2) (by omega)
    dsimp only [scF] at c2
    clear hb
    go_wp2_with fail
    refine (isWord_any n1 X _ n w1 (HX.out.below HB1.out) HX6.out hl).mono ?_
    rintro e w2 ⟨rfl, hb2⟩
    have HB2 := Lib.hid (HB1.out.trans (hb2.mono HB1.out.size))
    have HS2 := Lib.hid (HS1.out.of_block (hb2.block _ HS1.out.lt))
    have c2' := HS2.out.cell (i := 2) (by omega)
    dsimp only [scF] at c2'
    clear hb2 c2
    by_cases hw : IsW n1 X n
    · rw [tt_pos hw]
      go_wp2_with fail
      refine (isCopy_any n2 Y _ n w2 (HY.out.below HB2.out) HY6.out).mono ?_
      rintro e w3 ⟨rfl, hb3⟩
      have HB3 := Lib.hid (HB2.out.trans (hb3.mono HB2.out.size))
      have HS3 := Lib.hid (HS2.out.of_block (hb3.block _ HS2.out.lt))
      clear hb3 c2'
      by_cases hc : IsC n2 Y n
      · rw [tt_pos hc]
        have ht : tt (IsW n1 X n ∧ IsC n2 Y n) = true := tt_pos ⟨hw, hc⟩
        rw [ht, if_pos rfl] at he hs
        have hW := score_any U Bs.toNat (.slice A n cap) K n (fun j => (a j).toNat) X Y (.slice A1 n1 cap1) (.slice A2 n2 cap2) w3 (rdV_congr (HV.out.below HB3.out) (fun j hj => by rw [HE4.out j hj])) (by have := HX.out.below HB3.out; rw [hw.1] at this ⊢; exact this) (by have := HY.out.below HB3.out; rw [hc.1] at this ⊢; exact this) e1 e3 HE5.out (fun j hj => hw.2 j (by rw [hw.1]; exact hj)) (fun j hj => hc.2 j (by rw [hc.1]; exact hj))
        rw [HE2.out] at hW
        have HW := Lib.hid hW
        clear hW ht hw hc
        go_wp2_with (refine wp_load_whole rfl 34 _ rfl w.heap.size rfl 34 19 _ _ _ HS3.out rfl (sc_cs _ _ _ _) Try.underlying34 rfl sc_size ?_)
        refine HW.out.mono ?_
        rintro e w4 ⟨rfl, hb4⟩
        have HB4 := Lib.hid (HB3.out.trans (hb4.mono HB3.out.size))
        clear hb4
        go_wp2
        go_ret2
        exact ⟨by rw [he.out, hs.out]; rfl, HB4.out⟩
      · rw [tt_neg hc]
        have ht : tt (IsW n1 X n ∧ IsC n2 Y n) = false := tt_neg (fun h => hc h.2)
        rw [ht] at he hs
        clear ht hw hc
        go_wp2
        go_ret2
        exact ⟨by rw [he.out, hs.out]; rfl, HB3.out⟩
    · rw [tt_neg hw]
      have ht : tt (IsW n1 X n ∧ IsC n2 Y n) = false := tt_neg (fun h => hw h.1)
      rw [ht] at he hs
      clear ht hw
      go_wp2
      go_ret2
      exact ⟨by rw [he.out, hs.out]; rfl, HB2.out⟩
  · have hans : Hid (scE U Bs n a = 70) := scE_no hv
    have he : Hid (stE U Bs n a n1 X n2 Y = 70) := by show _ = _; unfold stE; rw [tt_neg hv]; rfl
    have hs : Hid (stS U Bs n a n1 X n2 Y = 0) := by show _ = _; unfold stS; rw [tt_neg hv]; rfl
    clear hv
    go_enter Try.func12, Try.ntmps12
    go_wp2_with (refine wp_load_whole rfl 34 _ rfl w.heap.size rfl 34 19 _ _ _ HS.out rfl (sc_cs _ _ _ _) Try.underlying34 rfl sc_size ?_)
    refine (HC.out _ ((Below.refl w.heap.size w).alloc (Nat.le_refl _) _)).mono ?_
    rintro e w1 ⟨rfl, hb⟩
    rw [hans.out]
    have HB1 := Lib.hid (((Below.refl w.heap.size w).alloc (Nat.le_refl _) _).trans (hb.mono (by simp)))
    clear hb
    go_wp2
    go_ret2
    exact ⟨by rw [he.out, hs.out]; rfl, HB1.out⟩

set_option maxHeartbeats 1000000 in
theorem refScore_any (U Bs : Int) (v : Value) (K : Nat → Nat) (n : Nat) (a : Nat → Int) (n1 : Nat) (X : Nat → Nat) (n2 : Nat) (Y : Nat → Nat) (ws ys : Value) (w : World) (h : RdV w v n (fun j => .int .i64 (a j))) (hx : Rd w .u8 ws n1 X) (hy : Rd w .u8 ys n2 Y) (hx6 : ∀ j, j < n1 → X j < 256) (hy6 : ∀ j, j < n2 → Y j < 256) :
    Calls Try.prog 13 #[scV U Bs v K, ws, ys] w fun e w' => e = .returned (.tuple #[.int .i64 (stS U Bs n a n1 X n2 Y), .int .i64 (stE U Bs n a n1 X n2 Y)]) ∧ Below w.heap.size w w' := by
  have HV := Lib.hid h
  have HX := Lib.hid hx
  have HY := Lib.hid hy
  have HX6 := Lib.hid hx6
  have HY6 := Lib.hid hy6
  have HC := Lib.hid (fun W (hb : Below w.heap.size w W) => validScores_any U Bs v K n a W (h.below hb))
  have hl : n ≤ 9223372036854775807 := by obtain ⟨A, cap, _, h1, h2, _⟩ := h; unfold maxLen at h2; omega
  obtain ⟨A, cap, rfl, _, _, h3⟩ := h
  obtain ⟨A1, cap1, rfl, _, _, h4⟩ := hx
  obtain ⟨A2, cap2, rfl, _, _, h5⟩ := hy
  clear h3 h4 h5 hx6 hy6
  have HS := Lib.hid (sc_row w U Bs (.slice A n cap) K 34)
  by_cases hv : VS U Bs n a
  · have hans : Hid (tt (VS U Bs n a) = true) := tt_pos hv
    obtain ⟨e1, e2, e3, e4, e5⟩ := vs_nat hv
    have he : Hid (stE U Bs n a n1 X n2 Y = if tt (IsW n1 X n ∧ IsC n2 Y n) then 0 else 71) := by show _ = _; unfold stE; rw [tt_pos hv, if_pos rfl]
    have hs : Hid (stS U Bs n a n1 X n2 Y = if tt (IsW n1 X n ∧ IsC n2 Y n) then scN Bs.toNat (fun j => (a j).toNat) X Y n else 0) := by show _ = _; unfold stS; rw [tt_pos hv, if_pos rfl]
    have HE4 := Lib.hid e4
    have HE5 := Lib.hid e5
    have HE2 := Lib.hid e2
    clear hv e4 e5 e2
    go_enter Try.func13, Try.ntmps13
    go_wp2_with (refine wp_load_whole rfl 34 _ rfl w.heap.size rfl 34 19 _ _ _ HS.out rfl (sc_cs _ _ _ _) Try.underlying34 rfl sc_size ?_)
    refine (HC.out _ ((Below.refl w.heap.size w).alloc (Nat.le_refl _) _)).mono ?_
    rintro e w1 ⟨rfl, hb⟩
    rw [hans.out]
    have HB1 := Lib.hid (((Below.refl w.heap.size w).alloc (Nat.le_refl _) _).trans (hb.mono (by simp)))
    have HS1 := Lib.hid (HS.out.of_block (hb.block _ HS.out.lt))
    have c2 := HS1.out.cell (i := 2) (by omega)
    dsimp only [scF] at c2
    clear hb
    go_wp2_with fail
    refine (refIsWord_any n1 X _ n w1 (HX.out.below HB1.out)).mono ?_
    rintro e w2 ⟨rfl, hb2⟩
    have HB2 : Hid (Below w.heap.size w w2) := by rw [← hb2]; exact HB1
    have HS2 : Hid (w2.rowIs w.heap.size 34 19 (scF U Bs (.slice A n cap) K)) := by rw [← hb2]; exact HS1
    have c2' := HS2.out.cell (i := 2) (by omega)
    dsimp only [scF] at c2'
    clear hb2 c2
    by_cases hw : IsW n1 X n
    · rw [tt_pos hw]
      go_wp2_with fail
      refine (refIsCopy_any n2 Y _ n w2 (HY.out.below HB2.out)).mono ?_
      rintro e w3 ⟨rfl, hb3⟩
      have HB3 : Hid (Below w.heap.size w w3) := by rw [← hb3]; exact HB2
      have HS3 : Hid (w3.rowIs w.heap.size 34 19 (scF U Bs (.slice A n cap) K)) := by rw [← hb3]; exact HS2
      clear hb3 c2'
      by_cases hc : IsC n2 Y n
      · rw [tt_pos hc]
        have ht : tt (IsW n1 X n ∧ IsC n2 Y n) = true := tt_pos ⟨hw, hc⟩
        rw [ht, if_pos rfl] at he hs
        have hW := refScoreOf_any U Bs.toNat (.slice A n cap) K n (fun j => (a j).toNat) X Y (.slice A1 n1 cap1) (.slice A2 n2 cap2) w3 (rdV_congr (HV.out.below HB3.out) (fun j hj => by rw [HE4.out j hj])) (by have := HX.out.below HB3.out; rw [hw.1] at this ⊢; exact this) (by have := HY.out.below HB3.out; rw [hc.1] at this ⊢; exact this) e1 e3 HE5.out (fun j hj => hw.2 j (by rw [hw.1]; exact hj)) (fun j hj => hc.2 j (by rw [hc.1]; exact hj))
        rw [HE2.out] at hW
        have HW := Lib.hid hW
        clear hW ht hw hc
        go_wp2_with (refine wp_load_whole rfl 34 _ rfl w.heap.size rfl 34 19 _ _ _ HS3.out rfl (sc_cs _ _ _ _) Try.underlying34 rfl sc_size ?_)
        refine HW.out.mono ?_
        rintro e w4 ⟨rfl, hb4⟩
        have HB4 := Lib.hid (HB3.out.trans (hb4.mono HB3.out.size))
        clear hb4
        go_wp2
        go_ret2
        exact ⟨by rw [he.out, hs.out]; rfl, HB4.out⟩
      · rw [tt_neg hc]
        have ht : tt (IsW n1 X n ∧ IsC n2 Y n) = false := tt_neg (fun h => hc h.2)
        rw [ht] at he hs
        clear ht hw hc
        go_wp2
        go_ret2
        exact ⟨by rw [he.out, hs.out]; rfl, HB3.out⟩
    · rw [tt_neg hw]
      have ht : tt (IsW n1 X n ∧ IsC n2 Y n) = false := tt_neg (fun h => hw h.1)
      rw [ht] at he hs
      clear ht hw
      go_wp2
      go_ret2
      exact ⟨by rw [he.out, hs.out]; rfl, HB2.out⟩
  · have hans : Hid (tt (VS U Bs n a) = false) := tt_neg hv
    have he : Hid (stE U Bs n a n1 X n2 Y = 70) := by show _ = _; unfold stE; rw [tt_neg hv]; rfl
    have hs : Hid (stS U Bs n a n1 X n2 Y = 0) := by show _ = _; unfold stS; rw [tt_neg hv]; rfl
    clear hv
    go_enter Try.func13, Try.ntmps13
    go_wp2_with (refine wp_load_whole rfl 34 _ rfl w.heap.size rfl 34 19 _ _ _ HS.out rfl (sc_cs _ _ _ _) Try.underlying34 rfl sc_size ?_)
    refine (HC.out _ ((Below.refl w.heap.size w).alloc (Nat.le_refl _) _)).mono ?_
    rintro e w1 ⟨rfl, hb⟩
    rw [hans.out]
    have HB1 := Lib.hid (((Below.refl w.heap.size w).alloc (Nat.le_refl _) _).trans (hb.mono (by simp)))
    clear hb
    go_wp2
    go_ret2
    exact ⟨by rw [he.out, hs.out]; rfl, HB1.out⟩


end Go.Proofs.Ytmbokpfgnicboaa
