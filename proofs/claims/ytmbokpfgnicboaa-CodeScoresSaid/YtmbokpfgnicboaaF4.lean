import Derived.Test.YtmbokpfgnicboaaF3
set_option linter.unusedVariables false
set_option linter.unusedSimpArgs false
/- The walk of the program's Feasible. -/
namespace Go.Proofs.Ytmbokpfgnicboaa
open Go.RowKit Go.Hd _root_.Hd

set_option maxRecDepth 100000 in
set_option maxHeartbeats 2000000 in
theorem feasible_any (n N : Nat) (L : Nat → Nat) (G : Nat → Nat → Nat) (Y : Nat → Nat) (v y : Value) (w : World) (h : RdW w v n L G) (hy : Rd w .u8 y N Y)
    (hG : ∀ k, k < n → ∀ j, j < L k → G k j < 256) (hY : ∀ j, j < N → Y j < 256) :
    Calls Try.prog 6 #[v, y] w fun e w' => e = .returned (.tuple #[.bool (feasX n L G N Y), .int .i64 (feasE n L G N Y)]) ∧ Below w.heap.size w w' := by
  have H := Lib.hid h
  have HYy := Lib.hid hy
  have HG := Lib.hid hG
  have HY := Lib.hid hY
  have hlN := hy.len_le
  obtain ⟨F, hV, hF, hFs⟩ := h.vals
  have HV := Lib.hid hV
  have HF := Lib.hid hF
  have HFs := Lib.hid hFs
  obtain ⟨A, cap, rfl, hl, h3⟩ := h.at_
  have H3 := Lib.hid h3
  obtain ⟨A2, cap2, rfl, _, _, hy3⟩ := hy
  have HY3 := Lib.hid hy3
  clear h h3 hG hY hy3 hV hF hFs
  by_cases hw1 : 1 ≤ n ∧ n ≤ 64 ∧ L 0 ≤ 1024
  · obtain ⟨hn1, hn2, hn3⟩ := hw1
    obtain ⟨b, off, rfl, hc⟩ := H3.out (by omega)
    obtain ⟨A0, c0, hc0, hl0, hR0⟩ := hc 0 (by omega)
    rw [Nat.add_zero] at hc0
    have HR0 := Lib.hid hR0
    have hbl := World.block_lt_of_cell? w _ hc0
    have hbl' : b < w.heap.size := hbl
    -- the look for what is no word
    have HB2 : Hid (Below w.heap.size w ((w.alloc (.cells #[.slice (some ⟨b, off, none⟩) n cap] 22)).alloc (.cells #[.int .i64 (L 0)] 3))) := ((Below.refl _ w).alloc (Nat.le_refl _) _).alloc (by simp) _
    have hcb1 : ((w.alloc (.cells #[.slice (some ⟨b, off, none⟩) n cap] 22)).alloc (.cells #[.int .i64 (L 0)] 3)).cell? ⟨w.heap.size + 1, 0, none⟩ = some (.int .i64 (L 0)) := by
      have := cell_new (w.alloc (.cells #[.slice (some ⟨b, off, none⟩) n cap] 22)) (.int .i64 (L 0)) 3
      rw [World.size_alloc] at this
      exact this.1
    have HNW := Lib.hid (contains_nw n F (fun k => !tt (IsW (L k) (G k) (L 0))) _ _ (w.heap.size + 1) (HV.out.below HB2.out) HFs.out (fun k hk W hW => by
      refine notWord_any (L k) (G k) (F k) (L 0) (w.heap.size + 1) W ((HF.out k hk).below (below_then HB2.out hW)) (HG.out k hk) hl0 (cell_below hW hcb1)))
    have hBoth : Below w.heap.size w ((w.alloc (.cells #[.slice (some ⟨b, off, none⟩) n cap] 22)).alloc (.cells #[.int .i64 (L 0)] 3)) := HB2.out
    clear hbl hc hR0
    by_cases hnw : ∃ k, k < n ∧ (!tt (IsW (L k) (G k) (L 0))) = true
    · have hx : ¬ WordsOk n L G := fun h => by
        obtain ⟨k, hk, e⟩ := hnw
        rw [tt_pos (h.2.2.2 k hk)] at e
        cases e
      have HX : Hid (feasX n L G N Y = false) := tt_neg (fun h => hx h.1)
      have HE : Hid (feasE n L G N Y = 2) := by show _ = _; unfold feasE; rw [tt_neg hx]; rfl
      rw [tt_pos hnw] at HNW
      clear hx hnw hcb1 hBoth
      go_enter Try.func6, Try.ntmps6
      go_wp2_with fail
      refine HNW.out.mono ?_
      rintro e w1 ⟨rfl, hB⟩
      have HB := Lib.hid (below_then HB2.out hB)
      clear hB
      go_wp2
      go_ret2
      exact ⟨by rw [HX.out, HE.out]; rfl, HB.out⟩
    · have hx : WordsOk n L G := ⟨hn1, hn2, hn3, fun k hk => by
        by_cases e : IsW (L k) (G k) (L 0)
        · exact e
        · exact absurd ⟨k, hk, by rw [tt_neg e]; rfl⟩ hnw⟩
      have hxt := tt_pos hx
      rw [tt_neg hnw] at HNW
      have HLk : Hid (∀ k, k < n → L k = L 0) := fun k hk => (hx.2.2.2 k hk).1
      by_cases hcp : IsC N Y (L 0)
      · have hNL : N = L 0 := hcp.1
        have HX : Hid (feasX n L G N Y = tt (Feas n N G Y)) := tt_congr ⟨fun h => h.2.2, fun h => ⟨hx, hcp, h⟩⟩
        have HE : Hid (feasE n L G N Y = 0) := by show _ = _; unfold feasE; rw [hxt, tt_pos hcp]; rfl
        have HC : Hid (∀ W, Below w.heap.size w W → Calls Try.prog 24 #[.slice A2 N cap2, .int .i64 (L 0)] W fun e w' => e = .returned (.bool true) ∧ Below W.heap.size W w') := fun W hW => by
          have := isCopy_any N Y _ (L 0) _ (HYy.out.below hW) HY.out
          rw [tt_pos hcp] at this
          exact this
        have hcb0 : ((w.alloc (.cells #[.slice (some ⟨b, off, none⟩) n cap] 22)).alloc (.cells #[.int .i64 (L 0)] 3)).cell? ⟨w.heap.size, 0, none⟩ = some (.slice (some ⟨b, off, none⟩) n cap) :=
          cell_below ((Below.refl _ _).alloc (Nat.le_refl _) _) (cell_new w _ _).1
        have HNL := Lib.hid hNL
        clear hx hxt hnw hcp hBoth hNL
        go_enter Try.func6, Try.ntmps6
        go_wp2_with fail
        refine HNW.out.mono ?_
        rintro e w1 ⟨rfl, hB⟩
        have HB := Lib.hid (below_then HB2.out hB)
        have hn1 := cell_below hB hcb1
        have hn0 := cell_below hB hcb0
        clear hB hcb1 hcb0
        go_wp2_with fail
        refine (HC.out _ HB.out).mono ?_
        rintro e w2 ⟨rfl, hB⟩
        have HB' := Lib.hid (below_then HB.out hB)
        have hn2 := cell_below hB hn0
        clear hB hn0 hn1
        go_wp2_with fail
        go_loopw [38] (fun i wr => ∃ k : Nat, k ≤ N ∧ i = .int .i64 k ∧ Hid (∀ i, i < k → (∀ j, j < n → G j i = G 0 i) → Y i = G 0 i) ∧ wr.cell? ⟨w.heap.size, 0, none⟩ = some (.slice (some ⟨b, off, none⟩) n cap) ∧ Below w.heap.size w wr) (fun i _ => N - (intOf i).toNat)
        case atStart => exact ⟨0, Nat.zero_le _, rfl, fun j hj => by omega, hn2, HB'.out⟩
        case round =>
          obtain ⟨i, hi, rfl, hz, hbox, hbel⟩ := hrel
          by_cases hlt : i < N
          · obtain ⟨b2, off2, rfl, hyc⟩ := HY3.out (by omega)
            have hyi := cell_below hbel (hyc i hlt)
            have hiL : i < L 0 := by have := HNL.out; omega
            have hc0' := cell_below hbel hc0
            obtain ⟨A0', c0', e0, _, _, hR3⟩ := HR0.out
            obtain ⟨b0, off0, e0', hw0⟩ := hR3 (by omega)
            cases e0
            cases e0'
            have h0i := cell_below hbel (hw0 i hiL)
            have hb2l : b2 < wr.heap.size := World.block_lt_of_cell? wr _ hyi
            have hb0l : b0 < wr.heap.size := World.block_lt_of_cell? wr _ h0i
            have hbl2 : b < wr.heap.size := World.block_lt_of_cell? wr _ hc0'
            have hwl : w.heap.size < wr.heap.size := World.block_lt_of_cell? wr _ hbox
            have hYi : Y i < 256 := HY.out i hlt
            have hG0 : G 0 i < 256 := HG.out 0 (by omega) i hiL
            have hn0 : (0 : Int) < (n : Int) := by omega
            have hiN : (i : Int) < (L 0 : Int) := by omega
            have HWB : Hid (Below w.heap.size w (wr.alloc (.cells #[.int .i64 i] 3))) := hbel.alloc hbel.size _
            have HO : Hid (∀ m, Calls Try.prog 21 #[.slice (some ⟨b, off, none⟩) n cap, .func (.func 25) #[] #[.pointer (some ⟨wr.heap.size, 0, none⟩), .pointer (some ⟨w.heap.size, 0, none⟩)]] ((wr.alloc (.cells #[.int .i64 i] 3)).drewN m) fun e w' =>
                e = .returned (.bool (tt (∃ k, k < n ∧ (!tt (G k i = G 0 i)) = true))) ∧ Drawn ((wr.alloc (.cells #[.int .i64 i] 3)).drewN m) w') := fun m => by
              have hD : Below w.heap.size w ((wr.alloc (.cells #[.int .i64 i] 3)).drewN m) := below_drewN HWB.out m
              refine contains_odd n F (fun k => !tt (G k i = G 0 i)) _ _ _ _ (HV.out.below hD) HFs.out (fun k hk W hW => ?_)
              have hDW : Below w.heap.size w W := below_then hD hW.below
              have hLk : L k = L 0 := HLk.out k hk
              refine odd_any n L G (.slice (some ⟨b, off, none⟩) n cap) k i _ _ W (H.out.below hDW) hk hiL (by omega) hG0 (HG.out k hk i (by omega)) _ ((HF.out k hk).below hDW) ?_ ?_
              · exact cell_below hW.below (cell_new wr _ _).1
              · exact cell_below hW.below (cell_below ((Below.refl _ _).alloc (Nat.le_refl _) _) hbox)
            have HBox := Lib.hid hbox
            clear hyc hw0 hR3 hbel
            by_cases hq : Y i = G 0 i
            · have hb : (((Y i : Nat) : Int) != ((G 0 i : Nat) : Int)) = false := by simp; omega
              have HZ : Hid (∀ t, t < i + 1 → (∀ j, j < n → G j t = G 0 t) → Y t = G 0 t) := fun t ht hall => by
                rcases Nat.lt_or_ge t i with h | h
                · exact hz.out t h hall
                · have e : t = i := by omega
                  rw [e]; exact hq
              clear hq
              go_wp2
              go_quiet (fail)
              go_wp2
              go_roundw
              case rel => exact ⟨i + 1, hlt, by go_num, HZ, cell_below (below_drewN ((Below.refl _ _).alloc (Nat.le_refl _) _) _) HBox.out, below_drewN HWB.out _⟩
              case measure => simp [intOf]; omega
            · have hb : (((Y i : Nat) : Int) != ((G 0 i : Nat) : Int)) = true := by simp; omega
              by_cases hex : ∃ k, k < n ∧ (!tt (G k i = G 0 i)) = true
              · have HZ : Hid (∀ t, t < i + 1 → (∀ j, j < n → G j t = G 0 t) → Y t = G 0 t) := fun t ht hall => by
                  rcases Nat.lt_or_ge t i with h | h
                  · exact hz.out t h hall
                  · have e : t = i := by omega
                    rw [e] at hall
                    obtain ⟨k, hk, e2⟩ := hex
                    rw [tt_pos (hall k hk)] at e2
                    cases e2
                rw [tt_pos hex] at HO
                clear hq hex
                go_wp2
                go_quiet ((go_at_call 21; first | exact quiet_add_d (HO.out _) | exact quiet_one_d (HO.out _)))
                go_wp2
                go_roundw
                case rel => exact ⟨i + 1, hlt, by go_num, HZ, cell_below (below_drewN ((Below.refl _ _).alloc (Nat.le_refl _) _) _) HBox.out, below_drewN HWB.out _⟩
                case measure => simp [intOf]; omega
              · have ht : Hid (tt (Feas n N G Y) = false) := tt_neg (fun h => hq (h i hlt (fun k hk => by
                  by_cases e : G k i = G 0 i
                  · exact e
                  · exact absurd ⟨k, hk, by rw [tt_neg e]; rfl⟩ hex)))
                rw [tt_neg hex] at HO
                clear hq hex
                go_wp2
                go_quiet ((go_at_call 21; first | exact quiet_add_d (HO.out _) | exact quiet_one_d (HO.out _)))
                go_wp2
                go_ret2
                exact ⟨by rw [HX.out, HE.out, ht.out]; rfl, below_drewN HWB.out _⟩
          · obtain rfl : i = N := by omega
            have ht : Hid (tt (Feas n i G Y) = true) := tt_pos hz.out
            have HBel := Lib.hid hbel
            clear hbel
            go_wp2
            go_ret2
            exact ⟨by rw [HX.out, HE.out, ht.out]; rfl, HBel.out⟩
      · have HX : Hid (feasX n L G N Y = false) := tt_neg (fun h => hcp h.2.1)
        have HE : Hid (feasE n L G N Y = 71) := by show _ = _; unfold feasE; rw [hxt, tt_neg hcp]; rfl
        have HC : Hid (∀ W, Below w.heap.size w W → Calls Try.prog 24 #[.slice A2 N cap2, .int .i64 (L 0)] W fun e w' => e = .returned (.bool false) ∧ Below W.heap.size W w') := fun W hW => by
          have := isCopy_any N Y _ (L 0) _ (HYy.out.below hW) HY.out
          rw [tt_neg hcp] at this
          exact this
        clear hx hxt hnw hcp hBoth
        go_enter Try.func6, Try.ntmps6
        go_wp2_with fail
        refine HNW.out.mono ?_
        rintro e w1 ⟨rfl, hB⟩
        have HB := Lib.hid (below_then HB2.out hB)
        have hn1 := cell_below hB hcb1
        clear hB hcb1
        go_wp2_with fail
        refine (HC.out _ HB.out).mono ?_
        rintro e w2 ⟨rfl, hB⟩
        have HB' := Lib.hid (below_then HB.out hB)
        clear hB
        go_wp2
        go_ret2
        exact ⟨by rw [HX.out, HE.out]; rfl, HB'.out⟩
  · have HX : Hid (feasX n L G N Y = false) := tt_neg (fun h => hw1 ⟨h.1.1, h.1.2.1, h.1.2.2.1⟩)
    have HE : Hid (feasE n L G N Y = 2) := by
      show _ = _
      unfold feasE
      rw [tt_neg (fun h : WordsOk n L G => hw1 ⟨h.1, h.2.1, h.2.2.1⟩)]; rfl
    by_cases hn1 : n < 1
    · clear hw1
      go_enter Try.func6, Try.ntmps6
      go_wp2
      go_ret2
      exact ⟨by rw [HX.out, HE.out]; rfl, (Below.refl _ _).alloc (Nat.le_refl _) _⟩
    · by_cases hn2 : 64 < n
      · clear hw1
        go_enter Try.func6, Try.ntmps6
        go_wp2
        go_ret2
        exact ⟨by rw [HX.out, HE.out]; rfl, (Below.refl _ _).alloc (Nat.le_refl _) _⟩
      · have hn3 : 1024 < L 0 := by omega
        obtain ⟨b, off, rfl, hc⟩ := H3.out (by omega)
        obtain ⟨A0, c0, hc0, hl0, _⟩ := hc 0 (by omega)
        rw [Nat.add_zero] at hc0
        have hbl := World.block_lt_of_cell? w _ hc0
        have hbl' : b < w.heap.size := hbl
        clear hw1 hc hbl
        go_enter Try.func6, Try.ntmps6
        go_wp2
        go_ret2
        exact ⟨by rw [HX.out, HE.out]; rfl, (Below.refl _ _).alloc (Nat.le_refl _) _⟩
end Go.Proofs.Ytmbokpfgnicboaa
