import Derived.Test.YtmbokpfgnicboaaF2
set_option linter.unusedVariables false
set_option linter.unusedSimpArgs false
/- The walks of Feasible: the reference's and the program's. -/
namespace Go.Proofs.Ytmbokpfgnicboaa
open Go.RowKit Go.Hd _root_.Hd

/-- Whether a copy is feasible. -/
noncomputable def feasX (n : Nat) (L : Nat → Nat) (G : Nat → Nat → Nat) (N : Nat) (Y : Nat → Nat) : Bool := tt (WordsOk n L G ∧ IsC N Y (L 0) ∧ Feas n N G Y)
/-- The number of its error. -/
noncomputable def feasE (n : Nat) (L : Nat → Nat) (G : Nat → Nat → Nat) (N : Nat) (Y : Nat → Nat) : Int := if tt (WordsOk n L G) = true then (if tt (IsC N Y (L 0)) = true then 0 else 71) else 2

theorem drawn_below_cell {w : World} {v : Value} {n : Nat} {L : Nat → Nat} {G : Nat → Nat → Nat} (h : RdW w v n L G) (m : Nat) : RdW (w.drewN m) v n L G := h.below (Drawn.below ⟨m, rfl⟩)

set_option maxRecDepth 100000 in
set_option maxHeartbeats 1000000 in
theorem refFeasible_any (n N : Nat) (L : Nat → Nat) (G : Nat → Nat → Nat) (Y : Nat → Nat) (v y : Value) (w : World) (h : RdW w v n L G) (hy : Rd w .u8 y N Y)
    (hG : ∀ k, k < n → ∀ j, j < L k → G k j < 256) (hY : ∀ j, j < N → Y j < 256) :
    Calls Try.prog 7 #[v, y] w fun e w' => e = .returned (.tuple #[.bool (feasX n L G N Y), .int .i64 (feasE n L G N Y)]) ∧ Drawn w w' := by
  have H := Lib.hid h
  have HYy := Lib.hid hy
  have HG := Lib.hid hG
  have HY := Lib.hid hY
  obtain ⟨A, cap, rfl, hl, h3⟩ := h.at_
  have H3 := Lib.hid h3
  obtain ⟨A2, cap2, rfl, _, _, hy3⟩ := hy
  clear h h3 hG hY hy3
  have HW := Lib.hid (refWords_any n L G _ w H.out)
  by_cases hw : WordsOk n L G
  · have hwt := tt_pos hw
    rw [hwt] at HW
    have hn : 1 ≤ n := hw.1
    obtain ⟨b, off, rfl, hc⟩ := H3.out (by omega)
    obtain ⟨A0, c0, hc0, hl0, _⟩ := hc 0 (by omega)
    rw [Nat.add_zero] at hc0
    have HL : Hid (∀ k, k < n → L k = L 0) := fun k hk => (hw.2.2.2 k hk).1
    have hC : ∀ m, Calls Try.prog 27 #[.slice A2 N cap2, .int .i64 (L 0)] (w.drewN m) fun e w' => e = .returned (.bool (tt (IsC N Y (L 0)))) ∧ w.drewN m = w' := fun m => refIsCopy_any N Y _ (L 0) _ (HYy.out.below (Drawn.below ⟨m, rfl⟩))
    by_cases hcp : IsC N Y (L 0)
    · have hct := tt_pos hcp
      have hNL : N = L 0 := hcp.1
      have HX : Hid (feasX n L G N Y = tt (Feas n N G Y)) := tt_congr ⟨fun h => h.2.2, fun h => ⟨hw, hcp, h⟩⟩
      have HE : Hid (feasE n L G N Y = 0) := by show _ = _; unfold feasE; rw [hwt, hct]; rfl
      rw [hct] at hC
      have HC := Lib.hid hC
      have HF : Hid (∀ m, Calls Try.prog 28 #[.slice (some ⟨b, off, none⟩) n cap, .slice A2 N cap2] (w.drewN m) fun e w' => e = .returned (.bool (tt (Feas n N G Y))) ∧ Drawn (w.drewN m) w') := fun m =>
        refIsFeasible_any n N L G Y _ _ _ (drawn_below_cell H.out m) hn (fun k hk => by rw [HL.out k hk, hNL]) (HYy.out.below (Drawn.below ⟨m, rfl⟩)) (fun k hk j hj => HG.out k hk j (by rw [HL.out k hk, ← hNL]; exact hj)) HY.out
      clear hwt hct hw hcp hc hNL hC
      go_enter Try.func7, Try.ntmps7
      go_wp2_with fail
      refine HW.out.mono ?_
      rintro e w1 ⟨rfl, m1, rfl⟩
      go_wp2_with fail
      refine (HC.out _).mono ?_
      rintro e w1 ⟨rfl, rfl⟩
      go_wp2_with fail
      refine (HF.out _).mono ?_
      rintro e w1 ⟨rfl, m2, rfl⟩
      go_wp2
      go_ret2
      exact ⟨by rw [HX.out, HE.out]; rfl, (by first | exact ⟨_, rfl⟩ | exact Drawn.drewN ⟨_, rfl⟩ _)⟩
    · have hct := tt_neg hcp
      have HX : Hid (feasX n L G N Y = false) := tt_neg (fun h => hcp h.2.1)
      have HE : Hid (feasE n L G N Y = 71) := by show _ = _; unfold feasE; rw [hwt, hct]; rfl
      rw [hct] at hC
      have HC := Lib.hid hC
      clear hwt hct hw hcp hc hC
      go_enter Try.func7, Try.ntmps7
      go_wp2_with fail
      refine HW.out.mono ?_
      rintro e w1 ⟨rfl, m1, rfl⟩
      go_wp2_with fail
      refine (HC.out _).mono ?_
      rintro e w1 ⟨rfl, rfl⟩
      go_wp2
      go_ret2
      exact ⟨by rw [HX.out, HE.out]; rfl, (by first | exact ⟨_, rfl⟩ | exact Drawn.drewN ⟨_, rfl⟩ _)⟩
  · have hwt := tt_neg hw
    rw [hwt] at HW
    have HX : Hid (feasX n L G N Y = false) := tt_neg (fun h => hw h.1)
    have HE : Hid (feasE n L G N Y = 2) := by show _ = _; unfold feasE; rw [hwt]; rfl
    clear hwt hw
    go_enter Try.func7, Try.ntmps7
    go_wp2_with fail
    refine HW.out.mono ?_
    rintro e w1 ⟨rfl, m1, rfl⟩
    go_wp2
    go_ret2
    exact ⟨by rw [HX.out, HE.out]; rfl, (by first | exact ⟨_, rfl⟩ | exact Drawn.drewN ⟨_, rfl⟩ _)⟩

/-! ### The program's: the two closures, and the look for a word by them -/

/-- 'w is no word': the length is in a variable. -/
theorem notWord_any (n : Nat) (f : Nat → Nat) (v : Value) (N b : Nat) (w : World) (h : Rd w .u8 v n f) (hf : ∀ j, j < n → f j < 256) (hN : N ≤ 9223372036854775807) (hc : w.cell? ⟨b, 0, none⟩ = some (.int .i64 N)) :
    Calls Try.prog 22 #[v, .pointer (some ⟨b, 0, none⟩)] w fun e w' => e = .returned (.bool (!tt (IsW n f N))) ∧ Below w.heap.size w w' := by
  have HS := Lib.hid (isWord_any n f v N w h hf hN)
  obtain ⟨A, cap, rfl, _, _, h3⟩ := h
  clear h3 hf
  go_enter Try.func22, Try.ntmps22
  go_wp2_with (go_at_call 23; refine HS.out.mono ?_; rintro e w1 ⟨rfl, hB⟩)
  have hB : Below w.heap.size w w1 := by assumption
  go_ret
  exact ⟨rfl, hB⟩


set_option maxRecDepth 100000 in
theorem index_nw (n : Nat) (F : Nat → Value) (p : Nat → Bool) (v : Value) (w : World) (B1 : Nat) (h : RdV w v n F) (hs : ∀ k, k < n → ∃ A c l, F k = .slice A l c)
    (hp : ∀ k, k < n → ∀ W, Below w.heap.size w W → Calls Try.prog 22 #[F k, .pointer (some ⟨B1, 0, none⟩)] W fun e w' => e = .returned (.bool (p k)) ∧ Below W.heap.size W w') :
    Calls Try.prog 50 #[v, .func (.func 22) #[] #[.pointer (some ⟨B1, 0, none⟩)]] w fun e w' => (∃ r : Int, e = .returned (.int .i64 r) ∧ (r = -1 ∧ (∀ j, j < n → p j = false) ∨ ∃ j : Nat, r = j ∧ j < n ∧ p j = true)) ∧ Below w.heap.size w w' := by
  obtain ⟨A, cap, rfl, h1, h2, h3⟩ := h
  have hl : n ≤ 9223372036854775807 := by unfold maxLen at h2; omega
  have H3 := Lib.hid h3
  have HP := Lib.hid hp
  have HS := Lib.hid hs
  clear h3 hp hs
  go_enter Try.func50, Try.ntmps50
  go_wp2
  go_loopw [8] (fun i wr => ∃ k : Nat, k ≤ n ∧ i = .int .i64 k ∧ Hid (∀ j, j < k → p j = false) ∧ Below w.heap.size w wr) (fun i _ => n - (intOf i).toNat)
  case atStart => exact ⟨0, Nat.zero_le _, rfl, fun j hj => by omega, Below.refl _ _⟩
  case round =>
    obtain ⟨k, hk, rfl, hz, hbel⟩ := hrel
    by_cases hlt : k < n
    · obtain ⟨b, off, rfl, hc⟩ := H3.out (by omega)
      have hci := cell_below hbel (hc k hlt)
      have HQ := HP.out k hlt _ hbel
      obtain ⟨Ak, ck, lk, hFk⟩ := HS.out k hlt
      rw [hFk] at hci HQ
      have HQ' := Lib.hid HQ
      have HB := Lib.hid hbel
      clear hc hFk HQ hbel
      obtain ⟨c, hc⟩ : ∃ c, c = p k := ⟨_, rfl⟩
      rw [← hc] at HQ'
      have HC := Lib.hid hc
      have HZ : Hid (p k = false → ∀ j, j < k + 1 → p j = false) := fun e j hj => by
        rcases Nat.lt_or_ge j k with h | h
        · exact hz.out j h
        · have : j = k := by omega
          rw [this]; exact e
      clear hc
      cases c with
      | true =>
        go_wp2_with (go_at_call 22; refine HQ'.out.mono ?_; rintro e w1 ⟨rfl, hB1⟩)
        have hB1 : Below wr.heap.size wr w1 := by assumption
        go_ret
        exact ⟨⟨_, rfl, .inr ⟨k, rfl, hlt, HC.out.symm⟩⟩, below_then HB.out hB1⟩
      | false =>
        go_wp2_with (go_at_call 22; refine HQ'.out.mono ?_; rintro e w1 ⟨rfl, hB1⟩)
        have hB1 : Below wr.heap.size wr w1 := by assumption
        go_roundw
        case rel => exact ⟨k + 1, hlt, by go_num, HZ.out HC.out.symm, below_then HB.out hB1⟩
        case measure => simp [intOf]; omega
    · obtain rfl : k = n := by omega
      go_wp2
      go_ret
      exact ⟨⟨_, rfl, .inl ⟨rfl, hz.out⟩⟩, hbel⟩

theorem contains_nw (n : Nat) (F : Nat → Value) (p : Nat → Bool) (v : Value) (w : World) (B1 : Nat) (h : RdV w v n F) (hs : ∀ k, k < n → ∃ A c l, F k = .slice A l c)
    (hp : ∀ k, k < n → ∀ W, Below w.heap.size w W → Calls Try.prog 22 #[F k, .pointer (some ⟨B1, 0, none⟩)] W fun e w' => e = .returned (.bool (p k)) ∧ Below W.heap.size W w') :
    Calls Try.prog 21 #[v, .func (.func 22) #[] #[.pointer (some ⟨B1, 0, none⟩)]] w fun e w' => e = .returned (.bool (tt (∃ k, k < n ∧ p k = true))) ∧ Below w.heap.size w w' := by
  have HI := Lib.hid (index_nw n F p v w B1 h hs hp)
  obtain ⟨A, cap, rfl, _⟩ := h
  clear hp hs
  go_enter Try.func21, Try.ntmps21
  go_wp2_with fail
  refine HI.out.mono ?_
  rintro e w1 ⟨⟨r, rfl, hr⟩, hB⟩
  have HB := Lib.hid hB
  rcases hr with ⟨rfl, hr⟩ | ⟨j, rfl, hj, hr⟩
  · have ht : Hid (tt (∃ k, k < n ∧ p k = true) = false) := tt_neg (fun ⟨k, hk, hpk⟩ => by rw [hr k hk] at hpk; cases hpk)
    clear hr hB
    go_wp2
    go_ret
    exact ⟨by rw [ht.out]; rfl, HB.out⟩
  · have ht : Hid (tt (∃ k, k < n ∧ p k = true) = true) := tt_pos ⟨j, hj, hr⟩
    clear hr hB
    go_wp2
    go_ret
    exact ⟨by rw [ht.out]; rfl, HB.out⟩

set_option maxRecDepth 100000 in
theorem index_odd (n : Nat) (F : Nat → Value) (p : Nat → Bool) (v : Value) (w : World) (B1 B2 : Nat) (h : RdV w v n F) (hs : ∀ k, k < n → ∃ A c l, F k = .slice A l c)
    (hp : ∀ k, k < n → ∀ W, Drawn w W → Calls Try.prog 25 #[F k, .pointer (some ⟨B1, 0, none⟩), .pointer (some ⟨B2, 0, none⟩)] W fun e w' => e = .returned (.bool (p k)) ∧ Drawn W w') :
    Calls Try.prog 50 #[v, .func (.func 25) #[] #[.pointer (some ⟨B1, 0, none⟩), .pointer (some ⟨B2, 0, none⟩)]] w fun e w' => (∃ r : Int, e = .returned (.int .i64 r) ∧ (r = -1 ∧ (∀ j, j < n → p j = false) ∨ ∃ j : Nat, r = j ∧ j < n ∧ p j = true)) ∧ Drawn w w' := by
  obtain ⟨A, cap, rfl, h1, h2, h3⟩ := h
  have hl : n ≤ 9223372036854775807 := by unfold maxLen at h2; omega
  have H3 := Lib.hid h3
  have HP := Lib.hid hp
  have HS := Lib.hid hs
  clear h3 hp hs
  go_enter Try.func50, Try.ntmps50
  go_wp2
  go_loopw [8] (fun i wr => ∃ k : Nat, k ≤ n ∧ i = .int .i64 k ∧ Hid (∀ j, j < k → p j = false) ∧ Drawn w wr) (fun i _ => n - (intOf i).toNat)
  case atStart => exact ⟨0, Nat.zero_le _, rfl, fun j hj => by omega, Drawn.refl _⟩
  case round =>
    obtain ⟨k, hk, rfl, hz, hbel⟩ := hrel
    obtain ⟨W0, hW0⟩ : ∃ W0 : World, W0 = wr := ⟨_, rfl⟩
    rw [← hW0] at hbel ⊢
    clear hW0
    by_cases hlt : k < n
    · obtain ⟨b, off, rfl, hc⟩ := H3.out (by omega)
      have hci := cell_below hbel.below (hc k hlt)
      have HQ := HP.out k hlt _ hbel
      obtain ⟨Ak, ck, lk, hFk⟩ := HS.out k hlt
      rw [hFk] at hci HQ
      have HQ' := Lib.hid HQ
      have HB := Lib.hid hbel
      clear hc hFk HQ hbel
      obtain ⟨c, hc⟩ : ∃ c, c = p k := ⟨_, rfl⟩
      rw [← hc] at HQ'
      have HC := Lib.hid hc
      have HZ : Hid (p k = false → ∀ j, j < k + 1 → p j = false) := fun e j hj => by
        rcases Nat.lt_or_ge j k with h | h
        · exact hz.out j h
        · have : j = k := by omega
          rw [this]; exact e
      clear hc
      cases c with
      | true =>
        go_wp2_with (go_at_call 25; refine HQ'.out.mono ?_; rintro e w1 ⟨rfl, hB1⟩)
        have hB1 : Drawn W0 w1 := by assumption
        go_ret
        exact ⟨⟨_, rfl, .inr ⟨k, rfl, hlt, HC.out.symm⟩⟩, HB.out.trans hB1⟩
      | false =>
        go_wp2_with (go_at_call 25; refine HQ'.out.mono ?_; rintro e w1 ⟨rfl, hB1⟩)
        have hB1 : Drawn W0 w1 := by assumption
        go_roundw
        case rel => exact ⟨k + 1, hlt, by go_num, HZ.out HC.out.symm, HB.out.trans hB1⟩
        case measure => simp [intOf]; omega
    · obtain rfl : k = n := by omega
      go_wp2
      go_ret
      exact ⟨⟨_, rfl, .inl ⟨rfl, hz.out⟩⟩, hbel⟩

theorem contains_odd (n : Nat) (F : Nat → Value) (p : Nat → Bool) (v : Value) (w : World) (B1 B2 : Nat) (h : RdV w v n F) (hs : ∀ k, k < n → ∃ A c l, F k = .slice A l c)
    (hp : ∀ k, k < n → ∀ W, Drawn w W → Calls Try.prog 25 #[F k, .pointer (some ⟨B1, 0, none⟩), .pointer (some ⟨B2, 0, none⟩)] W fun e w' => e = .returned (.bool (p k)) ∧ Drawn W w') :
    Calls Try.prog 21 #[v, .func (.func 25) #[] #[.pointer (some ⟨B1, 0, none⟩), .pointer (some ⟨B2, 0, none⟩)]] w fun e w' => e = .returned (.bool (tt (∃ k, k < n ∧ p k = true))) ∧ Drawn w w' := by
  have HI := Lib.hid (index_odd n F p v w B1 B2 h hs hp)
  obtain ⟨A, cap, rfl, _⟩ := h
  clear hp hs
  go_enter Try.func21, Try.ntmps21
  go_wp2_with fail
  refine HI.out.mono ?_
  rintro e w1 ⟨⟨r, rfl, hr⟩, hB⟩
  have HB := Lib.hid hB
  rcases hr with ⟨rfl, hr⟩ | ⟨j, rfl, hj, hr⟩
  · have ht : Hid (tt (∃ k, k < n ∧ p k = true) = false) := tt_neg (fun ⟨k, hk, hpk⟩ => by rw [hr k hk] at hpk; cases hpk)
    clear hr hB
    go_wp2
    go_ret
    exact ⟨by rw [ht.out]; rfl, HB.out⟩
  · have ht : Hid (tt (∃ k, k < n ∧ p k = true) = true) := tt_pos ⟨j, hj, hr⟩
    clear hr hB
    go_wp2
    go_ret
    exact ⟨by rw [ht.out]; rfl, HB.out⟩

/-- 'the word's symbol is not the first one's'. -/
theorem odd_any (n : Nat) (L : Nat → Nat) (G : Nat → Nat → Nat) (wv : Value) (k i B1 B2 : Nat) (w : World) (h : RdW w wv n L G) (hk : k < n) (hi0 : i < L 0) (hik : i < L k) (hG0 : G 0 i < 256) (hGk : G k i < 256) (v : Value) (hv : Rd w .u8 v (L k) (G k))
    (hb1 : w.cell? ⟨B1, 0, none⟩ = some (.int .i64 i)) (hb2 : w.cell? ⟨B2, 0, none⟩ = some wv) :
    Calls Try.prog 25 #[v, .pointer (some ⟨B1, 0, none⟩), .pointer (some ⟨B2, 0, none⟩)] w fun e w' => e = .returned (.bool (!tt (G k i = G 0 i))) ∧ Drawn w w' := by
  have hlk := hv.len_le
  obtain ⟨A, cap, rfl, hl, h3⟩ := h.at_
  obtain ⟨b, off, rfl, hc⟩ := h3 (by omega)
  obtain ⟨A0, c0, hc0, hl0, hR0⟩ := hc 0 (by omega)
  rw [Nat.add_zero] at hc0
  obtain ⟨A0', c0', e0, _, _, hR3⟩ := hR0
  obtain ⟨b0, off0, e0', hw0⟩ := hR3 (by omega)
  cases e0
  cases e0'
  have h0i := hw0 i hi0
  obtain ⟨Ak, ck, rfl, _, _, hv3⟩ := hv
  obtain ⟨bk, offk, rfl, hwk⟩ := hv3 (by omega)
  have hki := hwk i hik
  have hn0 : (0 : Int) < (n : Int) := by omega
  have hi1 : (i : Int) < (L 0 : Int) := by omega
  have hi2 : (i : Int) < (L k : Int) := by omega
  obtain ⟨c, hc'⟩ : ∃ c, c = (((G k i : Nat) : Int) != ((G 0 i : Nat) : Int)) := ⟨_, rfl⟩
  have HE : Hid ((!tt (G k i = G 0 i)) = c) := by
    show _ = _
    rw [hc']
    by_cases hq : G k i = G 0 i
    · rw [tt_pos hq, hq]; simp
    · rw [tt_neg hq]; symm; show (_ != _) = true; rw [bne_iff_ne]; omega
  have hcs := hc'.symm
  clear hc' hc h3 h hw0 hR3 hv3 hwk
  go_enter Try.func25, Try.ntmps25
  go_wp2
  go_quiet (fail)
  go_wp2
  go_ret
  exact ⟨by rw [HE.out]; rfl, (by first | exact ⟨_, rfl⟩ | exact Drawn.drewN ⟨_, rfl⟩ _)⟩

/-- The values that are read are slices. -/
theorem RdW.vals {w : World} {v : Value} {n : Nat} {L : Nat → Nat} {G : Nat → Nat → Nat} (h : RdW w v n L G) : ∃ F, RdV w v n F ∧ (∀ k, k < n → Rd w .u8 (F k) (L k) (G k)) ∧ ∀ k, k < n → ∃ A c l, F k = .slice A l c := by
  obtain ⟨F, h1, h2⟩ := h
  refine ⟨F, h1, h2, fun k hk => ?_⟩
  obtain ⟨A, cap, hv, _⟩ := h2 k hk
  exact ⟨A, cap, L k, hv⟩

end Go.Proofs.Ytmbokpfgnicboaa
