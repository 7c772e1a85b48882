import Derived.Test.YtmbokpfgnicboaaF1
set_option linter.unusedVariables false
set_option linter.unusedSimpArgs false
/- The walks of the reference's Feasible. -/
namespace Go.Proofs.Ytmbokpfgnicboaa
open Go.RowKit Go.Hd _root_.Hd

/-- v is a slice of n words: the word k has L k symbols, G k 0, G k 1, and so on. -/
def RdW (w : World) (v : Value) (n : Nat) (L : Nat → Nat) (G : Nat → Nat → Nat) : Prop :=
  ∃ F, RdV w v n F ∧ ∀ k, k < n → Rd w .u8 (F k) (L k) (G k)

theorem RdW.below {w w1 : World} {v : Value} {n : Nat} {L : Nat → Nat} {G : Nat → Nat → Nat} (h : RdW w v n L G) (hb : Below w.heap.size w w1) : RdW w1 v n L G := by
  obtain ⟨F, h1, h2⟩ := h
  exact ⟨F, h1.below hb, fun k hk => (h2 k hk).below hb⟩

/-- A word's cell, and its symbols. -/
theorem RdW.at_ {w : World} {v : Value} {n : Nat} {L : Nat → Nat} {G : Nat → Nat → Nat} (h : RdW w v n L G) :
    ∃ A cap, v = .slice A n cap ∧ n ≤ 9223372036854775807 ∧ (0 < n → ∃ b off, A = some ⟨b, off, none⟩ ∧ ∀ k, k < n → ∃ Ak ck, w.cell? ⟨b, off + k, none⟩ = some (.slice Ak (L k) ck) ∧ L k ≤ 9223372036854775807 ∧ Rd w .u8 (.slice Ak (L k) ck) (L k) (G k)) := by
  obtain ⟨F, ⟨A, cap, rfl, h1, h2, h3⟩, hF⟩ := h
  refine ⟨A, cap, rfl, by unfold maxLen at h2; omega, fun hn => ?_⟩
  obtain ⟨b, off, hA, hc⟩ := h3 hn
  refine ⟨b, off, hA, fun k hk => ?_⟩
  have hR := hF k hk
  have hl := hR.len_le
  have hR' := hR
  obtain ⟨Ak, ck, hv, _⟩ := hR
  rw [hv] at hR'
  exact ⟨Ak, ck, by rw [hc k hk, hv], hl, hR'⟩

/-- From 1 to 64 words of one length of at most 1024. -/
def WordsOk (n : Nat) (L : Nat → Nat) (G : Nat → Nat → Nat) : Prop := 1 ≤ n ∧ n ≤ 64 ∧ L 0 ≤ 1024 ∧ ∀ k, k < n → IsW (L k) (G k) (L 0)
/-- A copy has the words' symbol wherever they have the same. -/
def Feas (n : Nat) (N : Nat) (G : Nat → Nat → Nat) (Y : Nat → Nat) : Prop := ∀ i, i < N → (∀ k, k < n → G k i = G 0 i) → Y i = G 0 i

set_option maxRecDepth 100000 in
set_option maxHeartbeats 1000000 in
theorem refWords_any (n : Nat) (L : Nat → Nat) (G : Nat → Nat → Nat) (v : Value) (w : World) (h : RdW w v n L G) :
    Calls Try.prog 26 #[v] w fun e w' => e = .returned (.bool (tt (WordsOk n L G))) ∧ Drawn w w' := by
  have HW := Lib.hid h
  obtain ⟨A, cap, rfl, hl, h3⟩ := h.at_
  have H3 := Lib.hid h3
  clear h h3
  by_cases hn1 : n < 1
  · have ht : Hid (tt (WordsOk n L G) = false) := tt_neg (fun q => by have := q.1; omega)
    go_enter Try.func26, Try.ntmps26
    go_wp2
    go_ret
    exact ⟨by rw [ht.out]; rfl, Drawn.refl _⟩
  · by_cases hn2 : 64 < n
    · have ht : Hid (tt (WordsOk n L G) = false) := tt_neg (fun q => by have := q.2.1; omega)
      go_enter Try.func26, Try.ntmps26
      go_wp2
      go_ret
      exact ⟨by rw [ht.out]; rfl, Drawn.refl _⟩
    · obtain ⟨b, off, rfl, hc⟩ := H3.out (by omega)
      have HC := Lib.hid hc
      obtain ⟨A0, c0, hc0, hl0, _⟩ := hc 0 (by omega)
      rw [Nat.add_zero] at hc0
      clear hc
      by_cases hn3 : 1024 < L 0
      · have ht : Hid (tt (WordsOk n L G) = false) := tt_neg (fun q => by have := q.2.2.1; omega)
        go_enter Try.func26, Try.ntmps26
        go_wp2
        go_ret
        exact ⟨by rw [ht.out]; rfl, Drawn.refl _⟩
      · go_enter Try.func26, Try.ntmps26
        go_wp2
        go_loopw [3] (fun i wr => ∃ k : Nat, k ≤ n ∧ i = .int .i64 k ∧ Hid (∀ j, j < k → IsW (L j) (G j) (L 0)) ∧ Drawn w wr) (fun i _ => n - (intOf i).toNat)
        case atStart => exact ⟨0, Nat.zero_le _, rfl, fun j hj => by omega, Drawn.refl _⟩
        case round =>
          obtain ⟨k, hk, rfl, hz, q, rfl⟩ := hrel
          by_cases hlt : k < n
          · obtain ⟨Ak, ck, hck, hlk, hRk⟩ := HC.out k hlt
            have HR : Hid (∀ m, Rd (w.drewN m) .u8 (.slice Ak (L k) ck) (L k) (G k)) := fun m => hRk.below (Drawn.below ⟨m, rfl⟩)
            have h0n : (0 : Int) < (n : Int) := by omega
            have hkn : ((k : Nat) : Int) < (n : Int) := by omega
            obtain ⟨c, hc⟩ : ∃ c, c = tt (IsW (L k) (G k) (L 0)) := ⟨_, rfl⟩
            have HCc := Lib.hid hc
            have HQ : Hid (∀ m, Calls Try.prog 33 #[.slice Ak (L k) ck, .int .i64 (L 0)] (w.drewN m) fun e w' => e = .returned (.bool c) ∧ w.drewN m = w') := by
              intro m; rw [hc]; exact refIsWord_any (L k) (G k) _ (L 0) _ (HR.out m)
            clear hRk hc
            cases c with
            | false =>
              go_wp2
              go_quiet ((go_at_call 33; exact quiet_add (HQ.out _)))
              go_wp2
              have ht : tt (WordsOk n L G) = false := tt_neg (fun h => by have h1 := tt_pos (h.2.2.2 k hlt); rw [← HCc.out] at h1; cases h1)
              go_ret
              exact ⟨by rw [ht]; rfl, (by first | exact ⟨_, rfl⟩ | exact Drawn.drewN ⟨_, rfl⟩ _)⟩
            | true =>
              go_wp2
              go_quiet ((go_at_call 33; exact quiet_add (HQ.out _)))
              go_wp2
              go_roundw
              case rel => exact ⟨k + 1, hlt, by go_num, fun j hj => by
                rcases Nat.lt_or_ge j k with h | h
                · exact hz.out j h
                · have : j = k := by omega
                  rw [this]; exact tt_iff.1 HCc.out.symm, (by first | exact ⟨_, rfl⟩ | exact Drawn.drewN ⟨_, rfl⟩ _)⟩
              case measure => simp [intOf]; omega
          · obtain rfl : k = n := by omega
            have ht : Hid (tt (WordsOk k L G) = true) := tt_pos ⟨by omega, by omega, by omega, hz.out⟩
            go_wp2
            go_ret
            exact ⟨by rw [ht.out]; rfl, ⟨_, rfl⟩⟩

/-- The words up to k have the first one's symbol in the place i. -/
def same (G : Nat → Nat → Nat) (i k : Nat) : Prop := ∀ j, j < k → G j i = G 0 i

set_option maxRecDepth 100000 in
set_option maxHeartbeats 2000000 in
theorem refIsFeasible_any (n N : Nat) (L : Nat → Nat) (G : Nat → Nat → Nat) (Y : Nat → Nat) (v y : Value) (w : World) (h : RdW w v n L G) (h1 : 1 ≤ n) (hL : ∀ k, k < n → L k = N) (hy : Rd w .u8 y N Y)
    (hG : ∀ k, k < n → ∀ j, j < N → G k j < 256) (hY : ∀ j, j < N → Y j < 256) :
    Calls Try.prog 28 #[v, y] w fun e w' => e = .returned (.bool (tt (Feas n N G Y))) ∧ Drawn w w' := by
  have HL := Lib.hid hL
  have HG := Lib.hid hG
  have HY := Lib.hid hY
  have hlN := hy.len_le
  obtain ⟨A, cap, rfl, hl, h3⟩ := h.at_
  obtain ⟨b, off, rfl, hc⟩ := h3 (by omega)
  obtain ⟨A2, cap2, rfl, _, _, hy3⟩ := hy
  have HC := Lib.hid hc
  have HYc := Lib.hid hy3
  obtain ⟨A0, c0, hc0, hl0, hR0⟩ := hc 0 (by omega)
  rw [Nat.add_zero, hL 0 (by omega)] at hc0
  rw [hL 0 (by omega)] at hR0 hl0
  have HR0 := Lib.hid hR0
  clear h h3 hc hL hG hY hy3 hR0
  go_enter Try.func28, Try.ntmps28
  go_wp2
  go_loopw [5] (fun i wr => ∃ k : Nat, k ≤ N ∧ i = .int .i64 k ∧ Hid (∀ i, i < k → (∀ j, j < n → G j i = G 0 i) → Y i = G 0 i) ∧ Drawn w wr) (fun i _ => N - (intOf i).toNat)
  case atStart => exact ⟨0, Nat.zero_le _, rfl, fun j hj => by omega, Drawn.refl _⟩
  case round =>
    obtain ⟨i, hi, rfl, hz, q, rfl⟩ := hrel
    by_cases hlt : i < N
    · obtain ⟨b2, off2, rfl, hyc⟩ := HYc.out (by omega)
      have hyi := hyc i hlt
      obtain ⟨A0', c0', e0, _, _, hR3⟩ := HR0.out
      obtain ⟨b0, off0, e0', hw0⟩ := hR3 (by omega)
      cases e0
      cases e0'
      have h0i := hw0 i hlt
      have hYi : Y i < 256 := HY.out i hlt
      have hG0 : G 0 i < 256 := HG.out 0 (by omega) i hlt
      have hn0 : (0 : Int) < (n : Int) := by omega
      have hiN : (i : Int) < (N : Int) := by omega
      clear hyc hw0 hR3
      go_wp2
      go_loopw [6, 7] (fun s j wr => ∃ k : Nat, k ≤ n ∧ j = .int .i64 k ∧ s = .bool (tt (same G i k)) ∧ Drawn w wr) (fun _ j _ => n - (intOf j).toNat)
      case atStart => exact ⟨0, Nat.zero_le _, rfl, by rw [tt_pos (show same G i 0 from fun j hj => by omega)], ⟨q, rfl⟩⟩
      case round =>
        obtain ⟨k, hk, rfl, rfl, q2, rfl⟩ := hrel
        by_cases hlt2 : k < n
        · obtain ⟨Ak, ck, hck, hlk, hRk⟩ := HC.out k hlt2
          rw [HL.out k hlt2] at hck hRk hlk
          obtain ⟨Ak', ck', ek, _, _, hR4⟩ := hRk
          obtain ⟨bk, offk, ek', hwk⟩ := hR4 (by omega)
          cases ek
          cases ek'
          have hki := hwk i hlt
          have hGk : G k i < 256 := HG.out k hlt2 i hlt
          have hkn : (k : Int) < (n : Int) := by omega
          clear hwk hR4
          obtain ⟨s, hs⟩ : ∃ s, s = tt (same G i k) := ⟨_, rfl⟩
          rw [← hs]
          have HS := Lib.hid hs
          clear hs
          cases s with
          | false =>
            have e : Hid (tt (same G i (k + 1)) = false) := tt_neg (fun h => by
              have := tt_not.1 HS.out.symm
              exact this (fun j hj => h j (by omega)))
            go_wp2
            go_quiet (fail)
            go_wp2
            go_roundw
            case rel => exact ⟨k + 1, hlt2, by go_num, by rw [e.out], (by first | exact ⟨_, rfl⟩ | exact Drawn.drewN ⟨_, rfl⟩ _)⟩
            case measure => simp [intOf]; omega
          | true =>
            obtain ⟨c, hc⟩ : ∃ c, c = (((G k i : Nat) : Int) == ((G 0 i : Nat) : Int)) := ⟨_, rfl⟩
            have e : Hid (tt (same G i (k + 1)) = c) := by
              show _ = _
              have hs := tt_iff.1 HS.out.symm
              rw [hc]
              by_cases hq : G k i = G 0 i
              · rw [tt_pos (show same G i (k + 1) from fun j hj => by
                  rcases Nat.lt_or_ge j k with h | h
                  · exact hs j h
                  · have : j = k := by omega
                    rw [this]; exact hq), hq]; simp
              · rw [tt_neg (fun h : same G i (k + 1) => hq (h k (by omega)))]
                symm; rw [beq_eq_false_iff_ne]; omega
            have hc' := hc.symm
            clear hc
            go_wp2
            go_quiet (fail)
            go_wp2
            go_roundw
            case rel => exact ⟨k + 1, hlt2, by go_num, by rw [e.out], (by first | exact ⟨_, rfl⟩ | exact Drawn.drewN ⟨_, rfl⟩ _)⟩
            case measure => simp [intOf]; omega
        · obtain rfl : k = n := by omega
          obtain ⟨s, hs⟩ : ∃ s, s = tt (same G i k) := ⟨_, rfl⟩
          rw [← hs]
          have HS := Lib.hid hs
          clear hs
          cases s with
          | false =>
            have hns := tt_not.1 HS.out.symm
            have HZ : Hid (∀ t, t < i + 1 → (∀ j, j < k → G j t = G 0 t) → Y t = G 0 t) := fun t ht hall => by
              rcases Nat.lt_or_ge t i with h | h
              · exact hz.out t h hall
              · have e : t = i := by omega
                rw [e] at hall
                exact absurd hall hns
            clear hns
            go_wp2
            go_quiet (fail)
            go_wp2
            go_roundw
            case rel => exact ⟨i + 1, hlt, by go_num, HZ, (by first | exact ⟨_, rfl⟩ | exact Drawn.drewN ⟨_, rfl⟩ _)⟩
            case measure => simp [intOf]; omega
          | true =>
            have hss := Lib.hid (tt_iff.1 HS.out.symm)
            by_cases hq : Y i = G 0 i
            · have hb : (((Y i : Nat) : Int) != ((G 0 i : Nat) : Int)) = false := by simp; omega
              have HZ : Hid (∀ t, t < i + 1 → (∀ j, j < k → G j t = G 0 t) → Y t = G 0 t) := fun t ht hall => by
                rcases Nat.lt_or_ge t i with h | h
                · exact hz.out t h hall
                · have e : t = i := by omega
                  rw [e]
                  exact hq
              clear hq
              go_wp2
              go_quiet (fail)
              go_wp2
              go_roundw
              case rel => exact ⟨i + 1, hlt, by go_num, HZ, (by first | exact ⟨_, rfl⟩ | exact Drawn.drewN ⟨_, rfl⟩ _)⟩
              case measure => simp [intOf]; omega
            · have hb : (((Y i : Nat) : Int) != ((G 0 i : Nat) : Int)) = true := by simp; omega
              have ht : Hid (tt (Feas k N G Y) = false) := tt_neg (fun h => hq (h i hlt hss.out))
              clear hq
              go_wp2
              go_quiet (fail)
              go_wp2
              go_ret
              exact ⟨by rw [ht.out]; rfl, (by first | exact ⟨_, rfl⟩ | exact Drawn.drewN ⟨_, rfl⟩ _)⟩
    · obtain rfl : i = N := by omega
      have ht : Hid (tt (Feas n i G Y) = true) := tt_pos hz.out
      go_wp2
      go_ret
      exact ⟨by rw [ht.out]; rfl, ⟨_, rfl⟩⟩
end Go.Proofs.Ytmbokpfgnicboaa
