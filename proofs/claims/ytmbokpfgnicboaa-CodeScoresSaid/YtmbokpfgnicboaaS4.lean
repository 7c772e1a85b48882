import Derived.Test.YtmbokpfgnicboaaS3
import Derived.Lib.QuietBelow
set_option linter.unusedVariables false
set_option linter.unusedSimpArgs false
/- The walks of codes of scores: words. -/
namespace Go.Proofs.Ytmbokpfgnicboaa
open Go.RowKit Go.Hd Go.Sort _root_.Hd


set_option maxRecDepth 100000 in
set_option maxHeartbeats 1000000 in
theorem refScoresWord_any (U : Int) (Bs : Nat) (v : Value) (K : Nat → Nat) (n : Nat) (a : Nat → Nat) (u : Nat) (w : World) (h : RdV w v n (fun j => .int .i64 (a j : Int))) (hn : n ≤ 64) (hK : Kb K) (hu : u < 1000) (hB : Bs < 1000) (ha : ∀ j, j < n → a j < 1000) :
    Calls Try.prog 31 #[scV U (Bs : Int) v K, .int .i64 u] w fun e w' => ∃ b, e = .returned (.slice (some ⟨b, 0, none⟩) n n) ∧ w'.rowIs b 5 n (fun i => .int .u8 (swN K u Bs a i : Nat)) ∧ Below w.heap.size w w' := by
  have HD := Lib.hid (fun W => refDerive_any K 70 u W hK (by omega) (by unfold W64; omega))
  have HN := Lib.hid (fun i (hi : i < W64) W => refNumber_any (derN K 70 u) i Bs W (derN_kb _ _ _) hi (by unfold W64; omega))
  have hwu := wrap_small u (by omega)
  have hwB := wrap_small Bs (by omega)
  have hmk := run_make_row' (P := Try.prog) 23 5 (.int .u8 0) 1 Try.underlying23 infoU8 rfl .i64 .i64 n (by omega) (by omega)
  obtain ⟨A, cap, rfl, _, _, h3⟩ := h
  have H3 := Lib.hid h3
  have HA := Lib.hid ha
  have HS := Lib.hid (sc_row w U (Bs : Int) (.slice A n cap) K 34)
  have hc2 := HS.out.cell (i := 2) (by omega)
  clear h3 hu hB ha hK
  go_enter Try.func31, Try.ntmps31
  go_wp2_with (refine wp_load_cells rfl 32 _ rfl w.heap.size 3 rfl 16 _ _ _ (sc_key HS.out) rfl (key_cs K) Try.underlying32 rfl key_size ?_)
  refine (HD.out _).mono ?_
  rintro e w1 ⟨rfl, hb⟩
  have HB1 := Lib.hid (((Below.refl w.heap.size w).alloc (Nat.le_refl _) _).trans (hb.mono (by simp)))
  have HS1 := Lib.hid (HS.out.of_block (hb.block _ HS.out.lt))
  have hz := zero_row w1 (fun _ => 0) (fun _ _ => rfl) 32
  have HZ := Lib.hid hz
  have hsw1 := HS1.out.lt
  clear hb hc2 hz HS
  go_wp2_with (refine wp_store_whole rfl 32 _ _ rfl w1.heap.size _ rfl rfl 32 16 _ _ HZ.out rfl (key_cs _) key_size (key_one _) ?_; intro w2 hk2 hg2; have HK2 := Lib.hid hk2; have hs2 := (HS1.out.alloc _).of_block (kept_grown hg2 (by simp; omega) (by omega)); have hB2 := (HB1.out.alloc HB1.out.size _).trans (below_grown hg2 (by have := HB1.out.size; omega) (by simp)); have HS2 := Lib.hid hs2; have HB2 := Lib.hid hB2; have hc2 := hs2.cell (i := 2) (by omega); dsimp only [scF] at hc2; have hlw := Nat.lt_trans hsw1 hk2.lt; clear hk2 hg2 hs2 hB2)
  have hkl := HK2.out.lt
  go_wp2
  go_loopw [7] (fun i wr => ∃ k : Nat, k ≤ n ∧ i = .int .i64 k ∧ wr.rowIs w2.heap.size 5 n (fun i => .int .u8 ((if i < k then swN K u Bs a i else 0 : Nat))) ∧ wr.rowIs w1.heap.size 32 16 (fun i => .int .u8 (derN K 70 u i : Nat)) ∧ wr.rowIs w.heap.size 34 19 (scF U (Bs : Int) (.slice A n cap) K) ∧ Below w.heap.size w wr) (fun i _ => n - (intOf i).toNat)
  case atStart =>
    refine ⟨0, Nat.zero_le _, rfl, (World.rowIs_made w2 _ n _).congr fun i hi => by rw [if_neg (by omega)]; rfl, HK2.out.alloc _, HS2.out.alloc _, HB2.out.alloc HB2.out.size _⟩
  case round =>
    obtain ⟨k, hk, rfl, hrow, hkey, hsc, hbel⟩ := hrel
    have HRow := Lib.hid hrow
    have HKey := Lib.hid hkey
    have HSc := Lib.hid hsc
    have HB := Lib.hid hbel
    have hc1 := hsc.cell (i := 1) (by omega)
    dsimp only [scF] at hc1
    clear hrow hkey hsc hbel hc2
    by_cases hlt : k < n
    · obtain ⟨b, off, rfl, hc⟩ := H3.out (by omega)
      have hci := cell_below HB.out (hc k hlt)
      have hak := HA.out k hlt
      have hwk := wrap_small k (by omega)
      have hwa := wrap_small (a k) (by omega)
      have HNk := Lib.hid (HN.out k (by unfold W64; omega))
      have hkey := HKey.out
      have hc2 := HSc.out.cell (i := 2) (by omega)
      dsimp only [scF] at hc2
      have kc1 := cell_regrown hc1
      have kc2 := cell_regrown hc2
      have kci := cell_regrown hci
      have HQ : ∀ d os, Calls Try.prog 56 #[keyV (derN K 70 u), .int .u64 (k : Int), .int .u64 (Bs : Int)] (grow (redrawn wr d) os) fun e w'' => e = .returned (.int .u64 (numN (derN K 70 u) k Bs : Nat)) ∧ ∃ p : Regrown, w'' = grow (redrawn wr p.d) p.os := fun d os => Calls.regrown_of (HNk.out _)
      have HQq := Lib.hid HQ
      clear hc hkey HQ
      by_cases hsw : numN (derN K 70 u) k Bs < a k
      · have e1 : Hid (swN K u Bs a k = 1) := by show _ = _; unfold swN; rw [if_pos hsw]
        go_wp2
        refine wp_region_quiet_below (by kernel_rfl) (by kernel_rfl) ?_
        refine quiet_load_cells rfl 32 _ rfl w1.heap.size 0 rfl 16 _ _ _ (fun W hW j hj => by obtain ⟨p, rfl⟩ := hW; rw [Nat.zero_add]; exact cell_regrown (HKey.out.cell hj) _ _) rfl (key_cs _) Try.underlying32 rfl key_size ?_
        repeat (quiet_step (exact HQq.out _ _))
        refine wpQuiet_nil ?_
        intro w4 hw4
        have hb4 : Below wr.heap.size wr w4 := by obtain ⟨p, rfl⟩ := hw4; exact below_regrown _ _ _
        have hrow4 := HRow.out.of_block (hb4.block _ HRow.out.lt)
        have HKey4 := Lib.hid (HKey.out.of_block (hb4.block _ HKey.out.lt))
        have HSc4 := Lib.hid (HSc.out.of_block (hb4.block _ HSc.out.lt))
        have HB4 := Lib.hid (HB.out.trans (hb4.mono HB.out.size))
        have hcell := hrow4.cell hlt
        have hfz := hrow4.frozen k
        have HRow4 := Lib.hid hrow4
        clear hrow4 hb4 hw4 kc1 kc2 kci
        go_wp2
        go_roundw
        case rel =>
          refine ⟨k + 1, hlt, by go_num, (HRow4.out.set k _).congr fun j hj => ?_, HKey4.out.setOther (by show w1.heap.size ≠ w2.heap.size; omega) _, HSc4.out.setOther (by show w.heap.size ≠ w2.heap.size; omega) _, HB4.out.setCell (p := ⟨w2.heap.size, k, none⟩) (by show w.heap.size ≤ w2.heap.size; omega) _⟩
          by_cases e : j = k
          · rw [if_pos e, if_pos (by omega), e, e1.out]; rfl
          · rw [if_neg e]
            by_cases e2 : j < k
            · rw [if_pos e2, if_pos (by omega)]
            · rw [if_neg e2, if_neg (by omega)]
        case measure => simp [intOf]; omega
      · have e1 : Hid (swN K u Bs a k = 0) := by show _ = _; unfold swN; rw [if_neg hsw]
        go_wp2
        refine wp_region_quiet_below (by kernel_rfl) (by kernel_rfl) ?_
        refine quiet_load_cells rfl 32 _ rfl w1.heap.size 0 rfl 16 _ _ _ (fun W hW j hj => by obtain ⟨p, rfl⟩ := hW; rw [Nat.zero_add]; exact cell_regrown (HKey.out.cell hj) _ _) rfl (key_cs _) Try.underlying32 rfl key_size ?_
        repeat (quiet_step (exact HQq.out _ _))
        refine wpQuiet_nil ?_
        intro w4 hw4
        have hb4 : Below wr.heap.size wr w4 := by obtain ⟨p, rfl⟩ := hw4; exact below_regrown _ _ _
        have hrow4 := HRow.out.of_block (hb4.block _ HRow.out.lt)
        have HKey4 := Lib.hid (HKey.out.of_block (hb4.block _ HKey.out.lt))
        have HSc4 := Lib.hid (HSc.out.of_block (hb4.block _ HSc.out.lt))
        have HB4 := Lib.hid (HB.out.trans (hb4.mono HB.out.size))
        have hcell := hrow4.cell hlt
        have hfz := hrow4.frozen k
        have HRow4 := Lib.hid hrow4
        clear hrow4 hb4 hw4 kc1 kc2 kci
        go_wp2
        go_roundw
        case rel =>
          refine ⟨k + 1, hlt, by go_num, HRow4.out.congr fun j hj => ?_, HKey4.out, HSc4.out, HB4.out⟩
          by_cases e2 : j < k
          · rw [if_pos e2, if_pos (by omega)]
          · rw [if_neg e2]
            by_cases e : j = k
            · rw [if_pos (by omega), e, e1.out]
            · rw [if_neg (by omega)]
        case measure => simp [intOf]; omega
    · obtain rfl : k = n := by omega
      go_wp2
      go_ret
      exact ⟨_, rfl, HRow.out.congr fun i hi => by rw [if_pos hi], HB.out⟩
end Go.Proofs.Ytmbokpfgnicboaa
