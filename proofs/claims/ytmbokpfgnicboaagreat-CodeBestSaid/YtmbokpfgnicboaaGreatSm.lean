import Derived.Test.YtmbokpfgnicboaaGreatS2
import Derived.Test.YtmbokpfgnicboaaGreatInf
import Derived.Lib.QuietBelow
set_option linter.unusedVariables false
set_option linter.unusedSimpArgs false
/- The walks of codes of scores: words. -/
namespace Go.Proofs.YtmbokpfgnicboaaGreat
open Go.RowKit Go.Hd _root_.Hd

theorem key_one (K : Nat → Nat) : (#[.int .u8 (K 0), .int .u8 (K 1), .int .u8 (K 2), .int .u8 (K 3), .int .u8 (K 4), .int .u8 (K 5), .int .u8 (K 6), .int .u8 (K 7), .int .u8 (K 8), .int .u8 (K 9), .int .u8 (K 10), .int .u8 (K 11), .int .u8 (K 12), .int .u8 (K 13), .int .u8 (K 14), .int .u8 (K 15)] : Array Value).all (·.oneCell') = true := by simp [Value.oneCell']
/-- The word of a user, place by place. -/
def swN (K : Nat → Nat) (u Bs : Nat) (a : Nat → Nat) (i : Nat) : Nat := if numN (derN K 70 u) i Bs < a i then 1 else 0
theorem wrap_small (x : Nat) (h : x < 18446744073709551616) : IntKind.u64.wrap (x : Int) = (x : Int) := by rw [IntKind.wrap_u64]; omega

set_option maxRecDepth 100000 in
set_option maxHeartbeats 1000000 in
theorem scoreWord_any (U : Int) (Bs : Nat) (v : Value) (K : Nat → Nat) (n : Nat) (a : Nat → Nat) (u : Nat) (w : World) (h : RdV w v n (fun j => .int .i64 (a j : Int))) (hn : n ≤ 64) (hK : Kb K) (hu : u < 1000) (hB : Bs < 1000) (ha : ∀ j, j < n → a j < 1000) :
    Calls Tryz.prog 78 #[scV U (Bs : Int) v K, .int .i64 u] w fun e w' => ∃ b, e = .returned (.slice (some ⟨b, 0, none⟩) n n) ∧ w'.rowIs b 5 n (fun i => .int .u8 (swN K u Bs a i : Nat)) ∧ Below w.heap.size w w' := by
  have HD := Lib.hid (fun W => derive_any K 70 u W hK (by omega) (by unfold W64; omega))
  have HN := Lib.hid (fun i (hi : i < W64) W => number_any (derN K 70 u) i Bs W (derN_kb _ _ _) hi (by unfold W64; omega))
  have hwu := wrap_small u (by omega)
  have hwB := wrap_small Bs (by omega)
  have hmk := run_make_row' (P := Tryz.prog) 30 5 (.int .u8 0) 1 Tryz.underlying30 infoU8 rfl .i64 .i64 n (by omega) (by omega)
  obtain ⟨A, cap, rfl, _, _, h3⟩ := h
  have H3 := Lib.hid h3
  have HA := Lib.hid ha
  have HS := Lib.hid (sc_row w U (Bs : Int) (.slice A n cap) K 46)
  have hc2 := HS.out.cell (i := 2) (by omega)
  clear h3 hu hB ha hK
  go_enter Tryz.func78, Tryz.ntmps78
  go_wp2_with (refine wp_load_cells rfl 23 _ rfl w.heap.size 3 rfl 16 _ _ _ (sc_key HS.out) rfl (key_cs K) Tryz.underlying23 rfl key_size ?_)
  refine (HD.out _).mono ?_
  rintro e w1 ⟨rfl, hb⟩
  have HB1 := Lib.hid (((Below.refl w.heap.size w).alloc (Nat.le_refl _) _).trans (hb.mono (by simp)))
  have HS1 := Lib.hid (HS.out.of_block (hb.block _ HS.out.lt))
  have hz := zero_row w1 (fun _ => 0) (fun _ _ => rfl) 23
  have HZ := Lib.hid hz
  have hsw1 := HS1.out.lt
  clear hb hc2 hz HS
  go_wp2_with (refine wp_store_whole rfl 23 _ _ rfl w1.heap.size _ rfl rfl 23 16 _ _ HZ.out rfl (key_cs _) key_size (key_one _) ?_; intro w2 hk2 hg2; have HK2 := Lib.hid hk2; have hs2 := (HS1.out.alloc _).of_block (kept_grown hg2 (by simp; omega) (by omega)); have hB2 := (HB1.out.alloc HB1.out.size _).trans (below_grown hg2 (by have := HB1.out.size; omega) (by simp)); have HS2 := Lib.hid hs2; have HB2 := Lib.hid hB2; have hc2 := hs2.cell (i := 2) (by omega); dsimp only [scF] at hc2; have hlw := Nat.lt_trans hsw1 hk2.lt; clear hk2 hg2 hs2 hB2)
  have hkl := HK2.out.lt
  go_wp2
  go_loopw [21] (fun i wr => ∃ k : Nat, k ≤ n ∧ i = .int .i64 k ∧ wr.rowIs w2.heap.size 5 n (fun i => .int .u8 ((if i < k then swN K u Bs a i else 0 : Nat))) ∧ wr.rowIs w1.heap.size 23 16 (fun i => .int .u8 (derN K 70 u i : Nat)) ∧ wr.rowIs w.heap.size 46 19 (scF U (Bs : Int) (.slice A n cap) K) ∧ Below w.heap.size w wr) (fun i _ => n - (intOf i).toNat)
  case atStart =>
    refine ⟨0, Nat.zero_le _, rfl, (World.rowIs_made w2 _ n _).congr fun i hi => by rw [if_neg (by omega)]; rfl, HK2.out.alloc _, HS2.out.alloc _, HB2.out.alloc HB2.out.size _⟩
  case round =>
    obtain ⟨k, hk, rfl, hrow, hkey, hsc, hbel⟩ := hrel
    have HRow := Lib.hid hrow
    have HKey := Lib.hid hkey
    have HSc := Lib.hid hsc
    have HB := Lib.hid hbel
    have hc1 := hsc.cell (i := 1) (by omega)
    dsimp only [scF] at hc1
    clear hrow hkey hsc hbel hc2
    by_cases hlt : k < n
    · obtain ⟨b, off, rfl, hc⟩ := H3.out (by omega)
      have hci := cell_below HB.out (hc k hlt)
      have hak := HA.out k hlt
      have hwk := wrap_small k (by omega)
      have hwa := wrap_small (a k) (by omega)
      clear hc
      go_wp2_with (refine wp_load_whole rfl 23 _ rfl w1.heap.size rfl 23 16 _ _ _ HKey.out rfl (key_cs _) Tryz.underlying23 rfl key_size ?_)
      refine (HN.out k (by unfold W64; omega) _).mono ?_
      rintro e w4 ⟨rfl, hb4⟩
      have hrow4 := HRow.out.of_block (hb4.block _ HRow.out.lt)
      have HKey4 := Lib.hid (HKey.out.of_block (hb4.block _ HKey.out.lt))
      have HSc4 := Lib.hid (HSc.out.of_block (hb4.block _ HSc.out.lt))
      have HB4 := Lib.hid (HB.out.trans (hb4.mono HB.out.size))
      have hcell := hrow4.cell hlt
      have hfz := hrow4.frozen k
      have HRow4 := Lib.hid hrow4
      clear hrow4 hb4
      by_cases hsw : numN (derN K 70 u) k Bs < a k
      · have e1 : Hid (swN K u Bs a k = 1) := by show _ = _; unfold swN; rw [if_pos hsw]
        go_wp2
        go_roundw
        case rel =>
          refine ⟨k + 1, hlt, by go_num, (HRow4.out.set k _).congr fun j hj => ?_, HKey4.out.setOther (by show w1.heap.size ≠ w2.heap.size; omega) _, HSc4.out.setOther (by show w.heap.size ≠ w2.heap.size; omega) _, HB4.out.setCell (p := ⟨w2.heap.size, k, none⟩) (by show w.heap.size ≤ w2.heap.size; omega) _⟩
          by_cases e : j = k
          · rw [if_pos e, if_pos (by omega), e, e1.out]; rfl
          · rw [if_neg e]
            by_cases e2 : j < k
            · rw [if_pos e2, if_pos (by omega)]
            · rw [if_neg e2, if_neg (by omega)]
        case measure => simp [intOf]; omega
      · have e1 : Hid (swN K u Bs a k = 0) := by show _ = _; unfold swN; rw [if_neg hsw]
        go_wp2
        go_roundw
        case rel =>
          refine ⟨k + 1, hlt, by go_num, HRow4.out.congr fun j hj => ?_, HKey4.out, HSc4.out, HB4.out⟩
          by_cases e2 : j < k
          · rw [if_pos e2, if_pos (by omega)]
          · rw [if_neg e2]
            by_cases e : j = k
            · rw [if_pos (by omega), e, e1.out]
            · rw [if_neg (by omega)]
        case measure => simp [intOf]; omega
    · obtain rfl : k = n := by omega
      go_wp2
      go_ret
      exact ⟨_, rfl, HRow.out.congr fun i hi => by rw [if_pos hi], HB.out⟩
end Go.Proofs.YtmbokpfgnicboaaGreat

/- The walks of codes of scores: words. -/
namespace Go.Proofs.YtmbokpfgnicboaaGreat
open Go.RowKit Go.Hd Go.Sort _root_.Hd


set_option maxRecDepth 100000 in
set_option maxHeartbeats 1000000 in
theorem refScoresWord_any (U : Int) (Bs : Nat) (v : Value) (K : Nat → Nat) (n : Nat) (a : Nat → Nat) (u : Nat) (w : World) (h : RdV w v n (fun j => .int .i64 (a j : Int))) (hn : n ≤ 64) (hK : Kb K) (hu : u < 1000) (hB : Bs < 1000) (ha : ∀ j, j < n → a j < 1000) :
    Calls Tryz.prog 98 #[scV U (Bs : Int) v K, .int .i64 u] w fun e w' => ∃ b, e = .returned (.slice (some ⟨b, 0, none⟩) n n) ∧ w'.rowIs b 5 n (fun i => .int .u8 (swN K u Bs a i : Nat)) ∧ Below w.heap.size w w' := by
  have HD := Lib.hid (fun W => refDerive_any K 70 u W hK (by omega) (by unfold W64; omega))
  have HN := Lib.hid (fun i (hi : i < W64) W => refNumber_any (derN K 70 u) i Bs W (derN_kb _ _ _) hi (by unfold W64; omega))
  have hwu := wrap_small u (by omega)
  have hwB := wrap_small Bs (by omega)
  have hmk := run_make_row' (P := Tryz.prog) 30 5 (.int .u8 0) 1 Tryz.underlying30 infoU8 rfl .i64 .i64 n (by omega) (by omega)
  obtain ⟨A, cap, rfl, _, _, h3⟩ := h
  have H3 := Lib.hid h3
  have HA := Lib.hid ha
  have HS := Lib.hid (sc_row w U (Bs : Int) (.slice A n cap) K 46)
  have hc2 := HS.out.cell (i := 2) (by omega)
  clear h3 hu hB ha hK
  go_enter Tryz.func98, Tryz.ntmps98
  go_wp2_with (refine wp_load_cells rfl 23 _ rfl w.heap.size 3 rfl 16 _ _ _ (sc_key HS.out) rfl (key_cs K) Tryz.underlying23 rfl key_size ?_)
  refine (HD.out _).mono ?_
  rintro e w1 ⟨rfl, hb⟩
  have HB1 := Lib.hid (((Below.refl w.heap.size w).alloc (Nat.le_refl _) _).trans (hb.mono (by simp)))
  have HS1 := Lib.hid (HS.out.of_block (hb.block _ HS.out.lt))
  have hz := zero_row w1 (fun _ => 0) (fun _ _ => rfl) 23
  have HZ := Lib.hid hz
  have hsw1 := HS1.out.lt
  clear hb hc2 hz HS
  go_wp2_with (refine wp_store_whole rfl 23 _ _ rfl w1.heap.size _ rfl rfl 23 16 _ _ HZ.out rfl (key_cs _) key_size (key_one _) ?_; intro w2 hk2 hg2; have HK2 := Lib.hid hk2; have hs2 := (HS1.out.alloc _).of_block (kept_grown hg2 (by simp; omega) (by omega)); have hB2 := (HB1.out.alloc HB1.out.size _).trans (below_grown hg2 (by have := HB1.out.size; omega) (by simp)); have HS2 := Lib.hid hs2; have HB2 := Lib.hid hB2; have hc2 := hs2.cell (i := 2) (by omega); dsimp only [scF] at hc2; have hlw := Nat.lt_trans hsw1 hk2.lt; clear hk2 hg2 hs2 hB2)
  have hkl := HK2.out.lt
  go_wp2
  go_loopw [7] (fun i wr => ∃ k : Nat, k ≤ n ∧ i = .int .i64 k ∧ wr.rowIs w2.heap.size 5 n (fun i => .int .u8 ((if i < k then swN K u Bs a i else 0 : Nat))) ∧ wr.rowIs w1.heap.size 23 16 (fun i => .int .u8 (derN K 70 u i : Nat)) ∧ wr.rowIs w.heap.size 46 19 (scF U (Bs : Int) (.slice A n cap) K) ∧ Below w.heap.size w wr) (fun i _ => n - (intOf i).toNat)
  case atStart =>
    refine ⟨0, Nat.zero_le _, rfl, (World.rowIs_made w2 _ n _).congr fun i hi => by rw [if_neg (by omega)]; rfl, HK2.out.alloc _, HS2.out.alloc _, HB2.out.alloc HB2.out.size _⟩
  case round =>
    obtain ⟨k, hk, rfl, hrow, hkey, hsc, hbel⟩ := hrel
    have HRow := Lib.hid hrow
    have HKey := Lib.hid hkey
    have HSc := Lib.hid hsc
    have HB := Lib.hid hbel
    have hc1 := hsc.cell (i := 1) (by omega)
    dsimp only [scF] at hc1
    clear hrow hkey hsc hbel hc2
    by_cases hlt : k < n
    · obtain ⟨b, off, rfl, hc⟩ := H3.out (by omega)
      have hci := cell_below HB.out (hc k hlt)
      have hak := HA.out k hlt
      have hwk := wrap_small k (by omega)
      have hwa := wrap_small (a k) (by omega)
      have HNk := Lib.hid (HN.out k (by unfold W64; omega))
      have hkey := HKey.out
      have hc2 := HSc.out.cell (i := 2) (by omega)
      dsimp only [scF] at hc2
      have kc1 := cell_regrown hc1
      have kc2 := cell_regrown hc2
      have kci := cell_regrown hci
      have HQ : ∀ d os, Calls Tryz.prog 138 #[keyV (derN K 70 u), .int .u64 (k : Int), .int .u64 (Bs : Int)] (grow (redrawn wr d) os) fun e w'' => e = .returned (.int .u64 (numN (derN K 70 u) k Bs : Nat)) ∧ ∃ p : Regrown, w'' = grow (redrawn wr p.d) p.os := fun d os => Calls.regrown_of (HNk.out _)
      have HQq := Lib.hid HQ
      clear hc hkey HQ
      by_cases hsw : numN (derN K 70 u) k Bs < a k
      · have e1 : Hid (swN K u Bs a k = 1) := by show _ = _; unfold swN; rw [if_pos hsw]
        go_wp2
        refine wp_region_quiet_below (by kernel_rfl) (by kernel_rfl) ?_
        refine quiet_load_cells rfl 23 _ rfl w1.heap.size 0 rfl 16 _ _ _ (fun W hW j hj => by obtain ⟨p, rfl⟩ := hW; rw [Nat.zero_add]; exact cell_regrown (HKey.out.cell hj) _ _) rfl (key_cs _) Tryz.underlying23 rfl key_size ?_
        repeat (quiet_step (exact HQq.out _ _))
        refine wpQuiet_nil ?_
        intro w4 hw4
        have hb4 : Below wr.heap.size wr w4 := by obtain ⟨p, rfl⟩ := hw4; exact below_regrown _ _ _
        have hrow4 := HRow.out.of_block (hb4.block _ HRow.out.lt)
        have HKey4 := Lib.hid (HKey.out.of_block (hb4.block _ HKey.out.lt))
        have HSc4 := Lib.hid (HSc.out.of_block (hb4.block _ HSc.out.lt))
        have HB4 := Lib.hid (HB.out.trans (hb4.mono HB.out.size))
        have hcell := hrow4.cell hlt
        have hfz := hrow4.frozen k
        have HRow4 := Lib.hid hrow4
        clear hrow4 hb4 hw4 kc1 kc2 kci
        go_wp2
        go_roundw
        case rel =>
          refine ⟨k + 1, hlt, by go_num, (HRow4.out.set k _).congr fun j hj => ?_, HKey4.out.setOther (by show w1.heap.size ≠ w2.heap.size; omega) _, HSc4.out.setOther (by show w.heap.size ≠ w2.heap.size; omega) _, HB4.out.setCell (p := ⟨w2.heap.size, k, none⟩) (by show w.heap.size ≤ w2.heap.size; omega) _⟩
          by_cases e : j = k
          · rw [if_pos e, if_pos (by omega), e, e1.out]; rfl
          · rw [if_neg e]
            by_cases e2 : j < k
            · rw [if_pos e2, if_pos (by omega)]
            · rw [if_neg e2, if_neg (by omega)]
        case measure => simp [intOf]; omega
      · have e1 : Hid (swN K u Bs a k = 0) := by show _ = _; unfold swN; rw [if_neg hsw]
        go_wp2
        refine wp_region_quiet_below (by kernel_rfl) (by kernel_rfl) ?_
        refine quiet_load_cells rfl 23 _ rfl w1.heap.size 0 rfl 16 _ _ _ (fun W hW j hj => by obtain ⟨p, rfl⟩ := hW; rw [Nat.zero_add]; exact cell_regrown (HKey.out.cell hj) _ _) rfl (key_cs _) Tryz.underlying23 rfl key_size ?_
        repeat (quiet_step (exact HQq.out _ _))
        refine wpQuiet_nil ?_
        intro w4 hw4
        have hb4 : Below wr.heap.size wr w4 := by obtain ⟨p, rfl⟩ := hw4; exact below_regrown _ _ _
        have hrow4 := HRow.out.of_block (hb4.block _ HRow.out.lt)
        have HKey4 := Lib.hid (HKey.out.of_block (hb4.block _ HKey.out.lt))
        have HSc4 := Lib.hid (HSc.out.of_block (hb4.block _ HSc.out.lt))
        have HB4 := Lib.hid (HB.out.trans (hb4.mono HB.out.size))
        have hcell := hrow4.cell hlt
        have hfz := hrow4.frozen k
        have HRow4 := Lib.hid hrow4
        clear hrow4 hb4 hw4 kc1 kc2 kci
        go_wp2
        go_roundw
        case rel =>
          refine ⟨k + 1, hlt, by go_num, HRow4.out.congr fun j hj => ?_, HKey4.out, HSc4.out, HB4.out⟩
          by_cases e2 : j < k
          · rw [if_pos e2, if_pos (by omega)]
          · rw [if_neg e2]
            by_cases e : j = k
            · rw [if_pos (by omega), e, e1.out]
            · rw [if_neg (by omega)]
        case measure => simp [intOf]; omega
    · obtain rfl : k = n := by omega
      go_wp2
      go_ret
      exact ⟨_, rfl, HRow.out.congr fun i hi => by rw [if_pos hi], HB.out⟩
end Go.Proofs.YtmbokpfgnicboaaGreat

/- The walks of codes of scores: what a place adds; scores. -/
namespace Go.Proofs.YtmbokpfgnicboaaGreat
open Go.RowKit Go.Hd Go.Sort _root_.Hd

/-- What a place with the bias a adds to the score. -/
def pt (Bs a : Nat) (x y : Nat) : Int := if y = 2 then 0 else if y = 0 then (if x = 0 then (a : Int) else (a : Int) - Bs) else (if x = 0 then -(a : Int) else (Bs : Int) - a)
theorem pt_lt {Bs a x y : Nat} (h1 : Bs < 1000) (h2 : a < 1000) : -1000 < pt Bs a x y ∧ pt Bs a x y < 1000 := by
  unfold pt; split <;> (try split) <;> (try split) <;> omega
/-- The score after n places. -/
def scN (Bs : Nat) (a x y : Nat → Nat) : Nat → Int
  | 0 => 0
  | n + 1 => scN Bs a x y n + pt Bs (a n) (x n) (y n)
theorem scN_lt {Bs : Nat} {a x y : Nat → Nat} {n : Nat} (h1 : Bs < 1000) (h2 : ∀ j, j < n → a j < 1000) : ∀ k, k ≤ n → -(1000 * (k : Int)) ≤ scN Bs a x y k ∧ scN Bs a x y k ≤ 1000 * (k : Int)
  | 0, _ => by simp [scN]
  | k + 1, hk => by
    have := scN_lt (x := x) (y := y) h1 h2 k (by omega)
    have := pt_lt (x := x k) (y := y k) h1 (h2 k (by omega))
    simp only [scN]; omega

set_option maxHeartbeats 1000000 in
theorem gains_any (U : Int) (Bs : Nat) (v : Value) (K : Nat → Nat) (n : Nat) (a : Nat → Nat) (Y : Nat → Nat) (ys : Value) (i : Nat) (w : World) (h : RdV w v n (fun j => .int .i64 (a j : Int))) (hy : Rd w .u8 ys n Y) (hi : i < n) (hB : Bs < 1000) (ha : a i < 1000) (hY : Y i ≤ 2) :
    Calls Tryz.prog 126 #[scV U (Bs : Int) v K, ys, .int .i64 i] w fun e w' => e = .returned (.agg #[.int .i64 (pt Bs (a i) 0 (Y i)), .int .i64 (pt Bs (a i) 1 (Y i))]) ∧ Below w.heap.size w w' := by
  obtain ⟨A, cap, rfl, _, _, h3⟩ := h
  obtain ⟨A2, cap2, rfl, _, _, h4⟩ := hy
  obtain ⟨b, off, rfl, hc⟩ := h3 (by omega)
  obtain ⟨b2, off2, rfl, hc2⟩ := h4 (by omega)
  have hs := sc_row w U (Bs : Int) (.slice (some ⟨b, off, none⟩) n cap) K 46
  have hi1 : w.cell? ⟨b, off + i, none⟩ = some (.int .i64 (a i : Int)) := hc i hi
  have hi2 := hc2 i hi
  have s1 := hs.cell (i := 1) (by omega)
  have s2 := hs.cell (i := 2) (by omega)
  dsimp only [scF] at s1 s2
  have hb1 : b < w.heap.size := World.block_lt_of_cell? w _ hi1
  have hb2 : b2 < w.heap.size := World.block_lt_of_cell? w _ hi2
  clear h3 h4 hc hc2 hs
  generalize Y i = y at *
  generalize a i = Av at *
  by_cases y0 : y = 0
  · subst y0
    go_enter Tryz.func126, Tryz.ntmps126
    go_wp2
    refine bodyPost_ret (v := .agg #[.int .i64 (pt Bs Av 0 0), .int .i64 (pt Bs Av 1 0)]) ?_ rfl ⟨rfl, ?_⟩
    · simp [results, Tryz.f126, go_sem, pt]
    · (repeat' (first | (with_reducible exact Below.refl _ _) | (with_reducible assumption) | (with_reducible refine Below.alloc ?_ ?_ _) | (with_reducible refine Below.drew ?_) | (with_reducible refine below_drewN ?_ _) | (with_reducible refine Below.setCell ?_ ?_ _) | omega | (simp only [Go.Hd.size_drewN, World.size_alloc, World.size_setCell, World.size_drew]; omega) | (simp; omega)))
  · by_cases y1 : y = 1
    · subst y1
      go_enter Tryz.func126, Tryz.ntmps126
      go_wp2
      refine bodyPost_ret (v := .agg #[.int .i64 (pt Bs Av 0 1), .int .i64 (pt Bs Av 1 1)]) ?_ rfl ⟨rfl, ?_⟩
      · simp [results, Tryz.f126, go_sem, pt]
      · (repeat' (first | (with_reducible exact Below.refl _ _) | (with_reducible assumption) | (with_reducible refine Below.alloc ?_ ?_ _) | (with_reducible refine Below.drew ?_) | (with_reducible refine below_drewN ?_ _) | (with_reducible refine Below.setCell ?_ ?_ _) | omega | (simp only [Go.Hd.size_drewN, World.size_alloc, World.size_setCell, World.size_drew]; omega) | (simp; omega)))
    · obtain rfl : y = 2 := by omega
      go_enter Tryz.func126, Tryz.ntmps126
      go_wp2
      refine bodyPost_ret (v := .agg #[.int .i64 (pt Bs Av 0 2), .int .i64 (pt Bs Av 1 2)]) ?_ rfl ⟨rfl, ?_⟩
      · simp [results, Tryz.f126, go_sem, pt]
      · (repeat' (first | (with_reducible exact Below.refl _ _) | (with_reducible assumption) | (with_reducible refine Below.alloc ?_ ?_ _) | (with_reducible refine Below.drew ?_) | (with_reducible refine below_drewN ?_ _) | (with_reducible refine Below.setCell ?_ ?_ _) | omega | (simp only [Go.Hd.size_drewN, World.size_alloc, World.size_setCell, World.size_drew]; omega) | (simp; omega)))

theorem refPart_any (Bs A x y : Nat) (w : World) (hB : Bs < 1000) (hA : A < 1000) (hx : x ≤ 1) (hy : y ≤ 2) :
    Calls Tryz.prog 134 #[.int .i64 Bs, .int .i64 A, .int .u8 x, .int .u8 y] w fun e w' => e = .returned (.int .i64 (pt Bs A x y)) ∧ w = w' := by
  have h : (x = 0 ∨ x = 1) ∧ (y = 0 ∨ y = 1 ∨ y = 2) := by omega
  rcases h with ⟨rfl | rfl, rfl | rfl | rfl⟩ <;>
  · go_enter Tryz.func134, Tryz.ntmps134
    go_wp2
    go_ret
    exact ⟨by simp [pt], rfl⟩
end Go.Proofs.YtmbokpfgnicboaaGreat

/- The walks of codes of scores: scores. -/
namespace Go.Proofs.YtmbokpfgnicboaaGreat
open Go.RowKit Go.Hd Go.Sort _root_.Hd

theorem idx2_0 (a b : Value) (w : World) : (Instr.index 169 (.agg #[a, b]) (.int .u8 0)).run Tryz.prog w = .ok a w := by kernel_rfl
theorem idx2_1 (a b : Value) (w : World) : (Instr.index 169 (.agg #[a, b]) (.int .u8 1)).run Tryz.prog w = .ok b w := by kernel_rfl
theorem idx2 (Bs A x y : Nat) (hx : x ≤ 1) (w : World) : (Instr.index 169 (.agg #[.int .i64 (pt Bs A 0 y), .int .i64 (pt Bs A 1 y)]) (.int .u8 (x : Int))).run Tryz.prog w = .ok (.int .i64 (pt Bs A x y)) w := by
  have : x = 0 ∨ x = 1 := by omega
  rcases this with rfl | rfl
  · exact idx2_0 _ _ w
  · exact idx2_1 _ _ w

set_option maxHeartbeats 1000000 in
theorem score_any (U : Int) (Bs : Nat) (v : Value) (K : Nat → Nat) (n : Nat) (a : Nat → Nat) (X Y : Nat → Nat) (ws ys : Value) (w : World) (h : RdV w v n (fun j => .int .i64 (a j : Int))) (hx : Rd w .u8 ws n X) (hy : Rd w .u8 ys n Y) (hn : n ≤ 64) (hB : Bs < 1000) (ha : ∀ j, j < n → a j < 1000) (hX : ∀ j, j < n → X j ≤ 1) (hY : ∀ j, j < n → Y j ≤ 2) :
    Calls Tryz.prog 77 #[scV U (Bs : Int) v K, ws, ys] w fun e w' => e = .returned (.int .i64 (scN Bs a X Y n)) ∧ Below w.heap.size w w' := by
  have HV := Lib.hid h
  have HYs := Lib.hid hy
  have HXs := Lib.hid hx
  have HA := Lib.hid ha
  have HX := Lib.hid hX
  have HY := Lib.hid hY
  obtain ⟨A, cap, rfl, _, _, h3⟩ := h
  obtain ⟨A2, cap2, rfl, _, _, h4⟩ := hy
  obtain ⟨A1, cap1, rfl, _, _, h5⟩ := hx
  have HS := Lib.hid (sc_row w U (Bs : Int) (.slice A n cap) K 46)
  have H5 := Lib.hid h5
  clear h3 h4 h5 ha hX hY
  go_enter Tryz.func77, Tryz.ntmps77
  go_wp2
  go_loopw [7, 12] (fun s i wr => ∃ k : Nat, k ≤ n ∧ i = .int .i64 k ∧ s = .int .i64 (scN Bs a X Y k) ∧ wr.rowIs w.heap.size 46 19 (scF U (Bs : Int) (.slice A n cap) K) ∧ Below w.heap.size w wr) (fun _ i _ => n - (intOf i).toNat)
  case atStart => exact ⟨0, Nat.zero_le _, rfl, rfl, HS.out, by (repeat' (first | (with_reducible exact Below.refl _ _) | (with_reducible assumption) | (with_reducible refine Below.alloc ?_ ?_ _) | (with_reducible refine Below.drew ?_) | (with_reducible refine below_drewN ?_ _) | (with_reducible refine Below.setCell ?_ ?_ _) | omega | (simp only [Go.Hd.size_drewN, World.size_alloc, World.size_setCell, World.size_drew]; omega) | (simp; omega)))⟩
  case round =>
    obtain ⟨k, hk, rfl, rfl, hsc, hbel⟩ := hrel
    have HSc := Lib.hid hsc
    have HB := Lib.hid hbel
    clear hsc hbel
    by_cases hlt : k < n
    · obtain ⟨b, off, rfl, hc⟩ := H5.out (by omega)
      have hci := cell_below HB.out (hc k hlt)
      have hix := idx2 Bs (a k) (X k) (Y k) (HX.out k hlt)
      have b1 := scN_lt (x := X) (y := Y) hB HA.out k (by omega)
      have b2 := pt_lt (x := X k) (y := Y k) hB (HA.out k hlt)
      have HG := Lib.hid (gains_any U Bs (.slice A n cap) K n a Y (.slice A2 n cap2) k wr (HV.out.below HB.out) (HYs.out.below HB.out) hlt hB (HA.out k hlt) (HY.out k hlt))
      have hs : scN Bs a X Y (k + 1) = scN Bs a X Y k + pt Bs (a k) (X k) (Y k) := rfl
      have HSS := Lib.hid hs
      clear hc hs
      generalize scN Bs a X Y k = s0 at *
      generalize hp : pt Bs (a k) (X k) (Y k) = p at *
      clear hp
      go_wp2_with (refine wp_load_whole rfl 46 _ rfl w.heap.size rfl 46 19 _ _ _ HSc.out rfl (sc_cs _ _ _ _) Tryz.underlying46 rfl sc_size ?_)
      refine HG.out.mono ?_
      rintro e w4 ⟨rfl, hb4⟩
      have HSc4 := Lib.hid (HSc.out.of_block (hb4.block _ HSc.out.lt))
      have HB4 := Lib.hid (HB.out.trans (hb4.mono HB.out.size))
      clear hb4
      go_wp2
      go_roundw
      case rel => exact ⟨k + 1, hlt, by go_num, by rw [HSS.out], HSc4.out, HB4.out⟩
      case measure => simp [intOf]; omega
    · obtain rfl : k = n := by omega
      go_wp2
      go_ret
      exact ⟨rfl, HB.out⟩

set_option maxHeartbeats 1000000 in
theorem refScoreOf_any (U : Int) (Bs : Nat) (v : Value) (K : Nat → Nat) (n : Nat) (a : Nat → Nat) (X Y : Nat → Nat) (ws ys : Value) (w : World) (h : RdV w v n (fun j => .int .i64 (a j : Int))) (hx : Rd w .u8 ws n X) (hy : Rd w .u8 ys n Y) (hn : n ≤ 64) (hB : Bs < 1000) (ha : ∀ j, j < n → a j < 1000) (hX : ∀ j, j < n → X j ≤ 1) (hY : ∀ j, j < n → Y j ≤ 2) :
    Calls Tryz.prog 97 #[scV U (Bs : Int) v K, ws, ys] w fun e w' => e = .returned (.int .i64 (scN Bs a X Y n)) ∧ Below w.heap.size w w' := by
  have HA := Lib.hid ha
  have HX := Lib.hid hX
  have HY := Lib.hid hY
  obtain ⟨A, cap, rfl, _, _, h3⟩ := h
  obtain ⟨A2, cap2, rfl, _, _, h4⟩ := hy
  obtain ⟨A1, cap1, rfl, _, _, h5⟩ := hx
  have HS := Lib.hid (sc_row w U (Bs : Int) (.slice A n cap) K 46)
  have H3 := Lib.hid h3
  have H4 := Lib.hid h4
  have H5 := Lib.hid h5
  clear h3 h4 h5 ha hX hY
  go_enter Tryz.func97, Tryz.ntmps97
  go_wp2
  go_loopw [7, 8] (fun s i wr => ∃ k : Nat, k ≤ n ∧ i = .int .i64 k ∧ s = .int .i64 (scN Bs a X Y k) ∧ wr.rowIs w.heap.size 46 19 (scF U (Bs : Int) (.slice A n cap) K) ∧ Below w.heap.size w wr) (fun _ i _ => n - (intOf i).toNat)
  case atStart => exact ⟨0, Nat.zero_le _, rfl, rfl, HS.out, by (repeat' (first | (with_reducible exact Below.refl _ _) | (with_reducible assumption) | (with_reducible refine Below.alloc ?_ ?_ _) | (with_reducible refine Below.drew ?_) | (with_reducible refine below_drewN ?_ _) | (with_reducible refine Below.setCell ?_ ?_ _) | omega | (simp only [Go.Hd.size_drewN, World.size_alloc, World.size_setCell, World.size_drew]; omega) | (simp; omega)))⟩
  case round =>
    obtain ⟨k, hk, rfl, rfl, hsc, hbel⟩ := hrel
    have HSc := Lib.hid hsc
    have HB := Lib.hid hbel
    have c1 := hsc.cell (i := 1) (by omega)
    have c2 := hsc.cell (i := 2) (by omega)
    dsimp only [scF] at c1 c2
    clear hsc hbel
    by_cases hlt : k < n
    · obtain ⟨b, off, rfl, hc⟩ := H5.out (by omega)
      obtain ⟨b3, off3, rfl, hc3⟩ := H3.out (by omega)
      obtain ⟨b4, off4, rfl, hc4⟩ := H4.out (by omega)
      have hci := cell_below HB.out (hc k hlt)
      have hci3 : wr.cell? ⟨b3, off3 + k, none⟩ = some (.int .i64 (a k : Int)) := cell_below HB.out (hc3 k hlt)
      have hci4 := cell_below HB.out (hc4 k hlt)
      have b1 := scN_lt (x := X) (y := Y) hB HA.out k (by omega)
      have b2 := pt_lt (x := X k) (y := Y k) hB (HA.out k hlt)
      have HP := Lib.hid (fun W => refPart_any Bs (a k) (X k) (Y k) W hB (HA.out k hlt) (HX.out k hlt) (HY.out k hlt))
      have hs : scN Bs a X Y (k + 1) = scN Bs a X Y k + pt Bs (a k) (X k) (Y k) := rfl
      have HSS := Lib.hid hs
      clear hc hc3 hc4 hs
      generalize scN Bs a X Y k = s0 at *
      generalize hp : pt Bs (a k) (X k) (Y k) = p at *
      clear hp
      go_wp2
      go_quiet ((go_at_call 134; first | exact quiet_add (HP.out _) | exact quiet_one (HP.out _)))
      go_wp2
      go_roundw
      case rel => exact ⟨k + 1, hlt, by go_num, by rw [HSS.out], HSc.out, below_drewN HB.out _⟩
      case measure => simp [intOf]; omega
    · obtain rfl : k = n := by omega
      go_wp2
      go_ret
      exact ⟨rfl, HB.out⟩
end Go.Proofs.YtmbokpfgnicboaaGreat

/- The walks of codes of scores: ScoreWord and Score. -/
namespace Go.Proofs.YtmbokpfgnicboaaGreat
open Go.RowKit Go.Hd Go.Sort _root_.Hd

theorem rdV_congr {w : World} {v : Value} {n : Nat} {F G : Nat → Value} (h : RdV w v n F) (e : ∀ j, j < n → F j = G j) : RdV w v n G := by
  obtain ⟨A, cap, hv, h1, h2, h3⟩ := h
  exact ⟨A, cap, hv, h1, h2, fun hn => by
    obtain ⟨b, off, hA, hc⟩ := h3 hn
    exact ⟨b, off, hA, fun j hj => by rw [hc j hj, e j hj]⟩⟩
/-- What ScoreWord answers. -/
noncomputable def swE (U Bs : Int) (n : Nat) (a : Nat → Int) (u : Int) : Int := if tt (VS U Bs n a) then (if u < 0 ∨ U ≤ u then 2 else 0) else 70
noncomputable def swL (U Bs : Int) (n : Nat) (a : Nat → Int) (u : Int) : Nat := if tt (VS U Bs n a) then (if u < 0 ∨ U ≤ u then 0 else n) else 0
def swF (K : Nat → Nat) (Bs : Int) (a : Nat → Int) (u : Int) : Nat → Nat := swN K u.toNat Bs.toNat (fun j => (a j).toNat)

theorem vs_nat {U Bs : Int} {n : Nat} {a : Nat → Int} (h : VS U Bs n a) : n ≤ 64 ∧ (Bs.toNat : Int) = Bs ∧ Bs.toNat < 1000 ∧ (∀ j, j < n → ((a j).toNat : Int) = a j) ∧ (∀ j, j < n → (a j).toNat < 1000) := by
  obtain ⟨⟨h1, h2, h3, h4, h5, h6⟩, h7⟩ := h
  exact ⟨h6, by omega, by omega, fun j hj => by have := h7 j hj; omega, fun j hj => by have := h7 j hj; omega⟩

set_option maxHeartbeats 1000000 in
theorem scoreWordE_any (U Bs : Int) (v : Value) (K : Nat → Nat) (n : Nat) (a : Nat → Int) (u : Int) (w : World) (h : RdV w v n (fun j => .int .i64 (a j))) (hK : Kb K) :
    Calls Tryz.prog 34 #[scV U Bs v K, .int .i64 u] w fun e w' => ∃ sl, e = .returned (.tuple #[sl, .int .i64 (swE U Bs n a u)]) ∧ Rd w' .u8 sl (swL U Bs n a u) (swF K Bs a u) ∧ Below w.heap.size w w' := by
  have HV := Lib.hid h
  have HC := Lib.hid (fun W (hb : Below w.heap.size w W) => checkScores_any U Bs v K n a W (h.below hb))
  obtain ⟨A, cap, rfl, _, _, h3⟩ := h
  clear h3
  have HS := Lib.hid (sc_row w U Bs (.slice A n cap) K 46)
  by_cases hv : VS U Bs n a
  · have hans : Hid (scE U Bs n a = 0) := scE_yes hv
    go_enter Tryz.func34, Tryz.ntmps34
    go_wp2_with (refine wp_load_whole rfl 46 _ rfl w.heap.size rfl 46 19 _ _ _ HS.out rfl (sc_cs _ _ _ _) Tryz.underlying46 rfl sc_size ?_)
    refine (HC.out _ ((Below.refl w.heap.size w).alloc (Nat.le_refl _) _)).mono ?_
    rintro e w1 ⟨rfl, hb⟩
    rw [hans.out]
    have HB1 := Lib.hid (((Below.refl w.heap.size w).alloc (Nat.le_refl _) _).trans (hb.mono (by simp)))
    have HS1 := Lib.hid (HS.out.of_block (hb.block _ HS.out.lt))
    have c0 := HS1.out.cell (i := 0) (by omega)
    dsimp only [scF] at c0
    clear hb
    by_cases hu : u < 0 ∨ U ≤ u
    · have hbad : Hid (swE U Bs n a u = 2) := by show _ = _; unfold swE; rw [tt_pos hv, if_pos rfl, if_pos hu]
      have hlen : Hid (swL U Bs n a u = 0) := by show _ = _; unfold swL; rw [tt_pos hv, if_pos rfl, if_pos hu]
      clear hv
      go_wp2
      all_goals first
        | (exfalso; omega)
        | (go_ret2; exact ⟨_, by rw [hbad.out]; rfl, by rw [hlen.out]; exact Rd.nil _ _ _, HB1.out⟩)
    · have hbad : Hid (swE U Bs n a u = 0) := by show _ = _; unfold swE; rw [tt_pos hv, if_pos rfl, if_neg hu]
      have hlen : Hid (swL U Bs n a u = n) := by show _ = _; unfold swL; rw [tt_pos hv, if_pos rfl, if_neg hu]
      obtain ⟨e1, e2, e3, e4, e5⟩ := vs_nat hv
      have hU : U ≤ 64 := hv.1.2.1
      have hu1 : 0 ≤ u := by omega
      have hu2 : u < U := by omega
      have hW := scoreWord_any U Bs.toNat (.slice A n cap) K n (fun j => (a j).toNat) u.toNat w1 (rdV_congr (HV.out.below HB1.out) (fun j hj => by rw [e4 j hj])) e1 hK (by omega) e3 e5
      rw [e2, Int.toNat_of_nonneg hu1] at hW
      have HW := Lib.hid hW
      have hl63 : n ≤ 9223372036854775807 := by omega
      clear hv hW e1 e2 e3 e4 e5 hu
      go_wp2_with (refine wp_load_whole rfl 46 _ rfl w.heap.size rfl 46 19 _ _ _ HS1.out rfl (sc_cs _ _ _ _) Tryz.underlying46 rfl sc_size ?_)
      refine HW.out.mono ?_
      rintro e w2 ⟨b, rfl, hr, hb2⟩
      have HR := Lib.hid (rd_of_row hr hl63)
      have HB2 := Lib.hid (HB1.out.trans (hb2.mono HB1.out.size))
      clear hr hb2
      go_wp2
      go_ret2
      exact ⟨_, by rw [hbad.out]; rfl, by rw [hlen.out]; exact HR.out, HB2.out⟩
  · have hans : Hid (scE U Bs n a = 70) := scE_no hv
    have hbad : Hid (swE U Bs n a u = 70) := by show _ = _; unfold swE; rw [tt_neg hv]; rfl
    have hlen : Hid (swL U Bs n a u = 0) := by show _ = _; unfold swL; rw [tt_neg hv]; rfl
    clear hv
    go_enter Tryz.func34, Tryz.ntmps34
    go_wp2_with (refine wp_load_whole rfl 46 _ rfl w.heap.size rfl 46 19 _ _ _ HS.out rfl (sc_cs _ _ _ _) Tryz.underlying46 rfl sc_size ?_)
    refine (HC.out _ ((Below.refl w.heap.size w).alloc (Nat.le_refl _) _)).mono ?_
    rintro e w1 ⟨rfl, hb⟩
    rw [hans.out]
    have HB1 := Lib.hid (((Below.refl w.heap.size w).alloc (Nat.le_refl _) _).trans (hb.mono (by simp)))
    clear hb
    go_wp2
    go_ret2
    exact ⟨_, by rw [hbad.out]; rfl, by rw [hlen.out]; exact Rd.nil _ _ _, HB1.out⟩




end Go.Proofs.YtmbokpfgnicboaaGreat

/- The walks of codes of scores: Score. -/
namespace Go.Proofs.YtmbokpfgnicboaaGreat
open Go.RowKit Go.Hd Go.Sort _root_.Hd

/-- What Score answers. -/
noncomputable def stE (U Bs : Int) (n : Nat) (a : Nat → Int) (n1 : Nat) (X : Nat → Nat) (n2 : Nat) (Y : Nat → Nat) : Int := if tt (VS U Bs n a) then (if tt (IsW n1 X n ∧ IsC n2 Y n) then 0 else 71) else 70
noncomputable def stS (U Bs : Int) (n : Nat) (a : Nat → Int) (n1 : Nat) (X : Nat → Nat) (n2 : Nat) (Y : Nat → Nat) : Int := if tt (VS U Bs n a) then (if tt (IsW n1 X n ∧ IsC n2 Y n) then scN Bs.toNat (fun j => (a j).toNat) X Y n else 0) else 0

set_option maxHeartbeats 1000000 in
theorem scoreE_any (U Bs : Int) (v : Value) (K : Nat → Nat) (n : Nat) (a : Nat → Int) (n1 : Nat) (X : Nat → Nat) (n2 : Nat) (Y : Nat → Nat) (ws ys : Value) (w : World) (h : RdV w v n (fun j => .int .i64 (a j))) (hx : Rd w .u8 ws n1 X) (hy : Rd w .u8 ys n2 Y) (hx6 : ∀ j, j < n1 → X j < 256) (hy6 : ∀ j, j < n2 → Y j < 256) :
    Calls Tryz.prog 35 #[scV U Bs v K, ws, ys] w fun e w' => e = .returned (.tuple #[.int .i64 (stS U Bs n a n1 X n2 Y), .int .i64 (stE U Bs n a n1 X n2 Y)]) ∧ Below w.heap.size w w' := by
  have HV := Lib.hid h
  have HX := Lib.hid hx
  have HY := Lib.hid hy
  have HX6 := Lib.hid hx6
  have HY6 := Lib.hid hy6
  have HC := Lib.hid (fun W (hb : Below w.heap.size w W) => checkScores_any U Bs v K n a W (h.below hb))
  have hl : n ≤ 9223372036854775807 := by obtain ⟨A, cap, _, h1, h2, _⟩ := h; unfold maxLen at h2; omega
  obtain ⟨A, cap, rfl, _, _, h3⟩ := h
  obtain ⟨A1, cap1, rfl, _, _, h4⟩ := hx
  obtain ⟨A2, cap2, rfl, _, _, h5⟩ := hy
  clear h3 h4 h5 hx6 hy6
  have HS := Lib.hid (sc_row w U Bs (.slice A n cap) K 46)
  by_cases hv : VS U Bs n a
  · have hans : Hid (scE U Bs n a = 0) := scE_yes hv
    obtain ⟨e1, e2, e3, e4, e5⟩ := vs_nat hv
    have he : Hid (stE U Bs n a n1 X n2 Y = if tt (IsW n1 X n ∧ IsC n2 Y n) then 0 else 71) := by show _ = _; unfold stE; rw [tt_pos hv, if_pos rfl]
    have hs : Hid (stS U Bs n a n1 X n2 Y = if tt (IsW n1 X n ∧ IsC n2 Y n) then scN Bs.toNat (fun j => (a j).toNat) X Y n else 0) := by show _ = _; unfold stS; rw [tt_pos hv, if_pos rfl]
    have HE4 := Lib.hid e4
    have HE5 := Lib.hid e5
    have HE2 := Lib.hid e2
    clear hv e4 e5 e2
    go_enter Tryz.func35, Tryz.ntmps35
    go_wp2_with (refine wp_load_whole rfl 46 _ rfl w.heap.size rfl 46 19 _ _ _ HS.out rfl (sc_cs _ _ _ _) Tryz.underlying46 rfl sc_size ?_)
    refine (HC.out _ ((Below.refl w.heap.size w).alloc (Nat.le_refl _) _)).mono ?_
    rintro e w1 ⟨rfl, hb⟩
    rw [hans.out]
    have HB1 := Lib.hid (((Below.refl w.heap.size w).alloc (Nat.le_refl _) _).trans (hb.mono (by simp)))
    have HS1 := Lib.hid (HS.out.of_block (hb.block _ HS.out.lt))
    have c2 := HS1.out.cell (i := 2) (by omega)
    dsimp only [scF] at c2
    clear hb
    go_wp2_with fail
    refine (isWord_any n1 X _ n w1 (HX.out.below HB1.out) HX6.out hl).mono ?_
    rintro e w2 ⟨rfl, hb2⟩
    have HB2 := Lib.hid (HB1.out.trans (hb2.mono HB1.out.size))
    have HS2 := Lib.hid (HS1.out.of_block (hb2.block _ HS1.out.lt))
    have c2' := HS2.out.cell (i := 2) (by omega)
    dsimp only [scF] at c2'
    clear hb2 c2
    by_cases hw : IsW n1 X n
    · rw [tt_pos hw]
      go_wp2_with fail
      refine (isCopy_any n2 Y _ n w2 (HY.out.below HB2.out) HY6.out).mono ?_
      rintro e w3 ⟨rfl, hb3⟩
      have HB3 := Lib.hid (HB2.out.trans (hb3.mono HB2.out.size))
      have HS3 := Lib.hid (HS2.out.of_block (hb3.block _ HS2.out.lt))
      clear hb3 c2'
      by_cases hc : IsC n2 Y n
      · rw [tt_pos hc]
        have ht : tt (IsW n1 X n ∧ IsC n2 Y n) = true := tt_pos ⟨hw, hc⟩
        rw [ht, if_pos rfl] at he hs
        have hW := score_any U Bs.toNat (.slice A n cap) K n (fun j => (a j).toNat) X Y (.slice A1 n1 cap1) (.slice A2 n2 cap2) w3 (rdV_congr (HV.out.below HB3.out) (fun j hj => by rw [HE4.out j hj])) (by have := HX.out.below HB3.out; rw [hw.1] at this ⊢; exact this) (by have := HY.out.below HB3.out; rw [hc.1] at this ⊢; exact this) e1 e3 HE5.out (fun j hj => hw.2 j (by rw [hw.1]; exact hj)) (fun j hj => hc.2 j (by rw [hc.1]; exact hj))
        rw [HE2.out] at hW
        have HW := Lib.hid hW
        clear hW ht hw hc
        go_wp2_with (refine wp_load_whole rfl 46 _ rfl w.heap.size rfl 46 19 _ _ _ HS3.out rfl (sc_cs _ _ _ _) Tryz.underlying46 rfl sc_size ?_)
        refine HW.out.mono ?_
        rintro e w4 ⟨rfl, hb4⟩
        have HB4 := Lib.hid (HB3.out.trans (hb4.mono HB3.out.size))
        clear hb4
        go_wp2
        go_ret2
        exact ⟨by rw [he.out, hs.out]; rfl, HB4.out⟩
      · rw [tt_neg hc]
        have ht : tt (IsW n1 X n ∧ IsC n2 Y n) = false := tt_neg (fun h => hc h.2)
        rw [ht] at he hs
        clear ht hw hc
        go_wp2
        go_ret2
        exact ⟨by rw [he.out, hs.out]; rfl, HB3.out⟩
    · rw [tt_neg hw]
      have ht : tt (IsW n1 X n ∧ IsC n2 Y n) = false := tt_neg (fun h => hw h.1)
      rw [ht] at he hs
      clear ht hw
      go_wp2
      go_ret2
      exact ⟨by rw [he.out, hs.out]; rfl, HB2.out⟩
  · have hans : Hid (scE U Bs n a = 70) := scE_no hv
    have he : Hid (stE U Bs n a n1 X n2 Y = 70) := by show _ = _; unfold stE; rw [tt_neg hv]; rfl
    have hs : Hid (stS U Bs n a n1 X n2 Y = 0) := by show _ = _; unfold stS; rw [tt_neg hv]; rfl
    clear hv
    go_enter Tryz.func35, Tryz.ntmps35
    go_wp2_with (refine wp_load_whole rfl 46 _ rfl w.heap.size rfl 46 19 _ _ _ HS.out rfl (sc_cs _ _ _ _) Tryz.underlying46 rfl sc_size ?_)
    refine (HC.out _ ((Below.refl w.heap.size w).alloc (Nat.le_refl _) _)).mono ?_
    rintro e w1 ⟨rfl, hb⟩
    rw [hans.out]
    have HB1 := Lib.hid (((Below.refl w.heap.size w).alloc (Nat.le_refl _) _).trans (hb.mono (by simp)))
    clear hb
    go_wp2
    go_ret2
    exact ⟨by rw [he.out, hs.out]; rfl, HB1.out⟩




end Go.Proofs.YtmbokpfgnicboaaGreat
