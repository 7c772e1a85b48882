import Derived.Test.YtmbokpfgnicboaaFm
import Derived.Test.YtmbokpfgnicboaaApp
set_option linter.unusedVariables false
set_option linter.unusedSimpArgs false
namespace Go.Proofs.Ytmbokpfgnicboaa
open Go.RowKit Go.Hd _root_.Hd

theorem infoU8 : (Try.prog.info? 5).map (fun i => (i.zero, i.size, i.bytes)) = some (some (.int .u8 0), 1, 1) := by kernel_rfl
theorem infoBytes : (Try.prog.info? 23).map (fun i => (i.zero, i.size, i.bytes)) = some (some (.slice none 0 0), 1, 24) := by kernel_rfl

set_option maxRecDepth 100000 in
set_option maxHeartbeats 1000000 in
theorem law1 (n N : Nat) (L : Nat → Nat) (G : Nat → Nat → Nat) (Y : Nat → Nat) (v y : Value) (w : World) (h : RdW w v n L G) (hy : Rd w .u8 y N Y)
    (hG : ∀ k, k < n → ∀ j, j < L k → G k j < 256) (hY : ∀ j, j < N → Y j < 256) (hn : n * 24 ≤ 140737488351232) (hL : ∀ k, k < n → L k ≤ 140737488351232) (hN : N ≤ 140737488351232) :
    Calls Try.prog 3 #[v, y] w fun e w' => e = .returned (.bool true) ∧ Below w.heap.size w w' := by
  have H := Lib.hid h
  have HYy := Lib.hid hy
  have HG := Lib.hid hG
  have HY := Lib.hid hY
  have HL := Lib.hid hL
  obtain ⟨A, cap, rfl, hl, h3⟩ := h.at_
  have H3 := Lib.hid h3
  obtain ⟨A2, cap2, rfl, _, _, hy3⟩ := hy
  clear h h3 hy3 hG hY hL
  go_enter Try.func3, Try.ntmps3
  go_wp2
  go_loopw [5, 6] (fun v i wr => ∃ (k : Nat) (F : Nat → Value), k ≤ n ∧ i = .int .i64 k ∧ wr.ownsRow w.heap.size 23 1 v k ((List.range k).map F) ∧ Hid (∀ j, j < k → wr.ownsRow w.heap.size 5 1 (F j) (L j) ((List.range (L j)).map fun t => .int .u8 (G j t))) ∧ Below w.heap.size w wr) (fun _ i _ => n - (intOf i).toNat)
  case atStart => exact ⟨0, fun _ => undef, Nat.zero_le _, rfl, World.ownsRow_nil _ _ _ _, fun j hj => by omega, Below.refl _ _⟩
  case round =>
    obtain ⟨k, F, hk, rfl, hown, hF, hbel⟩ := hrel
    by_cases hlt : k < n
    · obtain ⟨b, off, rfl, hc⟩ := H3.out (by omega)
      obtain ⟨Ak, ck, hck, hlk, hRk⟩ := hc k hlt
      have hck' := cell_below hbel hck
      have hbl : b < wr.heap.size := World.block_lt_of_cell? wr _ hck'
      have hLk : L k ≤ 140737488351232 := HL.out k hlt
      have HRk := Lib.hid (hRk.below (hbel.alloc hbel.size (.cells #[] 5)))
      have HO := Lib.hid hown
      have HB := Lib.hid hbel
      have HE : Hid ((wr.alloc (.cells #[] 5)).ownsRow wr.heap.size 5 1 (.slice (some ⟨wr.heap.size, 0, none⟩) 0 0) 0 []) := World.ownsRow_lit wr #[] 0 (Nat.le_refl _) (by unfold maxLen; omega) rfl
      have hk24 : (((List.range k).map F).length + 1) * 24 ≤ 140737488355328 := by simp; omega
      have HK := Lib.hid hk24
      clear hc hck hRk hown hbel hk24
      go_wp2_with (first
        | (at_builtin; refine wp_app wr.heap.size rfl (.tmp 19) (.tmp 23) 23 5 (.int .u8 0) 1 rfl Try.underlying23 infoU8 rfl (by decide) _ [] rfl _ (L k) _ rfl HRk.out.toV (fun _ _ => rfl) HE.out (by simp) (by simp; omega) ?_; intro v1 w1 hown1 hg1; obtain ⟨A1, c1, rfl⟩ := own_slice hown1; simp only [List.length_nil, Nat.zero_add, List.nil_append] at hown1; have HB1 := Lib.hid (below_own ((Below.refl wr.heap.size wr).alloc (Nat.le_refl _) _) HE.out hg1 (by simp)); have HO1 := Lib.hid hown1; have HO2 := Lib.hid (own_below HO.out (HB1.out.alloc HB1.out.size (.cells #[.slice A1 (L k) c1] 23))); clear hown1 hg1)
        | (at_builtin; refine wp_app w.heap.size rfl (.tmp 18) (.tmp 25) 22 23 (.slice none 0 0) 24 rfl Try.underlying22 infoBytes rfl (by decide) u5 ((List.range k).map F) rfl _ 1 (fun _ => .slice A1 (L k) c1) rfl (rdV_one _ _ _) (fun _ _ => rfl) (by simpa using HO2.out) (by have := HB.out.size; have := HB1.out.size; simp; omega) HK.out ?_; intro v2 w2 hown2 hg2; have HOO := Lib.hid hown2; have HGG := Lib.hid hg2; clear hown2 hg2))
      go_roundw
      case rel =>
        have hown2 := HOO.out
        have hg2 := HGG.out
        have hB1 := HB1.out
        have hO2 := HO2.out
        have hBa : Below wr.heap.size wr (w1.alloc (.cells #[.slice A1 (L k) c1] 23)) := hB1.alloc hB1.size _
        refine ⟨k + 1, fun j => if j = k then .slice A1 (L k) c1 else F j, hlt, by go_num, ?_, fun j hj => ?_, ?_⟩
        · rw [← map_range_snoc]
          simpa using hown2
        · show w2.ownsRow _ _ _ (if j = k then _ else _) _ _
          by_cases e : j = k
          · subst e
            rw [if_pos rfl]
            have h1 := HO1.out
            have h2 := own_below h1 ((Below.refl w1.heap.size w1).alloc (Nat.le_refl _) (.cells #[.slice A1 (L j) c1] 23))
            have h3 := h2.kept hg2 (own_ne h2 hO2 (by decide))
            have hsz := HB.out.size
            exact ⟨h3.1, h3.2.imp id (fun ⟨g, cap, cur, hv, hb, r⟩ => ⟨g, cap, cur, hv, by omega, r⟩)⟩
          · rw [if_neg e]
            have h1 := hF.out j (by omega)
            have h2 := own_below h1 hBa
            exact h2.kept hg2 (own_ne h2 hO2 (by decide))
        · have := HB.out.size
          exact below_own (belowB_then HB.out this hBa) hO2 hg2 (by have := hBa.size; omega)
      case measure => simp [intOf]; omega
    · obtain rfl : k = n := by omega
      have HO := Lib.hid hown
      have HB := Lib.hid hbel
      obtain ⟨A1, c1, rfl⟩ := own_slice hown
      have hown' : RdW wr (.slice A1 k c1) k L G := ⟨F, rdV_of_own hown F (fun j hj => by simp [hj]), fun j hj => rd_of_own (hF.out j hj)⟩
      have HOwn := Lib.hid hown'
      have HF1 := Lib.hid (feasible_any k N L G Y _ _ wr hown' (HYy.out.below hbel) HG.out HY.out)
      clear hown hbel hown'
      go_wp2_with fail
      refine HF1.out.mono ?_
      rintro e w1 ⟨rfl, hB1⟩
      have HB1 := Lib.hid hB1
      have HB2 := Lib.hid (below_then HB.out hB1)
      have HF2 := Lib.hid (refFeasible_any k N L G Y _ _ w1 (H.out.below HB2.out) (HYy.out.below HB2.out) HG.out HY.out)
      clear hB1
      go_wp2_with fail
      refine HF2.out.mono ?_
      rintro e w2 ⟨rfl, m, rfl⟩
      generalize feasX k L G N Y = fx
      generalize feasE k L G N Y = fe
      have HB3 : Hid (Below w.heap.size w (w1.drewN m)) := below_drewN HB2.out m
      have HOwn3 := Lib.hid (HOwn.out.below (below_drewN HB1.out m))
      have HW3 := Lib.hid (H.out.below HB3.out)
      generalize w1.drewN m = W at *
      have hxx : (fx != fx) = false := by simp
      have hee : (fe != fe) = false := by simp
      go_wp2
      go_loopw [11] (fun i wr => ∃ t : Nat, t ≤ k ∧ i = .int .i64 t ∧ Drawn W wr) (fun i _ => k - (intOf i).toNat)
      case atStart => exact ⟨0, Nat.zero_le _, rfl, Drawn.refl _⟩
      case round =>
        obtain ⟨t, ht, rfl, q, rfl⟩ := hrel
        by_cases hlt : t < k
        · obtain ⟨A3, c3, e3, _, h3'⟩ := HOwn3.out.at_
          obtain ⟨b3, o3, e3', h3⟩ := h3' (by omega)
          cases e3
          cases e3'
          obtain ⟨A4, c4, hc4, _, hR4⟩ := h3 t hlt
          obtain ⟨A5, c5, e5, _, h5'⟩ := HW3.out.at_
          obtain ⟨b5, o5, e5', h5⟩ := h5' (by omega)
          cases e5
          cases e5'
          obtain ⟨A6, c6, hc6, _, hR6⟩ := h5 t hlt
          have r4 : ∀ m, (convert 23 9 (.slice A4 (L t) c4)).run Try.prog (W.drewN m) = .ok (.string (strF (G t) (L t))) (W.drewN m) := fun m => run_conv_str (hR4.below (Drawn.below ⟨m, rfl⟩)) _ _ _ Try.underlying23 Try.underlying5 Try.underlying9
          have r6 : ∀ m, (convert 23 9 (.slice A6 (L t) c6)).run Try.prog (W.drewN m) = .ok (.string (strF (G t) (L t))) (W.drewN m) := fun m => run_conv_str (hR6.below (Drawn.below ⟨m, rfl⟩)) _ _ _ Try.underlying23 Try.underlying5 Try.underlying9
          generalize strF (G t) (L t) = st at r4 r6
          have htk : (t : Int) < (k : Int) := by omega
          clear h3 h5 h3' h5' hR4 hR6
          go_wp2
          go_quiet (fail)
          go_wp2
          go_roundw
          case rel => exact ⟨t + 1, hlt, by go_num, (by first | exact ⟨_, rfl⟩ | exact Drawn.drewN ⟨_, rfl⟩ _)⟩
          case measure => simp [intOf]; omega
        · obtain rfl : t = k := by omega
          go_wp2
          go_ret
          exact ⟨rfl, below_drewN HB3.out q⟩
end Go.Proofs.Ytmbokpfgnicboaa
