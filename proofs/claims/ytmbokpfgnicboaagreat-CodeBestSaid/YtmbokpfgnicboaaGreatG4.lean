import Derived.Test.YtmbokpfgnicboaaGreatV3
import Derived.Test.YtmbokpfgnicboaaGreatNamed
set_option linter.unusedVariables false
set_option linter.unusedSimpArgs false
/- The walk of the law CodeTraces. -/
namespace Hd
/-- Whether the first i of a list hold u. -/
def hasL (F : Nat → Int) (u : Int) : Nat → Bool
  | 0 => false
  | i + 1 => hasL F u i || decide (F i = u)
theorem hasL_iff {F : Nat → Int} {u : Int} : ∀ {i : Nat}, hasL F u i = true ↔ ∃ j, j < i ∧ F j = u
  | 0 => by simp [hasL]
  | i + 1 => by
    show (hasL F u i || decide (F i = u)) = true ↔ _
    rw [Bool.or_eq_true, hasL_iff, decide_eq_true_iff]
    constructor
    · rintro (⟨j, h1, h2⟩ | h)
      · exact ⟨j, by omega, h2⟩
      · exact ⟨i, by omega, h⟩
    · rintro ⟨j, h1, h2⟩
      rcases Nat.lt_or_ge j i with h | h
      · exact Or.inl ⟨j, h, h2⟩
      · obtain rfl : j = i := by omega
        exact Or.inr h2
theorem hasL_flt {p : Nat → Bool} {k u : Nat} (hu : u < k) : hasL (fun j => ((((List.range k).filter p).getD j 0 : Nat) : Int)) (u : Int) ((List.range k).filter p).length = p u := by
  cases h : p u
  · cases hh : hasL (fun j => ((((List.range k).filter p).getD j 0 : Nat) : Int)) (u : Int) ((List.range k).filter p).length
    · rfl
    · obtain ⟨j, h1, h2⟩ := hasL_iff.1 hh
      have h3 := (flt_mem h1).2
      have h4 : ((List.range k).filter p).getD j 0 = u := by exact Int.ofNat.inj h2
      rw [h4, h] at h3
      cases h3
  · obtain ⟨j, h1, h2⟩ := flt_find hu h
    exact hasL_iff.2 ⟨j, h1, by rw [h2]⟩
end Hd
namespace Go.Proofs.YtmbokpfgnicboaaGreat
open Go.RowKit Go.Hd Go.Sort _root_.Hd
set_option exponentiation.threshold 2000

theorem sw_ok {U Bs : Int} {n : Nat} {a : Nat → Int} {u : Int} (h : VS U Bs n a) (h0 : 0 ≤ u) (h1 : u < U) : swE U Bs n a u = 0 ∧ swL U Bs n a u = n := by
  unfold swE swL
  rw [tt_pos h, if_pos rfl, if_pos rfl, if_neg (by omega), if_neg (by omega)]
  exact ⟨rfl, rfl⟩
theorem st_ok {U Bs : Int} {n n1 n2 : Nat} {a : Nat → Int} {X Y : Nat → Nat} (h : VS U Bs n a) (hx : IsW n1 X n) (hy : IsC n2 Y n) : stE U Bs n a n1 X n2 Y = 0 ∧ stS U Bs n a n1 X n2 Y = scN Bs.toNat (fun j => (a j).toNat) X Y n := by
  unfold stE stS
  rw [tt_pos h, if_pos rfl, if_pos rfl, tt_pos ⟨hx, hy⟩, if_pos rfl, if_pos rfl]
  exact ⟨rfl, rfl⟩

set_option maxRecDepth 100000 in
set_option maxHeartbeats 8000000 in
theorem law4t (U Bs : Int) (v : Value) (K : Nat → Nat) (n : Nat) (a : Nat → Int) (N : Nat) (Y : Nat → Nat) (ys : Value) (n1 m1 : Nat) (f g : Nat → Nat) (lv lu : Value) (u : Int) (w : World) (h : RdV w v n (fun j => .int .i64 (a j))) (hK : Kb K) (hy : Rd w .u8 ys N Y) (hy6 : ∀ j, j < N → Y j < 256) (hlv : Rd w .u32 lv n1 f) (hlu : Rd w .u32 lu m1 g) (hf : ∀ j, j < n1 → f j < B) (hg : ∀ j, j < m1 → g j < B) :
    Calls Tryz.prog 4 #[scV U Bs v K, ys, .agg #[lv, lu], .int .i64 u] w fun e w' => e = .returned (.bool true) ∧ Below w.heap.size w w' := by
  have HB : Hid (Below w.heap.size w ((w.alloc (.cells #[.int .i64 U, .int .i64 Bs, v, .int .u8 (K 0), .int .u8 (K 1), .int .u8 (K 2), .int .u8 (K 3), .int .u8 (K 4), .int .u8 (K 5), .int .u8 (K 6), .int .u8 (K 7), .int .u8 (K 8), .int .u8 (K 9), .int .u8 (K 10), .int .u8 (K 11), .int .u8 (K 12), .int .u8 (K 13), .int .u8 (K 14), .int .u8 (K 15)] 46)).alloc (.cells #[lv, lu] 27))) := ((Below.refl _ _).alloc (Nat.le_refl _) _).alloc (by simp) _
  have HS : Hid (((w.alloc (.cells #[.int .i64 U, .int .i64 Bs, v, .int .u8 (K 0), .int .u8 (K 1), .int .u8 (K 2), .int .u8 (K 3), .int .u8 (K 4), .int .u8 (K 5), .int .u8 (K 6), .int .u8 (K 7), .int .u8 (K 8), .int .u8 (K 9), .int .u8 (K 10), .int .u8 (K 11), .int .u8 (K 12), .int .u8 (K 13), .int .u8 (K 14), .int .u8 (K 15)] 46)).alloc (.cells #[lv, lu] 27)).rowIs w.heap.size 46 19 (scF U Bs v K)) := (sc_row w U Bs v K 46).alloc _
  have HR : Hid (((w.alloc (.cells #[.int .i64 U, .int .i64 Bs, v, .int .u8 (K 0), .int .u8 (K 1), .int .u8 (K 2), .int .u8 (K 3), .int .u8 (K 4), .int .u8 (K 5), .int .u8 (K 6), .int .u8 (K 7), .int .u8 (K 8), .int .u8 (K 9), .int .u8 (K 10), .int .u8 (K 11), .int .u8 (K 12), .int .u8 (K 13), .int .u8 (K 14), .int .u8 (K 15)] 46)).alloc (.cells #[lv, lu] 27)).rowIs (w.heap.size + 1) 27 2 (fun i => if i = 0 then lv else lu)) := by
    have h := row2 (w.alloc (.cells #[.int .i64 U, .int .i64 Bs, v, .int .u8 (K 0), .int .u8 (K 1), .int .u8 (K 2), .int .u8 (K 3), .int .u8 (K 4), .int .u8 (K 5), .int .u8 (K 6), .int .u8 (K 7), .int .u8 (K 8), .int .u8 (K 9), .int .u8 (K 10), .int .u8 (K 11), .int .u8 (K 12), .int .u8 (K 13), .int .u8 (K 14), .int .u8 (K 15)] 46)) lv lu 27
    rw [World.size_alloc] at h
    exact h
  have HTr := Lib.hid (fun N Y ys W (hb : Below w.heap.size w W) (hy : Rd W .u8 ys N Y) (hy6 : ∀ j, j < N → Y j < 256) => traceScores_any U Bs v K n a N Y ys n1 m1 f g lv lu W (h.below hb) hK hy hy6 (hlv.below hb) (hlu.below hb) hf hg)
  have HBo := Lib.hid (fun W (hb : Below w.heap.size w W) => boundE_any U Bs v K n a N Y ys n1 m1 f g lv lu W (h.below hb) (hy.below hb) hy6 (hlv.below hb) (hlu.below hb) hf hg)
  have HV := Lib.hid (fun W (hb : Below w.heap.size w W) => validScores_any U Bs v K n a W (h.below hb))
  have HI := Lib.hid (fun W (hb : Below w.heap.size w W) => refIsCopy_any N Y ys n W (hy.below hb))
  have HL := Lib.hid (fun W (hb : Below w.heap.size w W) => rislimit_any n1 m1 f g lv lu W (hlv.below hb) (hlu.below hb) hf hg)
  have HW := Lib.hid (fun W (hb : Below w.heap.size w W) => scoreWordE_any U Bs v K n a u W (h.below hb) hK)
  have HSc := Lib.hid (fun N1 X N2 Y ws ys W (hb : Below w.heap.size w W) (hx : Rd W .u8 ws N1 X) (hy : Rd W .u8 ys N2 Y) (hx6 : ∀ j, j < N1 → X j < 256) (hy6 : ∀ j, j < N2 → Y j < 256) => scoreE_any U Bs v K n a N1 X N2 Y ws ys W (h.below hb) hx hy hx6 hy6)
  have HCh := Lib.hid (fun N Y ys z W (hb : Below w.heap.size w W) (hy : Rd W .u8 ys N Y) (hy6 : ∀ j, j < N → Y j < 256) => chanceE_any U Bs v K n a N Y ys z W (h.below hb) hy hy6)
  have HCp := Lib.hid (fun N Y (hok : ScOk U Bs n a N Y) (hl : VL n1 f m1 g) z v' u' W (hb : Below w.heap.size w W) (h1 : Nt W v' (chM U Bs n a N Y z)) (h2 : Nt W u' (chD U Bs n a N Y z)) => compareCh hok z n1 m1 f g v' u' lv lu W h1 h2 (hlv.below hb) (hlu.below hb) hf hg hl)
  have hnl : n ≤ 9223372036854775807 := by obtain ⟨_, _, _, h1, h2, _⟩ := h; unfold maxLen at h2; omega
  have HY := Lib.hid hy
  have HY6 := Lib.hid hy6
  have HTr1 := Lib.hid (fun W (hb : Below w.heap.size w W) => HTr.out N Y ys W hb (hy.below hb) hy6)
  obtain ⟨A, cp, rfl⟩ : ∃ A c, v = .slice A n c := by obtain ⟨A, c, h, _⟩ := h; exact ⟨_, _, h⟩
  obtain ⟨A1, c1, rfl⟩ : ∃ A c, ys = .slice A N c := by obtain ⟨A, c, h, _⟩ := hy; exact ⟨_, _, h⟩
  obtain ⟨A2, c2, rfl⟩ : ∃ A c, lv = .slice A n1 c := by obtain ⟨A, c, h, _⟩ := hlv; exact ⟨_, _, h⟩
  obtain ⟨A3, c3, rfl⟩ : ∃ A c, lu = .slice A m1 c := by obtain ⟨A, c, h, _⟩ := hlu; exact ⟨_, _, h⟩
  clear h hy hy6 hlv hlu hf hg
  by_cases hs : VS U Bs n a
  · rw [tt_pos hs] at HV
    by_cases hc : IsC N Y n
    · rw [tt_pos hc] at HI
      have hok : ScOk U Bs n a N Y := ⟨hs, hc⟩
      by_cases hl : VL n1 f m1 g
      · rw [tt_pos hl] at HL
        by_cases hu0 : u < 0
        · clear hok hl hs hc
          generalize boE U Bs n a N Y n1 f m1 g = E at *
          generalize tsL K U Bs n a N Y n1 f m1 g = L at *
          clear HTr HCp HSc HW HCh HBo HY HY6
          go_enter Tryz.func4, Tryz.ntmps4
          go_wp2_with fail
          refine (alive_any _).mono ?_
          rintro e w1 ⟨rfl, hB⟩
          replace HB := Lib.hid (below_then HB.out hB); replace HS := Lib.hid (HS.out.of_block (hB.block _ HS.out.lt)); replace HR := Lib.hid (HR.out.of_block (hB.block _ HR.out.lt)); clear hB
          have r0 := fr_c0 HR.out
          have r1 := fr_c1 HR.out
          go_wp2_with (refine wp_load_whole rfl 46 _ rfl w.heap.size rfl 46 19 _ _ _ HS.out rfl (sc_cs _ _ _ _) Tryz.underlying46 rfl sc_size ?_)
          refine (HTr1.out _ HB.out).mono ?_
          rintro e w2 ⟨sl, rfl, hl, hB⟩
          replace HB := Lib.hid (below_then HB.out hB); replace HS := Lib.hid (HS.out.of_block (hB.block _ HS.out.lt)); replace HR := Lib.hid (HR.out.of_block (hB.block _ HR.out.lt)); clear hB
          obtain ⟨Al, cl, rfl, _, _, h3⟩ := hl
          clear h3
          go_wp2_with (refine wp_load_whole rfl 46 _ rfl w.heap.size rfl 46 19 _ _ _ HS.out rfl (sc_cs _ _ _ _) Tryz.underlying46 rfl sc_size ?_)
          refine (HV.out _ HB.out).mono ?_
          rintro e w3 ⟨rfl, hB⟩
          replace HB := Lib.hid (below_then HB.out hB); replace HS := Lib.hid (HS.out.of_block (hB.block _ HS.out.lt)); replace HR := Lib.hid (HR.out.of_block (hB.block _ HR.out.lt)); clear hB
          have q2 := sc_c2 HS.out
          have q0 := sc_c0 HS.out
          have r0 := fr_c0 HR.out
          have r1 := fr_c1 HR.out
          go_wp2_with fail
          refine (HI.out _ HB.out).mono ?_
          rintro e w4 ⟨rfl, rfl⟩
          go_wp2_with fail
          refine (HL.out _ HB.out).mono ?_
          rintro e w4 ⟨rfl, hB⟩
          replace HB := Lib.hid (below_then HB.out hB); replace HS := Lib.hid (HS.out.of_block (hB.block _ HS.out.lt)); replace HR := Lib.hid (HR.out.of_block (hB.block _ HR.out.lt)); clear hB
          have q2 := sc_c2 HS.out
          have q0 := sc_c0 HS.out
          go_wp2_with fail
          go_ret
          exact ⟨rfl, HB.out⟩
        · by_cases hu1 : U ≤ u
          · clear hok hl hs hc
            generalize boE U Bs n a N Y n1 f m1 g = E at *
            generalize tsL K U Bs n a N Y n1 f m1 g = L at *
            clear HTr HCp HSc HW HCh HBo HY HY6
            go_enter Tryz.func4, Tryz.ntmps4
            go_wp2_with fail
            refine (alive_any _).mono ?_
            rintro e w1 ⟨rfl, hB⟩
            replace HB := Lib.hid (below_then HB.out hB); replace HS := Lib.hid (HS.out.of_block (hB.block _ HS.out.lt)); replace HR := Lib.hid (HR.out.of_block (hB.block _ HR.out.lt)); clear hB
            have r0 := fr_c0 HR.out
            have r1 := fr_c1 HR.out
            go_wp2_with (refine wp_load_whole rfl 46 _ rfl w.heap.size rfl 46 19 _ _ _ HS.out rfl (sc_cs _ _ _ _) Tryz.underlying46 rfl sc_size ?_)
            refine (HTr1.out _ HB.out).mono ?_
            rintro e w2 ⟨sl, rfl, hl, hB⟩
            replace HB := Lib.hid (below_then HB.out hB); replace HS := Lib.hid (HS.out.of_block (hB.block _ HS.out.lt)); replace HR := Lib.hid (HR.out.of_block (hB.block _ HR.out.lt)); clear hB
            obtain ⟨Al, cl, rfl, _, _, h3⟩ := hl
            clear h3
            go_wp2_with (refine wp_load_whole rfl 46 _ rfl w.heap.size rfl 46 19 _ _ _ HS.out rfl (sc_cs _ _ _ _) Tryz.underlying46 rfl sc_size ?_)
            refine (HV.out _ HB.out).mono ?_
            rintro e w3 ⟨rfl, hB⟩
            replace HB := Lib.hid (below_then HB.out hB); replace HS := Lib.hid (HS.out.of_block (hB.block _ HS.out.lt)); replace HR := Lib.hid (HR.out.of_block (hB.block _ HR.out.lt)); clear hB
            have q2 := sc_c2 HS.out
            have q0 := sc_c0 HS.out
            have r0 := fr_c0 HR.out
            have r1 := fr_c1 HR.out
            go_wp2_with fail
            refine (HI.out _ HB.out).mono ?_
            rintro e w4 ⟨rfl, rfl⟩
            go_wp2_with fail
            refine (HL.out _ HB.out).mono ?_
            rintro e w4 ⟨rfl, hB⟩
            replace HB := Lib.hid (below_then HB.out hB); replace HS := Lib.hid (HS.out.of_block (hB.block _ HS.out.lt)); replace HR := Lib.hid (HR.out.of_block (hB.block _ HR.out.lt)); clear hB
            have q2 := sc_c2 HS.out
            have q0 := sc_c0 HS.out
            go_wp2_with fail
            go_ret
            exact ⟨rfl, HB.out⟩
          · obtain ⟨u', rfl⟩ := Int.eq_ofNat_of_zero_le (show 0 ≤ u by omega)
            obtain ⟨U', rfl⟩ := Int.eq_ofNat_of_zero_le (show 0 ≤ U by omega)
            have huU : u' < U' := by omega
            have hU64 : U' ≤ 64 := by have := hs.1.2.1; omega
            obtain ⟨z, hz, hz1, hz2⟩ := bnd_ex hok hl.2.2.2
            rw [boE_ok hok hl, boZ_ok hok hl, bdZ_eq hz] at HBo
            rw [boE_ok hok hl, show tsL K (U' : Int) Bs n a N Y n1 f m1 g = (List.range U').filter (fun x => decide (z ≤ usS K Bs n a Y x)) by unfold tsL; rw [tt_pos ⟨hok, hl⟩, if_pos rfl, bdZ_eq hz, Int.toNat_natCast]; rfl] at HTr1
            rw [(sw_ok hs (by omega) (by omega)).1, (sw_ok (u := (u' : Int)) hs (by omega) (by omega)).2] at HW
            have hX : swF K Bs a (u' : Int) = swN K u' Bs.toNat (fun j => (a j).toNat) := by unfold swF; rw [Int.toNat_natCast]
            rw [hX] at HW
            generalize hXd : swN K u' Bs.toNat (fun j => (a j).toNat) = X at *
            have hX1 : ∀ j, X j ≤ 1 := fun j => by rw [← hXd]; unfold swN; split <;> omega
            have hxw : IsW n X n := ⟨rfl, fun j _ => hX1 j⟩
            have hxc : IsC n X n := ⟨rfl, fun j _ => by have := hX1 j; omega⟩
            have hokX : ScOk (U' : Int) Bs n a n X := ⟨hs, hxc⟩
            have hx6 : ∀ j, j < n → X j < 256 := fun j _ => by have := hX1 j; omega
            obtain ⟨z2, hzb, hzb1, hzb2⟩ := bnd_ex hokX hl.2.2.2
            have HTr2 := Lib.hid (fun ws W (hb : Below w.heap.size w W) (hx : Rd W .u8 ws n X) => HTr.out n X ws W hb hx hx6)
            rw [boE_ok hokX hl, show tsL K (U' : Int) Bs n a n X n1 f m1 g = (List.range U').filter (fun x => decide (z2 ≤ usS K Bs n a X x)) by unfold tsL; rw [tt_pos ⟨hokX, hl⟩, if_pos rfl, bdZ_eq hzb, Int.toNat_natCast]; rfl] at HTr2
            have HS1 := Lib.hid (fun ws W (hb : Below w.heap.size w W) (hx : Rd W .u8 ws n X) => HSc.out n X N Y ws (.slice A1 N c1) W hb hx (HY.out.below hb) hx6 HY6.out)
            have HS2 := Lib.hid (fun ws W (hb : Below w.heap.size w W) (hx : Rd W .u8 ws n X) => HSc.out n X n X ws ws W hb hx hx hx6 hx6)
            rw [(st_ok hs hxw hc).1, (st_ok hs hxw hc).2] at HS1
            rw [(st_ok hs hxw hxc).1, (st_ok hs hxw hxc).2] at HS2
            have e1 : usS K Bs n a Y u' = scN Bs.toNat (fun j => (a j).toNat) X Y n := by unfold usS; rw [hXd]
            have e2 : usS K Bs n a X u' = scN Bs.toNat (fun j => (a j).toNat) X X n := by unfold usS; rw [hXd]
            have HCh2 := Lib.hid (fun ws W (hb : Below w.heap.size w W) (hx : Rd W .u8 ws n X) => HCh.out n X ws (scN Bs.toNat (fun j => (a j).toNat) X X n) W hb hx hx6)
            rw [chE_ok hokX] at HCh2
            have HCp2 := Lib.hid (HCp.out n X hokX hl (scN Bs.toNat (fun j => (a j).toNat) X X n))
            have h1 : hasL (fun j => ((((List.range U').filter (fun x => decide (z ≤ usS K Bs n a Y x))).getD j 0 : Nat) : Int)) (u' : Int) ((List.range U').filter (fun x => decide (z ≤ usS K Bs n a Y x))).length = decide (z ≤ scN Bs.toNat (fun j => (a j).toNat) X Y n) := by rw [hasL_flt huU, e1]
            have h2 : hasL (fun j => ((((List.range U').filter (fun x => decide (z2 ≤ usS K Bs n a X x))).getD j 0 : Nat) : Int)) (u' : Int) ((List.range U').filter (fun x => decide (z2 ≤ usS K Bs n a X x))).length = decide (ord (tl (scC Bs n a X) 2048 (scN Bs.toNat (fun j => (a j).toNat) X X n) * val g m1) (val f n1 * scA Bs n) ≤ 0) := by
              rw [hasL_flt huU, e2]
              exact decide_eq_decide.2 (hzb.iff.trans ord_nonpos.symm)
            have hup : ∀ j, j + 1 < ((List.range U').filter (fun x => decide (z ≤ usS K Bs n a Y x))).length → ((((List.range U').filter (fun x => decide (z ≤ usS K Bs n a Y x))).getD j 0 : Nat) : Int) < ((((List.range U').filter (fun x => decide (z ≤ usS K Bs n a Y x))).getD (j + 1) 0 : Nat) : Int) := fun j hj => by
              have := flt_up hj
              omega
            have hm1 : ((List.range U').filter (fun x => decide (z ≤ usS K Bs n a Y x))).length ≤ 64 := by have := List.length_filter_le (fun x => decide (z ≤ usS K Bs n a Y x)) (List.range U'); rw [List.length_range] at this; omega
            have hm2 : ((List.range U').filter (fun x => decide (z2 ≤ usS K Bs n a X x))).length ≤ 64 := by have := List.length_filter_le (fun x => decide (z2 ≤ usS K Bs n a X x)) (List.range U'); rw [List.length_range] at this; omega
            generalize hG1 : (fun j => ((((List.range U').filter (fun x => decide (z ≤ usS K Bs n a Y x))).getD j 0 : Nat) : Int)) = F1 at *
            generalize hG2 : (fun j => ((((List.range U').filter (fun x => decide (z2 ≤ usS K Bs n a X x))).getD j 0 : Nat) : Int)) = F2 at *
            have hf1 : ∀ j, ((((List.range U').filter (fun x => decide (z ≤ usS K Bs n a Y x))).getD j 0 : Nat) : Int) = F1 j := fun j => by rw [← hG1]
            have hf2 : ∀ j, ((((List.range U').filter (fun x => decide (z2 ≤ usS K Bs n a X x))).getD j 0 : Nat) : Int) = F2 j := fun j => by rw [← hG2]
            simp only [hf1] at HTr1 hup
            simp only [hf2] at HTr2
            generalize ((List.range U').filter (fun x => decide (z ≤ usS K Bs n a Y x))).length = k1 at *
            generalize ((List.range U').filter (fun x => decide (z2 ≤ usS K Bs n a X x))).length = k2 at *
            generalize ord (tl (scC Bs n a X) 2048 (scN Bs.toNat (fun j => (a j).toNat) X X n) * val g m1) (val f n1 * scA Bs n) = o1 at *
            generalize scN Bs.toNat (fun j => (a j).toNat) X Y n = s1 at *
            generalize scN Bs.toNat (fun j => (a j).toNat) X X n = s2 at *
            clear HTr HCp HSc HCh hG1 hG2 hf1 hf2 e1 e2 hxw hxc hokX hx6 hX1 hX hXd hok hl hs hc hz hz1 hz2 hzb hzb1 hzb2
            have H1 := Lib.hid h1
            have H2 := Lib.hid h2
            have HUp := Lib.hid hup
            clear h1 h2 hup
            go_enter Tryz.func4, Tryz.ntmps4
            go_wp2_with fail
            refine (alive_any _).mono ?_
            rintro e w1 ⟨rfl, hB⟩
            replace HB := Lib.hid (below_then HB.out hB); replace HS := Lib.hid (HS.out.of_block (hB.block _ HS.out.lt)); replace HR := Lib.hid (HR.out.of_block (hB.block _ HR.out.lt)); clear hB
            have r0 := fr_c0 HR.out
            have r1 := fr_c1 HR.out
            go_wp2_with (refine wp_load_whole rfl 46 _ rfl w.heap.size rfl 46 19 _ _ _ HS.out rfl (sc_cs _ _ _ _) Tryz.underlying46 rfl sc_size ?_)
            refine (HTr1.out _ HB.out).mono ?_
            rintro e w2 ⟨sl, rfl, hl, hB⟩
            replace HB := Lib.hid (below_then HB.out hB); replace HS := Lib.hid (HS.out.of_block (hB.block _ HS.out.lt)); replace HR := Lib.hid (HR.out.of_block (hB.block _ HR.out.lt)); clear hB
            have HLs := Lib.hid hl
            obtain ⟨Al, cl, rfl, _, _, h3⟩ := hl
            clear h3
            go_wp2_with (refine wp_load_whole rfl 46 _ rfl w.heap.size rfl 46 19 _ _ _ HS.out rfl (sc_cs _ _ _ _) Tryz.underlying46 rfl sc_size ?_)
            refine (HV.out _ HB.out).mono ?_
            rintro e w3 ⟨rfl, hB⟩
            replace HLs := Lib.hid (HLs.out.below hB)
            replace HB := Lib.hid (below_then HB.out hB); replace HS := Lib.hid (HS.out.of_block (hB.block _ HS.out.lt)); replace HR := Lib.hid (HR.out.of_block (hB.block _ HR.out.lt)); clear hB
            have q2 := sc_c2 HS.out
            have q0 := sc_c0 HS.out
            have r0 := fr_c0 HR.out
            have r1 := fr_c1 HR.out
            go_wp2_with fail
            refine (HI.out _ HB.out).mono ?_
            rintro e w4 ⟨rfl, rfl⟩
            go_wp2_with fail
            refine (HL.out _ HB.out).mono ?_
            rintro e w4 ⟨rfl, hB⟩
            replace HLs := Lib.hid (HLs.out.below hB)
            replace HB := Lib.hid (below_then HB.out hB); replace HS := Lib.hid (HS.out.of_block (hB.block _ HS.out.lt)); replace HR := Lib.hid (HR.out.of_block (hB.block _ HR.out.lt)); clear hB
            have q2 := sc_c2 HS.out
            have q0 := sc_c0 HS.out
            have r0 := fr_c0 HR.out
            have r1 := fr_c1 HR.out
            go_wp2_with (refine wp_load_whole rfl 46 _ rfl w.heap.size rfl 46 19 _ _ _ HS.out rfl (sc_cs _ _ _ _) Tryz.underlying46 rfl sc_size ?_)
            refine (HBo.out _ HB.out).mono ?_
            rintro e w5 ⟨rfl, hB⟩
            replace HLs := Lib.hid (HLs.out.below hB)
            replace HB := Lib.hid (below_then HB.out hB); replace HS := Lib.hid (HS.out.of_block (hB.block _ HS.out.lt)); replace HR := Lib.hid (HR.out.of_block (hB.block _ HR.out.lt)); clear hB
            go_wp2_with (refine wp_load_whole rfl 46 _ rfl w.heap.size rfl 46 19 _ _ _ HS.out rfl (sc_cs _ _ _ _) Tryz.underlying46 rfl sc_size ?_)
            refine (HW.out _ HB.out).mono ?_
            rintro e w6 ⟨ws, rfl, hx, hB⟩
            replace HLs := Lib.hid (HLs.out.below hB)
            replace HB := Lib.hid (below_then HB.out hB); replace HS := Lib.hid (HS.out.of_block (hB.block _ HS.out.lt)); replace HR := Lib.hid (HR.out.of_block (hB.block _ HR.out.lt)); clear hB
            have HX := Lib.hid hx
            obtain ⟨Aw, cw, rfl, _, _, h3⟩ := hx
            clear h3
            go_wp2_with (refine wp_load_whole rfl 46 _ rfl w.heap.size rfl 46 19 _ _ _ HS.out rfl (sc_cs _ _ _ _) Tryz.underlying46 rfl sc_size ?_)
            refine (HS1.out _ _ HB.out HX.out).mono ?_
            rintro e w7 ⟨rfl, hB⟩
            replace HLs := Lib.hid (HLs.out.below hB)
            replace HB := Lib.hid (below_then HB.out hB); replace HS := Lib.hid (HS.out.of_block (hB.block _ HS.out.lt)); replace HR := Lib.hid (HR.out.of_block (hB.block _ HR.out.lt)); replace HX := Lib.hid (HX.out.below hB); clear hB
            obtain ⟨Al', cl', e3, _, _, h3⟩ := HLs.out
            cases e3
            have H3 := Lib.hid h3
            clear h3 HI HV HL HTr1 HBo HS1 HW HLs q0 q2
            go_wp2_with fail
            generalize Value.agg #[.int .i64 (U' : Int), .int .i64 Bs, (.slice A n cp), .int .u8 (K 0), .int .u8 (K 1), .int .u8 (K 2), .int .u8 (K 3), .int .u8 (K 4), .int .u8 (K 5), .int .u8 (K 6), .int .u8 (K 7), .int .u8 (K 8), .int .u8 (K 9), .int .u8 (K 10), .int .u8 (K 11), .int .u8 (K 12), .int .u8 (K 13), .int .u8 (K 14), .int .u8 (K 15)] = zz1
            go_loopw [18, 19] (fun s18 s19 wr => ∃ i : Nat, i ≤ k1 ∧ s19 = .int .i64 i ∧ s18 = .bool (hasL F1 (u' : Int) i) ∧ Below w7.heap.size w7 wr) (fun _ s19 _ => k1 - (intOf s19).toNat)
            case atStart => exact ⟨0, Nat.zero_le _, rfl, rfl, Below.refl _ _⟩
            case round =>
              obtain ⟨i, hi, rfl, rfl, hbel⟩ := hrel
              obtain ⟨W0, rfl⟩ : ∃ W0 : World, W0 = wr := ⟨_, rfl⟩
              have HBr := Lib.hid hbel
              clear hbel
              by_cases hlt : i < k1
              · obtain ⟨b, off, rfl, hc⟩ := H3.out (by omega)
                have d1 := cell_below HBr.out (hc i hlt)
                obtain ⟨hh, hhe⟩ : ∃ hh, hh = hasL F1 (u' : Int) i := ⟨_, rfl⟩
                have HH := Lib.hid hhe
                rw [← hhe]
                clear hhe
                rcases Nat.eq_zero_or_pos i with hi0 | hi0
                · subst hi0
                  rw [Nat.add_zero] at d1
                  generalize hxd : F1 0 = x at *
                  have HXd := Lib.hid hxd
                  clear hxd hc HUp
                  cases hh with
                  | true =>
                    go_wp2_with fail
                    go_big_quiet (fail)
                    go_wp2
                    go_roundw
                    case rel => exact ⟨1, by omega, by go_num, by show Value.bool true = Value.bool (hasL F1 (u' : Int) (0) || _); rw [← HH.out]; rfl, below_drewN HBr.out _⟩
                    case measure => simp [intOf]; omega
                  | false =>
                    by_cases hxu : x = (u' : Int)
                    · have HXu := Lib.hid hxu
                      subst hxu
                      go_wp2_with fail
                      go_big_quiet (fail)
                      go_wp2
                      go_roundw
                      case rel => exact ⟨1, by omega, by go_num, by show Value.bool true = Value.bool (hasL F1 (u' : Int) (0) || decide (F1 (0) = (u' : Int))); rw [← HH.out, HXd.out]; simp, below_drewN HBr.out _⟩
                      case measure => simp [intOf]; omega
                    · have hxf : (x == (u' : Int)) = false := beq_eq_false_iff_ne.2 hxu
                      have HXf : Hid (decide (x = (u' : Int)) = false) := decide_eq_false hxu
                      clear hxu
                      go_wp2_with fail
                      go_big_quiet (fail)
                      go_wp2
                      go_roundw
                      case rel => exact ⟨1, by omega, by go_num, by show Value.bool false = Value.bool (hasL F1 (u' : Int) (0) || decide (F1 (0) = (u' : Int))); rw [← HH.out, HXd.out, HXf.out]; rfl, below_drewN HBr.out _⟩
                      case measure => simp [intOf]; omega
                · obtain ⟨i, rfl⟩ : ∃ k, i = k + 1 := ⟨i - 1, by omega⟩
                  have d2 := cell_below HBr.out (hc i (by omega))
                  have hup := HUp.out i hlt
                  have hix : ((i + 1 : Nat) : Int) - 1 = (i : Int) := by omega
                  clear hc HUp
                  generalize hxd : F1 (i + 1) = x at *
                  generalize F1 i = y at *
                  have HXd := Lib.hid hxd
                  have t3 : decide (x ≤ y) = false := decide_eq_false (by omega)
                  have t4 : decide (((i + 1 : Nat) : Int) > 0) = true := decide_eq_true (by omega)
                  clear hxd hup
                  cases hh with
                  | true =>
                    go_wp2_with fail
                    go_big_quiet (fail)
                    go_wp2
                    go_roundw
                    case rel => exact ⟨i + 1 + 1, by omega, by go_num, by show Value.bool true = Value.bool (hasL F1 (u' : Int) (i + 1) || _); rw [← HH.out]; rfl, below_drewN HBr.out _⟩
                    case measure => simp [intOf]; omega
                  | false =>
                    by_cases hxu : x = (u' : Int)
                    · have HXu := Lib.hid hxu
                      subst hxu
                      go_wp2_with fail
                      go_big_quiet (fail)
                      go_wp2
                      go_roundw
                      case rel => exact ⟨i + 1 + 1, by omega, by go_num, by show Value.bool true = Value.bool (hasL F1 (u' : Int) (i + 1) || decide (F1 (i + 1) = (u' : Int))); rw [← HH.out, HXd.out]; simp, below_drewN HBr.out _⟩
                      case measure => simp [intOf]; omega
                    · have hxf : (x == (u' : Int)) = false := beq_eq_false_iff_ne.2 hxu
                      have HXf : Hid (decide (x = (u' : Int)) = false) := decide_eq_false hxu
                      clear hxu
                      go_wp2_with fail
                      go_big_quiet (fail)
                      go_wp2
                      go_roundw
                      case rel => exact ⟨i + 1 + 1, by omega, by go_num, by show Value.bool false = Value.bool (hasL F1 (u' : Int) (i + 1) || decide (F1 (i + 1) = (u' : Int))); rw [← HH.out, HXd.out, HXf.out]; rfl, below_drewN HBr.out _⟩
                      case measure => simp [intOf]; omega
              · obtain rfl : i = k1 := by omega
                rw [H1.out]
                replace HS := Lib.hid (HS.out.of_block (HBr.out.block _ HS.out.lt))
                replace HR := Lib.hid (HR.out.of_block (HBr.out.block _ HR.out.lt))
                replace HX := Lib.hid (HX.out.below HBr.out)
                replace HB := Lib.hid (below_then HB.out HBr.out)
                clear HBr H3 HUp H1
                have r0 := fr_c0 HR.out
                have r1 := fr_c1 HR.out
                go_wp2_with (refine wp_load_whole rfl 46 _ rfl w.heap.size rfl 46 19 _ _ _ HS.out rfl (sc_cs _ _ _ _) Tryz.underlying46 rfl sc_size ?_)
                refine (HTr2.out _ _ HB.out HX.out).mono ?_
                rintro e w8 ⟨sl2, rfl, hl, hB⟩
                have HLs := Lib.hid hl
                replace HB := Lib.hid (below_then HB.out hB); replace HS := Lib.hid (HS.out.of_block (hB.block _ HS.out.lt)); replace HR := Lib.hid (HR.out.of_block (hB.block _ HR.out.lt)); replace HX := Lib.hid (HX.out.below hB); clear hB
                obtain ⟨Al2, cl2, rfl, _, _, h3⟩ := hl
                clear h3
                go_wp2_with (refine wp_load_whole rfl 46 _ rfl w.heap.size rfl 46 19 _ _ _ HS.out rfl (sc_cs _ _ _ _) Tryz.underlying46 rfl sc_size ?_)
                refine (HS2.out _ _ HB.out HX.out).mono ?_
                rintro e w9 ⟨rfl, hB⟩
                replace HB := Lib.hid (below_then HB.out hB); replace HS := Lib.hid (HS.out.of_block (hB.block _ HS.out.lt)); replace HR := Lib.hid (HR.out.of_block (hB.block _ HR.out.lt)); replace HX := Lib.hid (HX.out.below hB); replace HLs := Lib.hid (HLs.out.below hB); clear hB
                go_wp2_with (refine wp_load_whole rfl 46 _ rfl w.heap.size rfl 46 19 _ _ _ HS.out rfl (sc_cs _ _ _ _) Tryz.underlying46 rfl sc_size ?_)
                refine (HCh2.out _ _ HB.out HX.out).mono ?_
                rintro e w10 ⟨v10, u10, rfl, hN, hM, hB⟩
                replace HB := Lib.hid (below_then HB.out hB); replace HS := Lib.hid (HS.out.of_block (hB.block _ HS.out.lt)); replace HR := Lib.hid (HR.out.of_block (hB.block _ HR.out.lt)); replace HLs := Lib.hid (HLs.out.below hB); clear hB
                have hal := (Below.refl _ w10).alloc (Nat.le_refl _) (.cells #[v10, u10] 27)
                have HN := Lib.hid (hN.below hal)
                have HM := Lib.hid (hM.below hal)
                have HQ := Lib.hid (row2 w10 v10 u10 27)
                replace HB := Lib.hid (below_then HB.out hal); replace HS := Lib.hid (HS.out.of_block (hal.block _ HS.out.lt)); replace HR := Lib.hid (HR.out.of_block (hal.block _ HR.out.lt)); replace HLs := Lib.hid (HLs.out.below hal); clear hal
                obtain ⟨A10, n10, c10, rfl⟩ := hN.shape
                obtain ⟨A11, n11, c11, rfl⟩ := hM.shape
                clear hN hM
                have r0 := fr_c0 HR.out
                have r1 := fr_c1 HR.out
                have q0 := fr_c0 HQ.out
                have q1 := fr_c1 HQ.out
                go_wp2_with fail
                refine (HCp2.out _ _ _ HB.out HN.out HM.out).mono ?_
                rintro e w11 ⟨rfl, hB⟩
                replace HB := Lib.hid (below_then HB.out hB); replace HLs := Lib.hid (HLs.out.below hB); clear hB
                obtain ⟨Al', cl', e3, _, _, h3⟩ := HLs.out
                cases e3
                have H3 := Lib.hid h3
                clear h3 HLs HTr2 HS2 HCh2 HCp2 HN HM HQ HR HS r0 r1 q0 q1
                go_wp2_with fail
                generalize Value.agg #[.int .i64 (U' : Int), .int .i64 Bs, (.slice A n cp), .int .u8 (K 0), .int .u8 (K 1), .int .u8 (K 2), .int .u8 (K 3), .int .u8 (K 4), .int .u8 (K 5), .int .u8 (K 6), .int .u8 (K 7), .int .u8 (K 8), .int .u8 (K 9), .int .u8 (K 10), .int .u8 (K 11), .int .u8 (K 12), .int .u8 (K 13), .int .u8 (K 14), .int .u8 (K 15)] = zz2
                go_loopw [24, 25] (fun s24 s25 wr => ∃ i : Nat, i ≤ k2 ∧ s25 = .int .i64 i ∧ s24 = .bool (hasL F2 (u' : Int) i) ∧ Below w11.heap.size w11 wr) (fun _ s25 _ => k2 - (intOf s25).toNat)
                case atStart => exact ⟨0, Nat.zero_le _, rfl, rfl, Below.refl _ _⟩
                case round =>
                  obtain ⟨i, hi, rfl, rfl, hbel⟩ := hrel
                  obtain ⟨W0, rfl⟩ : ∃ W0 : World, W0 = wr := ⟨_, rfl⟩
                  have HBr := Lib.hid hbel
                  clear hbel
                  by_cases hlt : i < k2
                  · obtain ⟨b, off, rfl, hc⟩ := H3.out (by omega)
                    have d1 := cell_below HBr.out (hc i hlt)
                    obtain ⟨hh, hhe⟩ : ∃ hh, hh = hasL F2 (u' : Int) i := ⟨_, rfl⟩
                    have HH := Lib.hid hhe
                    rw [← hhe]
                    clear hhe hc
                    generalize hxd : F2 i = x at *
                    have HXd := Lib.hid hxd
                    clear hxd
                    cases hh with
                    | true =>
                      go_wp2_with fail
                      go_roundw
                      case rel => exact ⟨i + 1, by omega, by go_num, by show Value.bool true = Value.bool (hasL F2 (u' : Int) i || _); rw [← HH.out]; rfl, HBr.out⟩
                      case measure => simp [intOf]; omega
                    | false =>
                      by_cases hxu : x = (u' : Int)
                      · subst hxu
                        go_wp2_with fail
                        go_roundw
                        case rel => exact ⟨i + 1, by omega, by go_num, by show Value.bool true = Value.bool (hasL F2 (u' : Int) i || decide (F2 i = (u' : Int))); rw [← HH.out, HXd.out]; simp, HBr.out⟩
                        case measure => simp [intOf]; omega
                      · have hxf : (x == (u' : Int)) = false := beq_eq_false_iff_ne.2 hxu
                        have HXf : Hid (decide (x = (u' : Int)) = false) := decide_eq_false hxu
                        clear hxu
                        go_wp2_with fail
                        go_roundw
                        case rel => exact ⟨i + 1, by omega, by go_num, by show Value.bool false = Value.bool (hasL F2 (u' : Int) i || decide (F2 i = (u' : Int))); rw [← HH.out, HXd.out, HXf.out]; rfl, HBr.out⟩
                        case measure => simp [intOf]; omega
                  · obtain rfl : i = k2 := by omega
                    rw [H2.out]
                    go_wp2_with fail
                    go_ret
                    exact ⟨by simp, below_then HB.out HBr.out⟩
      · rw [tt_neg hl] at HL
        clear hok hl hs hc
        generalize boE U Bs n a N Y n1 f m1 g = E at *
        generalize tsL K U Bs n a N Y n1 f m1 g = L at *
        clear HTr HCp HSc HW HCh HBo HY HY6
        go_enter Tryz.func4, Tryz.ntmps4
        go_wp2_with fail
        refine (alive_any _).mono ?_
        rintro e w1 ⟨rfl, hB⟩
        replace HB := Lib.hid (below_then HB.out hB); replace HS := Lib.hid (HS.out.of_block (hB.block _ HS.out.lt)); replace HR := Lib.hid (HR.out.of_block (hB.block _ HR.out.lt)); clear hB
        have r0 := fr_c0 HR.out
        have r1 := fr_c1 HR.out
        go_wp2_with (refine wp_load_whole rfl 46 _ rfl w.heap.size rfl 46 19 _ _ _ HS.out rfl (sc_cs _ _ _ _) Tryz.underlying46 rfl sc_size ?_)
        refine (HTr1.out _ HB.out).mono ?_
        rintro e w2 ⟨sl, rfl, hl, hB⟩
        replace HB := Lib.hid (below_then HB.out hB); replace HS := Lib.hid (HS.out.of_block (hB.block _ HS.out.lt)); replace HR := Lib.hid (HR.out.of_block (hB.block _ HR.out.lt)); clear hB
        obtain ⟨Al, cl, rfl, _, _, h3⟩ := hl
        clear h3
        go_wp2_with (refine wp_load_whole rfl 46 _ rfl w.heap.size rfl 46 19 _ _ _ HS.out rfl (sc_cs _ _ _ _) Tryz.underlying46 rfl sc_size ?_)
        refine (HV.out _ HB.out).mono ?_
        rintro e w3 ⟨rfl, hB⟩
        replace HB := Lib.hid (below_then HB.out hB); replace HS := Lib.hid (HS.out.of_block (hB.block _ HS.out.lt)); replace HR := Lib.hid (HR.out.of_block (hB.block _ HR.out.lt)); clear hB
        have q2 := sc_c2 HS.out
        have q0 := sc_c0 HS.out
        have r0 := fr_c0 HR.out
        have r1 := fr_c1 HR.out
        go_wp2_with fail
        refine (HI.out _ HB.out).mono ?_
        rintro e w4 ⟨rfl, rfl⟩
        go_wp2_with fail
        refine (HL.out _ HB.out).mono ?_
        rintro e w4 ⟨rfl, hB⟩
        replace HB := Lib.hid (below_then HB.out hB); replace HS := Lib.hid (HS.out.of_block (hB.block _ HS.out.lt)); replace HR := Lib.hid (HR.out.of_block (hB.block _ HR.out.lt)); clear hB
        have q2 := sc_c2 HS.out
        have q0 := sc_c0 HS.out
        go_wp2_with fail
        go_ret
        exact ⟨rfl, HB.out⟩
    · rw [tt_neg hc] at HI
      clear hs hc
      generalize boE U Bs n a N Y n1 f m1 g = E at *
      generalize tsL K U Bs n a N Y n1 f m1 g = L at *
      clear HTr HCp HSc HW HCh HBo HY HY6
      go_enter Tryz.func4, Tryz.ntmps4
      go_wp2_with fail
      refine (alive_any _).mono ?_
      rintro e w1 ⟨rfl, hB⟩
      replace HB := Lib.hid (below_then HB.out hB); replace HS := Lib.hid (HS.out.of_block (hB.block _ HS.out.lt)); replace HR := Lib.hid (HR.out.of_block (hB.block _ HR.out.lt)); clear hB
      have r0 := fr_c0 HR.out
      have r1 := fr_c1 HR.out
      go_wp2_with (refine wp_load_whole rfl 46 _ rfl w.heap.size rfl 46 19 _ _ _ HS.out rfl (sc_cs _ _ _ _) Tryz.underlying46 rfl sc_size ?_)
      refine (HTr1.out _ HB.out).mono ?_
      rintro e w2 ⟨sl, rfl, hl, hB⟩
      replace HB := Lib.hid (below_then HB.out hB); replace HS := Lib.hid (HS.out.of_block (hB.block _ HS.out.lt)); replace HR := Lib.hid (HR.out.of_block (hB.block _ HR.out.lt)); clear hB
      obtain ⟨Al, cl, rfl, _, _, h3⟩ := hl
      clear h3
      go_wp2_with (refine wp_load_whole rfl 46 _ rfl w.heap.size rfl 46 19 _ _ _ HS.out rfl (sc_cs _ _ _ _) Tryz.underlying46 rfl sc_size ?_)
      refine (HV.out _ HB.out).mono ?_
      rintro e w3 ⟨rfl, hB⟩
      replace HB := Lib.hid (below_then HB.out hB); replace HS := Lib.hid (HS.out.of_block (hB.block _ HS.out.lt)); replace HR := Lib.hid (HR.out.of_block (hB.block _ HR.out.lt)); clear hB
      have q2 := sc_c2 HS.out
      have q0 := sc_c0 HS.out
      have r0 := fr_c0 HR.out
      have r1 := fr_c1 HR.out
      go_wp2_with fail
      refine (HI.out _ HB.out).mono ?_
      rintro e w4 ⟨rfl, rfl⟩
      go_wp2_with fail
      go_ret
      exact ⟨rfl, HB.out⟩
  · rw [tt_neg hs] at HV
    clear hs
    generalize boE U Bs n a N Y n1 f m1 g = E at *
    generalize tsL K U Bs n a N Y n1 f m1 g = L at *
    clear HTr HCp HSc HW HCh HBo HY HY6
    go_enter Tryz.func4, Tryz.ntmps4
    go_wp2_with fail
    refine (alive_any _).mono ?_
    rintro e w1 ⟨rfl, hB⟩
    replace HB := Lib.hid (below_then HB.out hB); replace HS := Lib.hid (HS.out.of_block (hB.block _ HS.out.lt)); replace HR := Lib.hid (HR.out.of_block (hB.block _ HR.out.lt)); clear hB
    have r0 := fr_c0 HR.out
    have r1 := fr_c1 HR.out
    go_wp2_with (refine wp_load_whole rfl 46 _ rfl w.heap.size rfl 46 19 _ _ _ HS.out rfl (sc_cs _ _ _ _) Tryz.underlying46 rfl sc_size ?_)
    refine (HTr1.out _ HB.out).mono ?_
    rintro e w2 ⟨sl, rfl, hl, hB⟩
    replace HB := Lib.hid (below_then HB.out hB); replace HS := Lib.hid (HS.out.of_block (hB.block _ HS.out.lt)); replace HR := Lib.hid (HR.out.of_block (hB.block _ HR.out.lt)); clear hB
    obtain ⟨Al, cl, rfl, _, _, h3⟩ := hl
    clear h3
    go_wp2_with (refine wp_load_whole rfl 46 _ rfl w.heap.size rfl 46 19 _ _ _ HS.out rfl (sc_cs _ _ _ _) Tryz.underlying46 rfl sc_size ?_)
    refine (HV.out _ HB.out).mono ?_
    rintro e w3 ⟨rfl, hB⟩
    replace HB := Lib.hid (below_then HB.out hB); replace HS := Lib.hid (HS.out.of_block (hB.block _ HS.out.lt)); replace HR := Lib.hid (HR.out.of_block (hB.block _ HR.out.lt)); clear hB
    have q2 := sc_c2 HS.out
    have q0 := sc_c0 HS.out
    have r0 := fr_c0 HR.out
    have r1 := fr_c1 HR.out
    go_wp2_with fail
    go_ret
    exact ⟨rfl, HB.out⟩
end Go.Proofs.YtmbokpfgnicboaaGreat
