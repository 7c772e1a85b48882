import Derived.Test.YtmbokpfgnicboaaGreatV7
import Derived.Test.YtmbokpfgnicboaaGreatInf
import Derived.Test.YtmbokpfgnicboaaGreatG4
set_option linter.unusedVariables false
set_option linter.unusedSimpArgs false
/- The walk of the law CodeBest. -/
namespace Go.Proofs.YtmbokpfgnicboaaGreat
open Go.RowKit Go.Hd Go.Sort _root_.Hd
set_option exponentiation.threshold 2000

/-- The copy with the word's symbols where it cannot be read, as far as i; the word turned over as far as i. -/
def beF (X Y : Nat → Nat) (i j : Nat) : Nat := if j < i ∧ Y j = 2 then X j else Y j
def otF (X : Nat → Nat) (i j : Nat) : Nat := if j < i then 1 - X j else X j
def smB (X Y : Nat → Nat) : Nat → Bool
  | 0 => true
  | i + 1 => if Y i = 2 then smB X Y i else (smB X Y i && decide (X i = Y i))
def smS (Bs : Int) (a : Nat → Int) (Y : Nat → Nat) : Nat → Int
  | 0 => 0
  | i + 1 => if Y i = 2 then smS Bs a Y i else if Y i = 1 then smS Bs a Y i + (Bs - 2 * a i) else smS Bs a Y i + (2 * a i - Bs)
theorem smS_lt {Bs : Int} {a : Nat → Int} {Y : Nat → Nat} {n : Nat} (h1 : Bs ≤ 32) (h2 : ∀ j, j < n → 1 ≤ a j ∧ a j < Bs) : ∀ k, k ≤ n → -(32 * (k : Int)) ≤ smS Bs a Y k ∧ smS Bs a Y k ≤ 32 * (k : Int)
  | 0, _ => by simp [smS]
  | k + 1, hk => by
    have h3 := smS_lt (Y := Y) h1 h2 k (by omega)
    have h4 := h2 k (by omega)
    simp only [smS]
    split
    · omega
    · split <;> omega
theorem sm_sum {Bs : Int} {n : Nat} {a : Nat → Int} {X Y : Nat → Nat} (hB : (Bs.toNat : Int) = Bs) (ha : ∀ j, j < n → (((a j).toNat : Nat) : Int) = a j) (hX : ∀ j, j < n → X j ≤ 1) (hY : ∀ j, j < n → Y j ≤ 2) : ∀ k, k ≤ n → scN Bs.toNat (fun j => (a j).toNat) X Y k + scN Bs.toNat (fun j => (a j).toNat) (otF X n) Y k = smS Bs a Y k
  | 0, _ => rfl
  | k + 1, hk => by
    have h1 := sm_sum hB ha hX hY k (by omega)
    have h2 := ha k (by omega)
    have h3 := hX k (by omega)
    have h4 := hY k (by omega)
    have e : otF X n k = 1 - X k := by unfold otF; rw [if_pos (by omega)]
    simp only [scN, smS, e]
    unfold pt
    rw [h2, hB]
    rcases (show X k = 0 ∨ X k = 1 by omega) with hx | hx <;> rcases (show Y k = 0 ∨ Y k = 1 ∨ Y k = 2 by omega) with hy | hy | hy <;> rw [hx, hy] <;> simp <;> omega
theorem sm_best {Bs : Int} {n : Nat} {a : Nat → Int} {X Y : Nat → Nat} (hB : (Bs.toNat : Int) = Bs) (hb : ∀ j, j < n → 1 ≤ a j ∧ a j < Bs) (hX : ∀ j, j < n → X j ≤ 1) (hY : ∀ j, j < n → Y j ≤ 2) : ∀ k, k ≤ n → scN Bs.toNat (fun j => (a j).toNat) X Y k ≤ scN Bs.toNat (fun j => (a j).toNat) (beF X Y n) Y k ∧ (scN Bs.toNat (fun j => (a j).toNat) X Y k = scN Bs.toNat (fun j => (a j).toNat) (beF X Y n) Y k ↔ smB X Y k = true)
  | 0, _ => ⟨Int.le_refl _, by simp [scN, smB]⟩
  | k + 1, hk => by
    have h1 := sm_best hB hb hX hY k (by omega)
    have h2 := hb k (by omega)
    have h5 : (((a k).toNat : Nat) : Int) = a k := by omega
    have h3 := hX k (by omega)
    have h4 := hY k (by omega)
    have e : beF X Y n k = if Y k = 2 then X k else Y k := by
      unfold beF
      by_cases h : Y k = 2
      · rw [if_pos ⟨by omega, h⟩, if_pos h]
      · rw [if_neg (fun h' => h h'.2), if_neg h]
    simp only [scN, smB, e]
    generalize scN Bs.toNat (fun j => (a j).toNat) X Y k = s at *
    generalize scN Bs.toNat (fun j => (a j).toNat) (beF X Y n) Y k = t at *
    unfold pt
    rw [h5, hB]
    cases hsm : smB X Y k <;> rw [hsm] at h1 <;> simp at h1 <;>
      (rcases (show X k = 0 ∨ X k = 1 by omega) with hx | hx <;> rcases (show Y k = 0 ∨ Y k = 1 ∨ Y k = 2 by omega) with hy | hy | hy <;> rw [hx, hy] <;> simp <;> omega)

set_option maxRecDepth 100000 in
set_option maxHeartbeats 8000000 in
theorem law10 (U Bs : Int) (v : Value) (K : Nat → Nat) (n : Nat) (a : Nat → Int) (N1 : Nat) (X : Nat → Nat) (N : Nat) (Y : Nat → Nat) (ws ys : Value) (w : World) (h : RdV w v n (fun j => .int .i64 (a j))) (hx : Rd w .u8 ws N1 X) (hy : Rd w .u8 ys N Y) (hx6 : ∀ j, j < N1 → X j < 256) (hy6 : ∀ j, j < N → Y j < 256) :
    Calls Tryz.prog 10 #[scV U Bs v K, ws, ys] w fun e w' => e = .returned (.bool true) ∧ Below w.heap.size w w' := by
  have HB := Lib.hid ((Below.refl _ w).alloc (Nat.le_refl _) (.cells #[.int .i64 U, .int .i64 Bs, v, .int .u8 (K 0), .int .u8 (K 1), .int .u8 (K 2), .int .u8 (K 3), .int .u8 (K 4), .int .u8 (K 5), .int .u8 (K 6), .int .u8 (K 7), .int .u8 (K 8), .int .u8 (K 9), .int .u8 (K 10), .int .u8 (K 11), .int .u8 (K 12), .int .u8 (K 13), .int .u8 (K 14), .int .u8 (K 15)] 46))
  have HS := Lib.hid (sc_row w U Bs v K 46)
  have HV := Lib.hid (fun W (hb : Below w.heap.size w W) => validScores_any U Bs v K n a W (h.below hb))
  have HW := Lib.hid (fun W (hb : Below w.heap.size w W) => refIsWord_any N1 X ws n W (hx.below hb))
  have HI := Lib.hid (fun W (hb : Below w.heap.size w W) => refIsCopy_any N Y ys n W (hy.below hb))
  have HSc := Lib.hid (fun N3 Z zs W (hb : Below w.heap.size w W) (hz : Rd W .u8 zs N3 Z) (hz6 : ∀ j, j < N3 → Z j < 256) => scoreE_any U Bs v K n a N3 Z N Y zs ys W (h.below hb) hz (hy.below hb) hz6 hy6)
  have HS1 := Lib.hid (fun W (hb : Below w.heap.size w W) => HSc.out N1 X ws W hb (hx.below hb) hx6)
  have hnl : n ≤ 9223372036854775807 := by obtain ⟨_, _, _, h1, h2, _⟩ := h; unfold maxLen at h2; omega
  have HVv := Lib.hid h
  have HX := Lib.hid hx
  have HY := Lib.hid hy
  obtain ⟨A, cp, rfl⟩ : ∃ A c, v = .slice A n c := by obtain ⟨A, c, h, _⟩ := h; exact ⟨_, _, h⟩
  obtain ⟨A1, c1, rfl⟩ : ∃ A c, ws = .slice A N1 c := by obtain ⟨A, c, h, _⟩ := hx; exact ⟨_, _, h⟩
  obtain ⟨A2, c2, rfl⟩ : ∃ A c, ys = .slice A N c := by obtain ⟨A, c, h, _⟩ := hy; exact ⟨_, _, h⟩
  clear h hx hy
  by_cases hs : VS U Bs n a
  · rw [tt_pos hs] at HV
    by_cases hw : IsW N1 X n
    · rw [tt_pos hw] at HW
      by_cases hc : IsC N Y n
      · rw [tt_pos hc] at HI
        obtain rfl : N1 = n := hw.1
        obtain rfl : N = N1 := hc.1
        have hX1 : ∀ j, j < N → X j ≤ 1 := hw.2
        have hY2 : ∀ j, j < N → Y j ≤ 2 := hc.2
        obtain ⟨hn64, _, _, hBs, _, hat⟩ := vs_bounds hs
        have hn0 : 0 < N := by have := hs.1.2.2.2.2.1; omega
        have hb32 : 2 ≤ Bs ∧ Bs ≤ 32 := ⟨hs.1.2.2.1, hs.1.2.2.2.1⟩
        have hab : ∀ j, j < N → 1 ≤ a j ∧ a j < Bs := hs.2
        have hbw : IsW N (beF X Y N) N := ⟨rfl, fun j hj => by have := hX1 j hj; have := hY2 j hj; unfold beF; split <;> omega⟩
        have how : IsW N (otF X N) N := ⟨rfl, fun j hj => by have := hX1 j hj; unfold otF; split <;> omega⟩
        have HS2 := Lib.hid (fun zs W (hb : Below w.heap.size w W) (hz : Rd W .u8 zs N (beF X Y N)) => HSc.out N (beF X Y N) zs W hb hz (fun j hj => by have := hbw.2 j hj; omega))
        have HS3 := Lib.hid (fun zs W (hb : Below w.heap.size w W) (hz : Rd W .u8 zs N (otF X N)) => HSc.out N (otF X N) zs W hb hz (fun j hj => by have := how.2 j hj; omega))
        rw [(st_ok hs hw hc).1, (st_ok hs hw hc).2] at HS1
        rw [(st_ok hs hbw hc).1, (st_ok hs hbw hc).2] at HS2
        rw [(st_ok hs how hc).1, (st_ok hs how hc).2] at HS3
        have e1 := sm_sum (X := X) (Y := Y) hBs hat hX1 hY2 N (Nat.le_refl _)
        have e2 := sm_best (X := X) (Y := Y) hBs hab hX1 hY2 N (Nat.le_refl _)
        have hsl := scN_lt (Bs := Bs.toNat) (a := fun j => (a j).toNat) (x := X) (y := Y) (n := N) (by omega) (fun j hj => by have := hab j hj; show (a j).toNat < 1000; omega) N (Nat.le_refl _)
        have hol := scN_lt (Bs := Bs.toNat) (a := fun j => (a j).toNat) (x := otF X N) (y := Y) (n := N) (by omega) (fun j hj => by have := hab j hj; show (a j).toNat < 1000; omega) N (Nat.le_refl _)
        have HSm := Lib.hid (smS_lt (Y := Y) hb32.2 hab)
        have HAb := Lib.hid hab
        have HX1 := Lib.hid hX1
        have HY2 := Lib.hid hY2
        generalize scN Bs.toNat (fun j => (a j).toNat) X Y N = s at *
        generalize scN Bs.toNat (fun j => (a j).toNat) (beF X Y N) Y N = t at *
        generalize scN Bs.toNat (fun j => (a j).toNat) (otF X N) Y N = ot at *
        have E1 := Lib.hid e1
        have E2 := Lib.hid e2
        clear HSc hw hc hs hbw how hX1 hY2 hat hBs hx6 hy6 e1 e2 hab
        obtain ⟨hb2, hb32⟩ := hb32
        go_enter Tryz.func10, Tryz.ntmps10
        go_wp2_with fail
        refine (alive_any _).mono ?_
        rintro e w1 ⟨rfl, hB⟩
        replace HB := Lib.hid (below_then HB.out hB); replace HS := Lib.hid (HS.out.of_block (hB.block _ HS.out.lt)); clear hB
        have q2 := sc_c2 HS.out
        go_wp2_with (refine wp_load_whole rfl 46 _ rfl w.heap.size rfl 46 19 _ _ _ HS.out rfl (sc_cs _ _ _ _) Tryz.underlying46 rfl sc_size ?_)
        refine (HV.out _ HB.out).mono ?_
        rintro e w3 ⟨rfl, hB⟩
        replace HB := Lib.hid (below_then HB.out hB); replace HS := Lib.hid (HS.out.of_block (hB.block _ HS.out.lt)); clear hB
        go_wp2_with fail
        refine (HW.out _ HB.out).mono ?_
        rintro e w4 ⟨rfl, rfl⟩
        go_wp2_with fail
        refine (HI.out _ HB.out).mono ?_
        rintro e w4 ⟨rfl, rfl⟩
        clear HI HW HV q2
        have HE5 : Hid ((w3.alloc (.cells #[] 5)).ownsRow w3.heap.size 5 1 (.slice (some ⟨w3.heap.size, 0, none⟩) 0 0) 0 []) := World.ownsRow_lit (base := w3.heap.size) (e := 5) (size := 1) w3 #[] 0 (Nat.le_refl _) (by unfold maxLen; omega) rfl
        go_wp2_with (first | (at_builtin; refine wp_app w3.heap.size rfl _ _ 30 5 (.int .u8 0) 1 rfl Tryz.underlying30 infoU8 rfl (by decide) _ [] rfl _ N _ rfl ((HY.out.below (HB.out.alloc HB.out.size (.cells #[] 5))).toV) (fun _ _ => rfl) HE5.out (by simp) (by simp; omega) ?_; intro v5 w5 hown5 hg5; simp only [List.length_nil, Nat.zero_add, List.nil_append] at hown5; have hb5 := below_own ((Below.refl w3.heap.size w3).alloc (Nat.le_refl _) (.cells #[] 5)) HE5.out hg5 (by simp); obtain ⟨g5, cp5, G5, rfl, hgb5, hnc5, hcm5, hrow5, hG5⟩ := own_row hown5 hn0; clear hown5 hg5; have HRb := Lib.hid hrow5; have HGb := Lib.hid hG5; have hglt5 := HRb.out.lt; have hg5 : w.heap.size < g5 := (by have := HS.out.lt; omega); clear hrow5 hG5; replace HB := Lib.hid (below_then HB.out hb5); replace HS := Lib.hid (HS.out.of_block (hb5.block _ HS.out.lt)); clear hb5; have HE6 : Hid ((w5.alloc (.cells #[] 5)).ownsRow w5.heap.size 5 1 (.slice (some ⟨w5.heap.size, 0, none⟩) 0 0) 0 []) := World.ownsRow_lit (base := w5.heap.size) (e := 5) (size := 1) w5 #[] 0 (Nat.le_refl _) (by unfold maxLen; omega) rfl) | (at_builtin; refine wp_app w5.heap.size rfl _ _ 30 5 (.int .u8 0) 1 rfl Tryz.underlying30 infoU8 rfl (by decide) _ [] rfl _ N _ rfl ((HX.out.below (HB.out.alloc HB.out.size (.cells #[] 5))).toV) (fun _ _ => rfl) HE6.out (by simp) (by simp; omega) ?_; intro v6 w6 hown6 hg6; simp only [List.length_nil, Nat.zero_add, List.nil_append] at hown6; have hb6 := below_own ((Below.refl w5.heap.size w5).alloc (Nat.le_refl _) (.cells #[] 5)) HE6.out hg6 (by simp); obtain ⟨g6, cp6, G6, rfl, hgb6, hnc6, hcm6, hrow6, hG6⟩ := own_row hown6 hn0; clear hown6 hg6))
        have HRo := Lib.hid hrow6
        have HGo := Lib.hid hG6
        have hg6 : w.heap.size < g6 := by omega
        have hg56 : g5 ≠ g6 := by omega
        clear hrow6 hG6
        replace HB := Lib.hid (below_then HB.out hb6); replace HS := Lib.hid (HS.out.of_block (hb6.block _ HS.out.lt)); replace HRb := Lib.hid (HRb.out.of_block (hb6.block _ HRb.out.lt)); clear hb6
        obtain ⟨Av, cv, ev, _, _, hcv0⟩ := HVv.out.below HB.out; cases ev
        obtain ⟨Ax, cx, ex, _, _, hcx0⟩ := HX.out.below HB.out; cases ex
        obtain ⟨Ay, cy, ey, _, _, hcy0⟩ := HY.out.below HB.out; cases ey
        obtain ⟨bv, ov, rfl, hcv⟩ := hcv0 hn0
        obtain ⟨bx, ox, rfl, hcx⟩ := hcx0 hn0
        obtain ⟨by', oy, rfl, hcy⟩ := hcy0 hn0
        have hbv : bv < w.heap.size := by obtain ⟨A', c', e', _, _, k⟩ := HVv.out; cases e'; obtain ⟨b', o', e'', k'⟩ := k hn0; cases e''; exact World.block_lt_of_cell? w _ (k' 0 hn0)
        have hbx : bx < w.heap.size := by obtain ⟨A', c', e', _, _, k⟩ := HX.out; cases e'; obtain ⟨b', o', e'', k'⟩ := k hn0; cases e''; exact World.block_lt_of_cell? w _ (k' 0 hn0)
        have hby : by' < w.heap.size := by obtain ⟨A', c', e', _, _, k⟩ := HY.out; cases e'; obtain ⟨b', o', e'', k'⟩ := k hn0; cases e''; exact World.block_lt_of_cell? w _ (k' 0 hn0)
        have HCv := Lib.hid hcv
        have HCx := Lib.hid hcx
        have HCy := Lib.hid hcy
        clear hcv hcx hcy hcv0 hcx0 hcy0
        go_wp2_with fail
        go_loopw [13, 14, 15] (fun s13 s14 s15 wr => ∃ i : Nat, i ≤ N ∧ s15 = .int .i64 i ∧ s13 = .bool (smB X Y i) ∧ s14 = .int .i64 (smS Bs a Y i) ∧ (∃ G1, wr.rowIs g5 5 cp5 G1 ∧ ∀ j, j < N → G1 j = .int .u8 (beF X Y i j)) ∧ (∃ G2, wr.rowIs g6 5 cp6 G2 ∧ ∀ j, j < N → G2 j = .int .u8 (otF X i j)) ∧ wr.rowIs w.heap.size 46 19 (scF U Bs (.slice (some ⟨bv, ov, none⟩) N cp) K) ∧ (∀ j, j < N → wr.cell? ⟨bv, ov + j, none⟩ = some (.int .i64 (a j))) ∧ (∀ j, j < N → wr.cell? ⟨bx, ox + j, none⟩ = some (.int .u8 (X j))) ∧ (∀ j, j < N → wr.cell? ⟨by', oy + j, none⟩ = some (.int .u8 (Y j))) ∧ Below w.heap.size w wr) (fun _ _ s15 _ => N - (intOf s15).toNat)
        case atStart => exact ⟨0, Nat.zero_le _, rfl, rfl, rfl, ⟨_, HRb.out, fun j hj => by rw [HGb.out j hj]; unfold beF; rw [if_neg (by omega)]⟩, ⟨_, HRo.out, fun j hj => by rw [HGo.out j hj]; unfold otF; rw [if_neg (by omega)]⟩, HS.out, HCv.out, HCx.out, HCy.out, HB.out⟩
        case round =>
          clear HRb HGb HRo HGo HS HCv HCx HCy HB
          obtain ⟨i, hi, rfl, rfl, rfl, ⟨G1, hr1, hG1⟩, ⟨G2, hr2, hG2⟩, hsr, hcv, hcx, hcy, hbel⟩ := hrel
          obtain ⟨W0, rfl⟩ : ∃ W0 : World, W0 = wr := ⟨_, rfl⟩
          have HB := Lib.hid hbel
          have HS := Lib.hid hsr
          have HR1 := Lib.hid hr1
          have HR2 := Lib.hid hr2
          have HG1 := Lib.hid hG1
          have HG2 := Lib.hid hG2
          have HCv := Lib.hid hcv
          have HCx := Lib.hid hcx
          have HCy := Lib.hid hcy
          by_cases hlt : i < N
          · have dv := hcv i hlt
            have dx := hcx i hlt
            have dy := hcy i hlt
            have d1 := hr1.cell (i := i) (by omega)
            have d2 := hr2.cell (i := i) (by omega)
            have z1 := hr1.frozen i
            have z2 := hr2.frozen i
            have q1 := sc_c1 hsr
            have q2 := sc_c2 hsr
            have hsm := HSm.out i hi
            have hai := HAb.out i hlt
            have hxi := HX1.out i hlt
            have hyi := HY2.out i hlt
            have HEb : Hid (∀ j, beF X Y (i + 1) j = if j = i ∧ Y i = 2 then X i else beF X Y i j) := fun j => by unfold beF; by_cases hj : j = i <;> (first | subst hj | skip) <;> (repeat' split) <;> (first | rfl | omega)
            have HEo : Hid (∀ j, otF X (i + 1) j = if j = i then 1 - X i else otF X i j) := fun j => by unfold otF; by_cases hj : j = i <;> (first | subst hj | skip) <;> (repeat' split) <;> (first | rfl | omega)
            have HEB : Hid (smB X Y (i + 1) = if Y i = 2 then smB X Y i else (smB X Y i && decide (X i = Y i))) := rfl
            have HES : Hid (smS Bs a Y (i + 1) = if Y i = 2 then smS Bs a Y i else if Y i = 1 then smS Bs a Y i + (Bs - 2 * a i) else smS Bs a Y i + (2 * a i - Bs)) := rfl
            have hne1 : bv ≠ g6 := by omega
            have hne2 : bx ≠ g6 := by omega
            have hne3 : by' ≠ g6 := by omega
            have hne4 : w.heap.size ≠ g6 := by omega
            have hne5 : bv ≠ g5 := by omega
            have hne6 : bx ≠ g5 := by omega
            have hne7 : by' ≠ g5 := by omega
            have hne8 : w.heap.size ≠ g5 := by omega
            have hne9 : g6 ≠ g5 := by omega
            have hlt1 : i < cp5 := by omega
            have hlt2 : i < cp6 := by omega
            generalize G1 i = o1 at *
            generalize G2 i = o2 at *
            generalize smS Bs a Y i = sm at *
            generalize smB X Y i = sb at *
            generalize a i = ai at *
            clear hr1 hr2 hG1 hG2 hsr hcv hcx hcy hbel HSm HAb HX1 HY2
            rcases (show X i = 0 ∨ X i = 1 by omega) with hx | hx
            · have HXi := Lib.hid hx
              rw [hx] at dx
              clear hx hxi
              rcases (show Y i = 0 ∨ Y i = 1 ∨ Y i = 2 by omega) with hy | hy | hy
              · have HYi := Lib.hid hy
                rw [hy] at dy
                clear hy hyi
                cases sb with
                | true =>
                  go_wp2_with fail
                  go_big_quiet (fail)
                  go_wp2_with fail
                  go_big_quiet (fail)
                  go_wp2_with fail
                  go_roundw
                  case rel =>
                    refine ⟨i + 1, by omega, by go_num, by rw [HEB.out, HXi.out, HYi.out]; rfl, by rw [HES.out, HYi.out]; rfl, ?_, ?_, ?_, ?_, ?_, ?_, ?_⟩
                    · have hX := HR1.out.setOther (a := ⟨g6, i, none⟩) (by show g5 ≠ g6; omega) (.int .u8 1)
                      exact ⟨_, hX.of_block ((below_drewN (Below.refl _ (W0.setCell ⟨g6, i, none⟩ (.int .u8 1))) _).block _ hX.lt), fun j hj => by rw [HEb.out j, HYi.out]; simp [HG1.out j hj]⟩
                    · have hX := HR2.out.set i (.int .u8 1)
                      exact ⟨_, hX.of_block ((below_drewN (Below.refl _ (W0.setCell ⟨g6, i, none⟩ (.int .u8 1))) _).block _ hX.lt), fun j hj => by rw [HEo.out j, HXi.out]; by_cases h : j = i <;> simp [h, HG2.out j hj]⟩
                    · have hX := HS.out.setOther (a := ⟨g6, i, none⟩) (by show w.heap.size ≠ g6; omega) (.int .u8 1)
                      exact hX.of_block ((below_drewN (Below.refl _ (W0.setCell ⟨g6, i, none⟩ (.int .u8 1))) _).block _ hX.lt)
                    · intro j hj; refine cell_below (below_drewN (Below.refl _ (W0.setCell ⟨g6, i, none⟩ (.int .u8 1))) _) ?_; rw [World.cell?_setCell_far (h := fun e => hne1 e.symm)]; exact HCv.out j hj
                    · intro j hj; refine cell_below (below_drewN (Below.refl _ (W0.setCell ⟨g6, i, none⟩ (.int .u8 1))) _) ?_; rw [World.cell?_setCell_far (h := fun e => hne2 e.symm)]; exact HCx.out j hj
                    · intro j hj; refine cell_below (below_drewN (Below.refl _ (W0.setCell ⟨g6, i, none⟩ (.int .u8 1))) _) ?_; rw [World.cell?_setCell_far (h := fun e => hne3 e.symm)]; exact HCy.out j hj
                    · exact below_drewN (HB.out.setCell (p := ⟨g6, i, none⟩) (by show w.heap.size ≤ g6; omega) _) _
                  case measure => simp [intOf]; omega
                | false =>
                  go_wp2_with fail
                  go_big_quiet (fail)
                  go_wp2_with fail
                  go_big_quiet (fail)
                  go_wp2_with fail
                  go_roundw
                  case rel =>
                    refine ⟨i + 1, by omega, by go_num, by rw [HEB.out, HXi.out, HYi.out]; rfl, by rw [HES.out, HYi.out]; rfl, ?_, ?_, ?_, ?_, ?_, ?_, ?_⟩
                    · have hX := HR1.out.setOther (a := ⟨g6, i, none⟩) (by show g5 ≠ g6; omega) (.int .u8 1)
                      exact ⟨_, hX.of_block ((below_drewN (Below.refl _ (W0.setCell ⟨g6, i, none⟩ (.int .u8 1))) _).block _ hX.lt), fun j hj => by rw [HEb.out j, HYi.out]; simp [HG1.out j hj]⟩
                    · have hX := HR2.out.set i (.int .u8 1)
                      exact ⟨_, hX.of_block ((below_drewN (Below.refl _ (W0.setCell ⟨g6, i, none⟩ (.int .u8 1))) _).block _ hX.lt), fun j hj => by rw [HEo.out j, HXi.out]; by_cases h : j = i <;> simp [h, HG2.out j hj]⟩
                    · have hX := HS.out.setOther (a := ⟨g6, i, none⟩) (by show w.heap.size ≠ g6; omega) (.int .u8 1)
                      exact hX.of_block ((below_drewN (Below.refl _ (W0.setCell ⟨g6, i, none⟩ (.int .u8 1))) _).block _ hX.lt)
                    · intro j hj; refine cell_below (below_drewN (Below.refl _ (W0.setCell ⟨g6, i, none⟩ (.int .u8 1))) _) ?_; rw [World.cell?_setCell_far (h := fun e => hne1 e.symm)]; exact HCv.out j hj
                    · intro j hj; refine cell_below (below_drewN (Below.refl _ (W0.setCell ⟨g6, i, none⟩ (.int .u8 1))) _) ?_; rw [World.cell?_setCell_far (h := fun e => hne2 e.symm)]; exact HCx.out j hj
                    · intro j hj; refine cell_below (below_drewN (Below.refl _ (W0.setCell ⟨g6, i, none⟩ (.int .u8 1))) _) ?_; rw [World.cell?_setCell_far (h := fun e => hne3 e.symm)]; exact HCy.out j hj
                    · exact below_drewN (HB.out.setCell (p := ⟨g6, i, none⟩) (by show w.heap.size ≤ g6; omega) _) _
                  case measure => simp [intOf]; omega
              · have HYi := Lib.hid hy
                rw [hy] at dy
                clear hy hyi
                cases sb with
                | true =>
                  go_wp2_with fail
                  go_big_quiet (fail)
                  go_wp2_with fail
                  go_big_quiet (fail)
                  go_wp2_with fail
                  go_roundw
                  case rel =>
                    refine ⟨i + 1, by omega, by go_num, by rw [HEB.out, HXi.out, HYi.out]; rfl, by rw [HES.out, HYi.out]; rfl, ?_, ?_, ?_, ?_, ?_, ?_, ?_⟩
                    · have hX := HR1.out.setOther (a := ⟨g6, i, none⟩) (by show g5 ≠ g6; omega) (.int .u8 1)
                      exact ⟨_, hX.of_block ((below_drewN (Below.refl _ (W0.setCell ⟨g6, i, none⟩ (.int .u8 1))) _).block _ hX.lt), fun j hj => by rw [HEb.out j, HYi.out]; simp [HG1.out j hj]⟩
                    · have hX := HR2.out.set i (.int .u8 1)
                      exact ⟨_, hX.of_block ((below_drewN (Below.refl _ (W0.setCell ⟨g6, i, none⟩ (.int .u8 1))) _).block _ hX.lt), fun j hj => by rw [HEo.out j, HXi.out]; by_cases h : j = i <;> simp [h, HG2.out j hj]⟩
                    · have hX := HS.out.setOther (a := ⟨g6, i, none⟩) (by show w.heap.size ≠ g6; omega) (.int .u8 1)
                      exact hX.of_block ((below_drewN (Below.refl _ (W0.setCell ⟨g6, i, none⟩ (.int .u8 1))) _).block _ hX.lt)
                    · intro j hj; refine cell_below (below_drewN (Below.refl _ (W0.setCell ⟨g6, i, none⟩ (.int .u8 1))) _) ?_; rw [World.cell?_setCell_far (h := fun e => hne1 e.symm)]; exact HCv.out j hj
                    · intro j hj; refine cell_below (below_drewN (Below.refl _ (W0.setCell ⟨g6, i, none⟩ (.int .u8 1))) _) ?_; rw [World.cell?_setCell_far (h := fun e => hne2 e.symm)]; exact HCx.out j hj
                    · intro j hj; refine cell_below (below_drewN (Below.refl _ (W0.setCell ⟨g6, i, none⟩ (.int .u8 1))) _) ?_; rw [World.cell?_setCell_far (h := fun e => hne3 e.symm)]; exact HCy.out j hj
                    · exact below_drewN (HB.out.setCell (p := ⟨g6, i, none⟩) (by show w.heap.size ≤ g6; omega) _) _
                  case measure => simp [intOf]; omega
                | false =>
                  go_wp2_with fail
                  go_big_quiet (fail)
                  go_wp2_with fail
                  go_big_quiet (fail)
                  go_wp2_with fail
                  go_roundw
                  case rel =>
                    refine ⟨i + 1, by omega, by go_num, by rw [HEB.out, HXi.out, HYi.out]; rfl, by rw [HES.out, HYi.out]; rfl, ?_, ?_, ?_, ?_, ?_, ?_, ?_⟩
                    · have hX := HR1.out.setOther (a := ⟨g6, i, none⟩) (by show g5 ≠ g6; omega) (.int .u8 1)
                      exact ⟨_, hX.of_block ((below_drewN (Below.refl _ (W0.setCell ⟨g6, i, none⟩ (.int .u8 1))) _).block _ hX.lt), fun j hj => by rw [HEb.out j, HYi.out]; simp [HG1.out j hj]⟩
                    · have hX := HR2.out.set i (.int .u8 1)
                      exact ⟨_, hX.of_block ((below_drewN (Below.refl _ (W0.setCell ⟨g6, i, none⟩ (.int .u8 1))) _).block _ hX.lt), fun j hj => by rw [HEo.out j, HXi.out]; by_cases h : j = i <;> simp [h, HG2.out j hj]⟩
                    · have hX := HS.out.setOther (a := ⟨g6, i, none⟩) (by show w.heap.size ≠ g6; omega) (.int .u8 1)
                      exact hX.of_block ((below_drewN (Below.refl _ (W0.setCell ⟨g6, i, none⟩ (.int .u8 1))) _).block _ hX.lt)
                    · intro j hj; refine cell_below (below_drewN (Below.refl _ (W0.setCell ⟨g6, i, none⟩ (.int .u8 1))) _) ?_; rw [World.cell?_setCell_far (h := fun e => hne1 e.symm)]; exact HCv.out j hj
                    · intro j hj; refine cell_below (below_drewN (Below.refl _ (W0.setCell ⟨g6, i, none⟩ (.int .u8 1))) _) ?_; rw [World.cell?_setCell_far (h := fun e => hne2 e.symm)]; exact HCx.out j hj
                    · intro j hj; refine cell_below (below_drewN (Below.refl _ (W0.setCell ⟨g6, i, none⟩ (.int .u8 1))) _) ?_; rw [World.cell?_setCell_far (h := fun e => hne3 e.symm)]; exact HCy.out j hj
                    · exact below_drewN (HB.out.setCell (p := ⟨g6, i, none⟩) (by show w.heap.size ≤ g6; omega) _) _
                  case measure => simp [intOf]; omega
              · have HYi := Lib.hid hy
                rw [hy] at dy
                clear hy hyi
                cases sb with
                | true =>
                  go_wp2_with fail
                  go_roundw
                  case rel =>
                    refine ⟨i + 1, by omega, by go_num, by rw [HEB.out, HXi.out, HYi.out]; rfl, by rw [HES.out, HYi.out]; rfl, ?_, ?_, ?_, ?_, ?_, ?_, ?_⟩
                    · exact ⟨_, (HR1.out.setOther (fun e => hne9 e.symm) _).set i _, fun j hj => by rw [HEb.out j, HXi.out, HYi.out]; by_cases h : j = i <;> simp [h, HG1.out j hj]⟩
                    · exact ⟨_, (HR2.out.set i _).setOther hne9 _, fun j hj => by rw [HEo.out j, HXi.out]; by_cases h : j = i <;> simp [h, HG2.out j hj]⟩
                    · exact (HS.out.setOther hne4 _).setOther hne8 _
                    · intro j hj; rw [World.cell?_setCell_far (h := fun e => hne5 e.symm), World.cell?_setCell_far (h := fun e => hne1 e.symm)]; exact HCv.out j hj
                    · intro j hj; rw [World.cell?_setCell_far (h := fun e => hne6 e.symm), World.cell?_setCell_far (h := fun e => hne2 e.symm)]; exact HCx.out j hj
                    · intro j hj; rw [World.cell?_setCell_far (h := fun e => hne7 e.symm), World.cell?_setCell_far (h := fun e => hne3 e.symm)]; exact HCy.out j hj
                    · exact (HB.out.setCell (p := ⟨g6, i, none⟩) (by show w.heap.size ≤ g6; omega) _).setCell (p := ⟨g5, i, none⟩) (by show w.heap.size ≤ g5; omega) _
                  case measure => simp [intOf]; omega
                | false =>
                  go_wp2_with fail
                  go_roundw
                  case rel =>
                    refine ⟨i + 1, by omega, by go_num, by rw [HEB.out, HXi.out, HYi.out]; rfl, by rw [HES.out, HYi.out]; rfl, ?_, ?_, ?_, ?_, ?_, ?_, ?_⟩
                    · exact ⟨_, (HR1.out.setOther (fun e => hne9 e.symm) _).set i _, fun j hj => by rw [HEb.out j, HXi.out, HYi.out]; by_cases h : j = i <;> simp [h, HG1.out j hj]⟩
                    · exact ⟨_, (HR2.out.set i _).setOther hne9 _, fun j hj => by rw [HEo.out j, HXi.out]; by_cases h : j = i <;> simp [h, HG2.out j hj]⟩
                    · exact (HS.out.setOther hne4 _).setOther hne8 _
                    · intro j hj; rw [World.cell?_setCell_far (h := fun e => hne5 e.symm), World.cell?_setCell_far (h := fun e => hne1 e.symm)]; exact HCv.out j hj
                    · intro j hj; rw [World.cell?_setCell_far (h := fun e => hne6 e.symm), World.cell?_setCell_far (h := fun e => hne2 e.symm)]; exact HCx.out j hj
                    · intro j hj; rw [World.cell?_setCell_far (h := fun e => hne7 e.symm), World.cell?_setCell_far (h := fun e => hne3 e.symm)]; exact HCy.out j hj
                    · exact (HB.out.setCell (p := ⟨g6, i, none⟩) (by show w.heap.size ≤ g6; omega) _).setCell (p := ⟨g5, i, none⟩) (by show w.heap.size ≤ g5; omega) _
                  case measure => simp [intOf]; omega
            · have HXi := Lib.hid hx
              rw [hx] at dx
              clear hx hxi
              rcases (show Y i = 0 ∨ Y i = 1 ∨ Y i = 2 by omega) with hy | hy | hy
              · have HYi := Lib.hid hy
                rw [hy] at dy
                clear hy hyi
                cases sb with
                | true =>
                  go_wp2_with fail
                  go_big_quiet (fail)
                  go_wp2_with fail
                  go_big_quiet (fail)
                  go_wp2_with fail
                  go_roundw
                  case rel =>
                    refine ⟨i + 1, by omega, by go_num, by rw [HEB.out, HXi.out, HYi.out]; rfl, by rw [HES.out, HYi.out]; rfl, ?_, ?_, ?_, ?_, ?_, ?_, ?_⟩
                    · have hX := HR1.out.setOther (a := ⟨g6, i, none⟩) (by show g5 ≠ g6; omega) (.int .u8 0)
                      exact ⟨_, hX.of_block ((below_drewN (Below.refl _ (W0.setCell ⟨g6, i, none⟩ (.int .u8 0))) _).block _ hX.lt), fun j hj => by rw [HEb.out j, HYi.out]; simp [HG1.out j hj]⟩
                    · have hX := HR2.out.set i (.int .u8 0)
                      exact ⟨_, hX.of_block ((below_drewN (Below.refl _ (W0.setCell ⟨g6, i, none⟩ (.int .u8 0))) _).block _ hX.lt), fun j hj => by rw [HEo.out j, HXi.out]; by_cases h : j = i <;> simp [h, HG2.out j hj]⟩
                    · have hX := HS.out.setOther (a := ⟨g6, i, none⟩) (by show w.heap.size ≠ g6; omega) (.int .u8 0)
                      exact hX.of_block ((below_drewN (Below.refl _ (W0.setCell ⟨g6, i, none⟩ (.int .u8 0))) _).block _ hX.lt)
                    · intro j hj; refine cell_below (below_drewN (Below.refl _ (W0.setCell ⟨g6, i, none⟩ (.int .u8 0))) _) ?_; rw [World.cell?_setCell_far (h := fun e => hne1 e.symm)]; exact HCv.out j hj
                    · intro j hj; refine cell_below (below_drewN (Below.refl _ (W0.setCell ⟨g6, i, none⟩ (.int .u8 0))) _) ?_; rw [World.cell?_setCell_far (h := fun e => hne2 e.symm)]; exact HCx.out j hj
                    · intro j hj; refine cell_below (below_drewN (Below.refl _ (W0.setCell ⟨g6, i, none⟩ (.int .u8 0))) _) ?_; rw [World.cell?_setCell_far (h := fun e => hne3 e.symm)]; exact HCy.out j hj
                    · exact below_drewN (HB.out.setCell (p := ⟨g6, i, none⟩) (by show w.heap.size ≤ g6; omega) _) _
                  case measure => simp [intOf]; omega
                | false =>
                  go_wp2_with fail
                  go_big_quiet (fail)
                  go_wp2_with fail
                  go_big_quiet (fail)
                  go_wp2_with fail
                  go_roundw
                  case rel =>
                    refine ⟨i + 1, by omega, by go_num, by rw [HEB.out, HXi.out, HYi.out]; rfl, by rw [HES.out, HYi.out]; rfl, ?_, ?_, ?_, ?_, ?_, ?_, ?_⟩
                    · have hX := HR1.out.setOther (a := ⟨g6, i, none⟩) (by show g5 ≠ g6; omega) (.int .u8 0)
                      exact ⟨_, hX.of_block ((below_drewN (Below.refl _ (W0.setCell ⟨g6, i, none⟩ (.int .u8 0))) _).block _ hX.lt), fun j hj => by rw [HEb.out j, HYi.out]; simp [HG1.out j hj]⟩
                    · have hX := HR2.out.set i (.int .u8 0)
                      exact ⟨_, hX.of_block ((below_drewN (Below.refl _ (W0.setCell ⟨g6, i, none⟩ (.int .u8 0))) _).block _ hX.lt), fun j hj => by rw [HEo.out j, HXi.out]; by_cases h : j = i <;> simp [h, HG2.out j hj]⟩
                    · have hX := HS.out.setOther (a := ⟨g6, i, none⟩) (by show w.heap.size ≠ g6; omega) (.int .u8 0)
                      exact hX.of_block ((below_drewN (Below.refl _ (W0.setCell ⟨g6, i, none⟩ (.int .u8 0))) _).block _ hX.lt)
                    · intro j hj; refine cell_below (below_drewN (Below.refl _ (W0.setCell ⟨g6, i, none⟩ (.int .u8 0))) _) ?_; rw [World.cell?_setCell_far (h := fun e => hne1 e.symm)]; exact HCv.out j hj
                    · intro j hj; refine cell_below (below_drewN (Below.refl _ (W0.setCell ⟨g6, i, none⟩ (.int .u8 0))) _) ?_; rw [World.cell?_setCell_far (h := fun e => hne2 e.symm)]; exact HCx.out j hj
                    · intro j hj; refine cell_below (below_drewN (Below.refl _ (W0.setCell ⟨g6, i, none⟩ (.int .u8 0))) _) ?_; rw [World.cell?_setCell_far (h := fun e => hne3 e.symm)]; exact HCy.out j hj
                    · exact below_drewN (HB.out.setCell (p := ⟨g6, i, none⟩) (by show w.heap.size ≤ g6; omega) _) _
                  case measure => simp [intOf]; omega
              · have HYi := Lib.hid hy
                rw [hy] at dy
                clear hy hyi
                cases sb with
                | true =>
                  go_wp2_with fail
                  go_big_quiet (fail)
                  go_wp2_with fail
                  go_big_quiet (fail)
                  go_wp2_with fail
                  go_roundw
                  case rel =>
                    refine ⟨i + 1, by omega, by go_num, by rw [HEB.out, HXi.out, HYi.out]; rfl, by rw [HES.out, HYi.out]; rfl, ?_, ?_, ?_, ?_, ?_, ?_, ?_⟩
                    · have hX := HR1.out.setOther (a := ⟨g6, i, none⟩) (by show g5 ≠ g6; omega) (.int .u8 0)
                      exact ⟨_, hX.of_block ((below_drewN (Below.refl _ (W0.setCell ⟨g6, i, none⟩ (.int .u8 0))) _).block _ hX.lt), fun j hj => by rw [HEb.out j, HYi.out]; simp [HG1.out j hj]⟩
                    · have hX := HR2.out.set i (.int .u8 0)
                      exact ⟨_, hX.of_block ((below_drewN (Below.refl _ (W0.setCell ⟨g6, i, none⟩ (.int .u8 0))) _).block _ hX.lt), fun j hj => by rw [HEo.out j, HXi.out]; by_cases h : j = i <;> simp [h, HG2.out j hj]⟩
                    · have hX := HS.out.setOther (a := ⟨g6, i, none⟩) (by show w.heap.size ≠ g6; omega) (.int .u8 0)
                      exact hX.of_block ((below_drewN (Below.refl _ (W0.setCell ⟨g6, i, none⟩ (.int .u8 0))) _).block _ hX.lt)
                    · intro j hj; refine cell_below (below_drewN (Below.refl _ (W0.setCell ⟨g6, i, none⟩ (.int .u8 0))) _) ?_; rw [World.cell?_setCell_far (h := fun e => hne1 e.symm)]; exact HCv.out j hj
                    · intro j hj; refine cell_below (below_drewN (Below.refl _ (W0.setCell ⟨g6, i, none⟩ (.int .u8 0))) _) ?_; rw [World.cell?_setCell_far (h := fun e => hne2 e.symm)]; exact HCx.out j hj
                    · intro j hj; refine cell_below (below_drewN (Below.refl _ (W0.setCell ⟨g6, i, none⟩ (.int .u8 0))) _) ?_; rw [World.cell?_setCell_far (h := fun e => hne3 e.symm)]; exact HCy.out j hj
                    · exact below_drewN (HB.out.setCell (p := ⟨g6, i, none⟩) (by show w.heap.size ≤ g6; omega) _) _
                  case measure => simp [intOf]; omega
                | false =>
                  go_wp2_with fail
                  go_big_quiet (fail)
                  go_wp2_with fail
                  go_big_quiet (fail)
                  go_wp2_with fail
                  go_roundw
                  case rel =>
                    refine ⟨i + 1, by omega, by go_num, by rw [HEB.out, HXi.out, HYi.out]; rfl, by rw [HES.out, HYi.out]; rfl, ?_, ?_, ?_, ?_, ?_, ?_, ?_⟩
                    · have hX := HR1.out.setOther (a := ⟨g6, i, none⟩) (by show g5 ≠ g6; omega) (.int .u8 0)
                      exact ⟨_, hX.of_block ((below_drewN (Below.refl _ (W0.setCell ⟨g6, i, none⟩ (.int .u8 0))) _).block _ hX.lt), fun j hj => by rw [HEb.out j, HYi.out]; simp [HG1.out j hj]⟩
                    · have hX := HR2.out.set i (.int .u8 0)
                      exact ⟨_, hX.of_block ((below_drewN (Below.refl _ (W0.setCell ⟨g6, i, none⟩ (.int .u8 0))) _).block _ hX.lt), fun j hj => by rw [HEo.out j, HXi.out]; by_cases h : j = i <;> simp [h, HG2.out j hj]⟩
                    · have hX := HS.out.setOther (a := ⟨g6, i, none⟩) (by show w.heap.size ≠ g6; omega) (.int .u8 0)
                      exact hX.of_block ((below_drewN (Below.refl _ (W0.setCell ⟨g6, i, none⟩ (.int .u8 0))) _).block _ hX.lt)
                    · intro j hj; refine cell_below (below_drewN (Below.refl _ (W0.setCell ⟨g6, i, none⟩ (.int .u8 0))) _) ?_; rw [World.cell?_setCell_far (h := fun e => hne1 e.symm)]; exact HCv.out j hj
                    · intro j hj; refine cell_below (below_drewN (Below.refl _ (W0.setCell ⟨g6, i, none⟩ (.int .u8 0))) _) ?_; rw [World.cell?_setCell_far (h := fun e => hne2 e.symm)]; exact HCx.out j hj
                    · intro j hj; refine cell_below (below_drewN (Below.refl _ (W0.setCell ⟨g6, i, none⟩ (.int .u8 0))) _) ?_; rw [World.cell?_setCell_far (h := fun e => hne3 e.symm)]; exact HCy.out j hj
                    · exact below_drewN (HB.out.setCell (p := ⟨g6, i, none⟩) (by show w.heap.size ≤ g6; omega) _) _
                  case measure => simp [intOf]; omega
              · have HYi := Lib.hid hy
                rw [hy] at dy
                clear hy hyi
                cases sb with
                | true =>
                  go_wp2_with fail
                  go_roundw
                  case rel =>
                    refine ⟨i + 1, by omega, by go_num, by rw [HEB.out, HXi.out, HYi.out]; rfl, by rw [HES.out, HYi.out]; rfl, ?_, ?_, ?_, ?_, ?_, ?_, ?_⟩
                    · exact ⟨_, (HR1.out.setOther (fun e => hne9 e.symm) _).set i _, fun j hj => by rw [HEb.out j, HXi.out, HYi.out]; by_cases h : j = i <;> simp [h, HG1.out j hj]⟩
                    · exact ⟨_, (HR2.out.set i _).setOther hne9 _, fun j hj => by rw [HEo.out j, HXi.out]; by_cases h : j = i <;> simp [h, HG2.out j hj]⟩
                    · exact (HS.out.setOther hne4 _).setOther hne8 _
                    · intro j hj; rw [World.cell?_setCell_far (h := fun e => hne5 e.symm), World.cell?_setCell_far (h := fun e => hne1 e.symm)]; exact HCv.out j hj
                    · intro j hj; rw [World.cell?_setCell_far (h := fun e => hne6 e.symm), World.cell?_setCell_far (h := fun e => hne2 e.symm)]; exact HCx.out j hj
                    · intro j hj; rw [World.cell?_setCell_far (h := fun e => hne7 e.symm), World.cell?_setCell_far (h := fun e => hne3 e.symm)]; exact HCy.out j hj
                    · exact (HB.out.setCell (p := ⟨g6, i, none⟩) (by show w.heap.size ≤ g6; omega) _).setCell (p := ⟨g5, i, none⟩) (by show w.heap.size ≤ g5; omega) _
                  case measure => simp [intOf]; omega
                | false =>
                  go_wp2_with fail
                  go_roundw
                  case rel =>
                    refine ⟨i + 1, by omega, by go_num, by rw [HEB.out, HXi.out, HYi.out]; rfl, by rw [HES.out, HYi.out]; rfl, ?_, ?_, ?_, ?_, ?_, ?_, ?_⟩
                    · exact ⟨_, (HR1.out.setOther (fun e => hne9 e.symm) _).set i _, fun j hj => by rw [HEb.out j, HXi.out, HYi.out]; by_cases h : j = i <;> simp [h, HG1.out j hj]⟩
                    · exact ⟨_, (HR2.out.set i _).setOther hne9 _, fun j hj => by rw [HEo.out j, HXi.out]; by_cases h : j = i <;> simp [h, HG2.out j hj]⟩
                    · exact (HS.out.setOther hne4 _).setOther hne8 _
                    · intro j hj; rw [World.cell?_setCell_far (h := fun e => hne5 e.symm), World.cell?_setCell_far (h := fun e => hne1 e.symm)]; exact HCv.out j hj
                    · intro j hj; rw [World.cell?_setCell_far (h := fun e => hne6 e.symm), World.cell?_setCell_far (h := fun e => hne2 e.symm)]; exact HCx.out j hj
                    · intro j hj; rw [World.cell?_setCell_far (h := fun e => hne7 e.symm), World.cell?_setCell_far (h := fun e => hne3 e.symm)]; exact HCy.out j hj
                    · exact (HB.out.setCell (p := ⟨g6, i, none⟩) (by show w.heap.size ≤ g6; omega) _).setCell (p := ⟨g5, i, none⟩) (by show w.heap.size ≤ g5; omega) _
                  case measure => simp [intOf]; omega
          · obtain rfl : i = N := by omega
            have HZb := Lib.hid (rd_of_rowc hr1 hnc5 hcm5 hG1)
            have HZo := Lib.hid (rd_of_rowc hr2 hnc6 hcm6 hG2)
            clear hr1 hr2 hG1 hG2 hsr hcv hcx hcy hbel HSm HAb HX1 HY2 HR1 HR2 HG1 HG2
            go_wp2_with (refine wp_load_whole rfl 46 _ rfl w.heap.size rfl 46 19 _ _ _ HS.out rfl (sc_cs _ _ _ _) Tryz.underlying46 rfl sc_size ?_)
            refine (HS1.out _ HB.out).mono ?_
            rintro e w7 ⟨rfl, hB⟩
            replace HB := Lib.hid (below_then HB.out hB); replace HS := Lib.hid (HS.out.of_block (hB.block _ HS.out.lt)); replace HZb := Lib.hid (HZb.out.below hB); replace HZo := Lib.hid (HZo.out.below hB); clear hB
            go_wp2_with (refine wp_load_whole rfl 46 _ rfl w.heap.size rfl 46 19 _ _ _ HS.out rfl (sc_cs _ _ _ _) Tryz.underlying46 rfl sc_size ?_)
            refine (HS2.out _ _ HB.out HZb.out).mono ?_
            rintro e w8 ⟨rfl, hB⟩
            replace HB := Lib.hid (below_then HB.out hB); replace HS := Lib.hid (HS.out.of_block (hB.block _ HS.out.lt)); replace HZo := Lib.hid (HZo.out.below hB); clear hB
            go_wp2_with (refine wp_load_whole rfl 46 _ rfl w.heap.size rfl 46 19 _ _ _ HS.out rfl (sc_cs _ _ _ _) Tryz.underlying46 rfl sc_size ?_)
            refine (HS3.out _ _ HB.out HZo.out).mono ?_
            rintro e w9 ⟨rfl, hB⟩
            replace HB := Lib.hid (below_then HB.out hB); clear hB
            have f1 : decide (s ≤ t) = true := decide_eq_true E2.out.1
            have f2 : (s == t) = smB X Y i := by
              have h2 := E2.out.2
              cases hh : smB X Y i
              · rw [hh] at h2; simp at h2; exact beq_eq_false_iff_ne.2 h2
              · rw [hh] at h2; simp at h2; rw [h2]; simp
            have f3 := E1.out
            have f4 := E2.out.1
            generalize smS Bs a Y i = sm at *
            generalize smB X Y i = sb at *
            subst f3
            subst f2
            go_wp2_with fail
            go_ret
            exact ⟨by simp, HB.out⟩
      · rw [tt_neg hc] at HI
        have he : stE U Bs n a N1 X N Y = 71 := by unfold stE; rw [tt_pos hs, if_pos rfl, tt_neg (fun h => hc h.2)]; rfl
        rw [he] at HS1
        generalize stS U Bs n a N1 X N Y = sS at *
        clear HSc HVv HX HY hx6 hy6
        go_enter Tryz.func10, Tryz.ntmps10
        go_wp2_with fail
        refine (alive_any _).mono ?_
        rintro e w1 ⟨rfl, hB⟩
        replace HB := Lib.hid (below_then HB.out hB); replace HS := Lib.hid (HS.out.of_block (hB.block _ HS.out.lt)); clear hB
        have q2 := sc_c2 HS.out
        go_wp2_with (refine wp_load_whole rfl 46 _ rfl w.heap.size rfl 46 19 _ _ _ HS.out rfl (sc_cs _ _ _ _) Tryz.underlying46 rfl sc_size ?_)
        refine (HV.out _ HB.out).mono ?_
        rintro e w3 ⟨rfl, hB⟩
        replace HB := Lib.hid (below_then HB.out hB); replace HS := Lib.hid (HS.out.of_block (hB.block _ HS.out.lt)); clear hB
        go_wp2_with fail
        refine (HW.out _ HB.out).mono ?_
        rintro e w4 ⟨rfl, rfl⟩
        go_wp2_with fail
        refine (HI.out _ HB.out).mono ?_
        rintro e w4 ⟨rfl, rfl⟩
        go_wp2_with (refine wp_load_whole rfl 46 _ rfl w.heap.size rfl 46 19 _ _ _ HS.out rfl (sc_cs _ _ _ _) Tryz.underlying46 rfl sc_size ?_)
        refine (HS1.out _ HB.out).mono ?_
        rintro e w5 ⟨rfl, hB⟩
        replace HB := Lib.hid (below_then HB.out hB); replace HS := Lib.hid (HS.out.of_block (hB.block _ HS.out.lt)); clear hB
        go_wp2_with fail
        go_ret
        exact ⟨rfl, HB.out⟩
    · rw [tt_neg hw] at HW
      have he : stE U Bs n a N1 X N Y = 71 := by unfold stE; rw [tt_pos hs, if_pos rfl, tt_neg (fun h => hw h.1)]; rfl
      rw [he] at HS1
      generalize stS U Bs n a N1 X N Y = sS at *
      clear HSc HVv HX HY hx6 hy6
      go_enter Tryz.func10, Tryz.ntmps10
      go_wp2_with fail
      refine (alive_any _).mono ?_
      rintro e w1 ⟨rfl, hB⟩
      replace HB := Lib.hid (below_then HB.out hB); replace HS := Lib.hid (HS.out.of_block (hB.block _ HS.out.lt)); clear hB
      have q2 := sc_c2 HS.out
      go_wp2_with (refine wp_load_whole rfl 46 _ rfl w.heap.size rfl 46 19 _ _ _ HS.out rfl (sc_cs _ _ _ _) Tryz.underlying46 rfl sc_size ?_)
      refine (HV.out _ HB.out).mono ?_
      rintro e w3 ⟨rfl, hB⟩
      replace HB := Lib.hid (below_then HB.out hB); replace HS := Lib.hid (HS.out.of_block (hB.block _ HS.out.lt)); clear hB
      go_wp2_with fail
      refine (HW.out _ HB.out).mono ?_
      rintro e w4 ⟨rfl, rfl⟩
      go_wp2_with (refine wp_load_whole rfl 46 _ rfl w.heap.size rfl 46 19 _ _ _ HS.out rfl (sc_cs _ _ _ _) Tryz.underlying46 rfl sc_size ?_)
      refine (HS1.out _ HB.out).mono ?_
      rintro e w5 ⟨rfl, hB⟩
      replace HB := Lib.hid (below_then HB.out hB); replace HS := Lib.hid (HS.out.of_block (hB.block _ HS.out.lt)); clear hB
      go_wp2_with fail
      go_ret
      exact ⟨rfl, HB.out⟩
  · rw [tt_neg hs] at HV
    have he : stE U Bs n a N1 X N Y = 70 := by unfold stE; rw [tt_neg hs]; rfl
    rw [he] at HS1
    generalize stS U Bs n a N1 X N Y = sS at *
    clear HSc HVv HX HY hx6 hy6
    go_enter Tryz.func10, Tryz.ntmps10
    go_wp2_with fail
    refine (alive_any _).mono ?_
    rintro e w1 ⟨rfl, hB⟩
    replace HB := Lib.hid (below_then HB.out hB); replace HS := Lib.hid (HS.out.of_block (hB.block _ HS.out.lt)); clear hB
    have q2 := sc_c2 HS.out
    go_wp2_with (refine wp_load_whole rfl 46 _ rfl w.heap.size rfl 46 19 _ _ _ HS.out rfl (sc_cs _ _ _ _) Tryz.underlying46 rfl sc_size ?_)
    refine (HV.out _ HB.out).mono ?_
    rintro e w3 ⟨rfl, hB⟩
    replace HB := Lib.hid (below_then HB.out hB); replace HS := Lib.hid (HS.out.of_block (hB.block _ HS.out.lt)); clear hB
    go_wp2_with (refine wp_load_whole rfl 46 _ rfl w.heap.size rfl 46 19 _ _ _ HS.out rfl (sc_cs _ _ _ _) Tryz.underlying46 rfl sc_size ?_)
    refine (HS1.out _ HB.out).mono ?_
    rintro e w5 ⟨rfl, hB⟩
    replace HB := Lib.hid (below_then HB.out hB); replace HS := Lib.hid (HS.out.of_block (hB.block _ HS.out.lt)); clear hB
    go_wp2_with fail
    go_ret
    exact ⟨rfl, HB.out⟩
end Go.Proofs.YtmbokpfgnicboaaGreat
