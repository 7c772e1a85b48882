import Derived.Test.YtmbokpfgnicboaaGreatV5
set_option linter.unusedVariables false
set_option linter.unusedSimpArgs false
/- The walks of package number: fractions added. -/
namespace Go.Proofs.YtmbokpfgnicboaaGreat
open Go.RowKit Go.Hd Go.Sort _root_.Hd
set_option exponentiation.threshold 2000

set_option maxRecDepth 100000 in
set_option maxHeartbeats 1000000 in
theorem crossFr_nt (a b m n : Nat) (v u lv lu : Value) (b2 b3 : Nat) (w : World) (hv : Nt w v a) (hu : Nt w u b) (hlv : Nt w lv m) (hlu : Nt w lu n) (hr2 : w.rowIs b2 27 2 (fun i => if i = 0 then v else u)) (hr3 : w.rowIs b3 27 2 (fun i => if i = 0 then lv else lu)) (ha : a < Lim) (hb : b < Lim) (hm : m < Lim) (hn : n < Lim) (hb0 : 0 < b) (hn0 : 0 < n) (hg : Nat.gcd a b = 1) (hg2 : Nat.gcd m n = 1) (hx : a * n < Lim) (hy : m * b < Lim) (hs : a * n + m * b < Lim) (hbn : b * n < Lim) :
    Calls Tryz.prog 115 #[.agg #[v, u], .agg #[lv, lu], .func (.func 116) #[] #[.pointer (some ⟨b2, 0, none⟩), .pointer (some ⟨b3, 0, none⟩)]] w (Fr2Post ((a * n + m * b) / Nat.gcd (a * n + m * b) (b * n)) (b * n / Nat.gcd (a * n + m * b) (b * n)) w) := by
  have hal := ((Below.refl _ w).alloc (Nat.le_refl _) (.cells #[v, u] 27)).alloc (by simp) (.cells #[lv, lu] 27)
  have hal3 := hal.alloc hal.size (.cells #[.slice none 0 0, .slice none 0 0] 27)
  have HA := Lib.hid hal3
  have HR := Lib.hid (((row2 w v u 27).alloc (.cells #[lv, lu] 27)).alloc (.cells #[.slice none 0 0, .slice none 0 0] 27))
  have HR2 : Hid ((((w.alloc (.cells #[v, u] 27)).alloc (.cells #[lv, lu] 27)).alloc (.cells #[.slice none 0 0, .slice none 0 0] 27)).rowIs (w.heap.size + 1) 27 2 (fun i => if i = 0 then lv else lu)) := by
    have h := (row2 (w.alloc (.cells #[v, u] 27)) lv lu 27).alloc (.cells #[.slice none 0 0, .slice none 0 0] 27)
    rw [World.size_alloc] at h
    exact h
  have HZ : Hid ((((w.alloc (.cells #[v, u] 27)).alloc (.cells #[lv, lu] 27)).alloc (.cells #[.slice none 0 0, .slice none 0 0] 27)).rowIs (w.heap.size + 1 + 1) 27 2 (fun i => if i = 0 then .slice none 0 0 else .slice none 0 0)) := by
    have h := row2 ((w.alloc (.cells #[v, u] 27)).alloc (.cells #[lv, lu] 27)) (.slice none 0 0) (.slice none 0 0) 27
    rw [World.size_alloc, World.size_alloc] at h
    exact h
  have HC1 := Lib.hid (fun W (h : Below w.heap.size w W) => check_nt a b v u W (hv.below h) (hu.below h) ha hb hb0 hg)
  have HC2 := Lib.hid (fun W (h : Below w.heap.size w W) => check_nt m n lv lu W (hlv.below h) (hlu.below h) hm hn hn0 hg2)
  have HM1 := Lib.hid (fun W (h : Below w.heap.size w W) => times_nt a n v lu W (hv.below h) (hlu.below h) (lim_big ha) (lim_big hn))
  have HM2 := Lib.hid (fun W (h : Below w.heap.size w W) => times_nt m b lv u W (hlv.below h) (hu.below h) (lim_big hm) (lim_big hb))
  have HDo := Lib.hid (fun W p q (h : Below w.heap.size w W) (hp : Nt W p (a * n)) (hq : Nt W q (m * b)) => addDo_nt (a * n) (m * b) b n p q v u lv lu b2 b3 W hp hq (hu.below h) (hlu.below h) (hr2.of_block (h.block _ hr2.lt)) (hr3.of_block (h.block _ hr3.lt)) hx hy hs hb hn hbn (Nat.mul_pos hb0 hn0))
  obtain ⟨A, nn, c, rfl⟩ := hv.shape
  obtain ⟨A2, n2, c2, rfl⟩ := hu.shape
  obtain ⟨A3, n3, c3, rfl⟩ := hlv.shape
  obtain ⟨A4, n4, c4, rfl⟩ := hlu.shape
  clear hv hu hlv hlu ha hb hm hn hb0 hn0 hg hg2 hal hal3 hx hy hs hbn hr2 hr3
  generalize (a * n + m * b) / Nat.gcd (a * n + m * b) (b * n) = r1' at *
  generalize b * n / Nat.gcd (a * n + m * b) (b * n) = r2' at *
  generalize a * n = x at *
  generalize m * b = y at *
  go_enter Tryz.func115, Tryz.ntmps115
  have q0 := fr_c0 HR.out
  have q1 := fr_c1 HR.out
  have q2 := fr_c0 HR2.out
  have q3 := fr_c1 HR2.out
  go_wp2_with fail
  refine (HC1.out _ HA.out).mono ?_
  rintro e w1 ⟨rfl, hB⟩
  replace HA := Lib.hid (below_then HA.out hB); replace HR := Lib.hid (HR.out.of_block (hB.block _ HR.out.lt)); replace HR2 := Lib.hid (HR2.out.of_block (hB.block _ HR2.out.lt)); replace HZ := Lib.hid (HZ.out.of_block (hB.block _ HZ.out.lt)); clear hB
  have q0 := fr_c0 HR.out
  have q1 := fr_c1 HR.out
  have q2 := fr_c0 HR2.out
  have q3 := fr_c1 HR2.out
  go_wp2_with fail
  refine (HC2.out _ HA.out).mono ?_
  rintro e w2 ⟨rfl, hB⟩
  replace HA := Lib.hid (below_then HA.out hB); replace HR := Lib.hid (HR.out.of_block (hB.block _ HR.out.lt)); replace HR2 := Lib.hid (HR2.out.of_block (hB.block _ HR2.out.lt)); replace HZ := Lib.hid (HZ.out.of_block (hB.block _ HZ.out.lt)); clear hB
  have q0 := fr_c0 HR.out
  have q1 := fr_c1 HR.out
  have q2 := fr_c0 HR2.out
  have q3 := fr_c1 HR2.out
  have hn2 : w.heap.size + 1 + 1 ≠ w.heap.size := by omega
  have hn3 : w.heap.size + 1 + 1 ≠ w.heap.size + 1 := by omega
  go_upto_region 3 with fail
  go_cut [6, 7] (fun s6 s7 wx => s6 = .pointer (some ⟨w.heap.size + 1 + 1, 0, none⟩) ∧ s7 = .int .i64 0 ∧ ∃ p q wm, Hid (Nt wm p r1') ∧ Hid (Nt wm q r2') ∧ Hid (Below w2.heap.size w2 wm) ∧ wx = (wm.setCell ⟨w.heap.size + 1 + 1, 0, none⟩ p).setCell ⟨w.heap.size + 1 + 1, 1, none⟩ q)
  case first =>
    go_region_held3 (fun w' => w'.cell? ⟨w.heap.size, 0, none⟩ = some (.slice A nn c) ∧ w'.cell? ⟨w.heap.size, 1, none⟩ = some (.slice A2 n2 c2) ∧ w'.cell? ⟨w.heap.size + 1, 0, none⟩ = some (.slice A3 n3 c3) ∧ w'.cell? ⟨w.heap.size + 1, 1, none⟩ = some (.slice A4 n4 c4)) (first | go_keep | exact ⟨cell_below hD.out q0, cell_below hD.out q1, cell_below hD.out q2, cell_below hD.out q3⟩ | exact ⟨by rw [World.cell?_setCell_far (h := hn2), World.cell?_setCell_far (h := hn2)]; exact cell_below hD.out q0, by rw [World.cell?_setCell_far (h := hn2), World.cell?_setCell_far (h := hn2)]; exact cell_below hD.out q1, by rw [World.cell?_setCell_far (h := hn3), World.cell?_setCell_far (h := hn3)]; exact cell_below hD.out q2, by rw [World.cell?_setCell_far (h := hn3), World.cell?_setCell_far (h := hn3)]; exact cell_below hD.out q3⟩)
      (first
        | (go_at_call_of 118 (Value.slice A nn c); refine (HM1.out _ (by first | exact below_then HA.out hD.out | exact HA.out.drew)).mono ?_; rintro e wa ⟨p, rfl, hp, hBa⟩; obtain ⟨Ap, np, cp, rfl⟩ := hp.shape; have hD := Lib.hid (below_then (w := w2) (by first | exact hD.out | exact (Below.refl _ _).drew) hBa); have Hp := Lib.hid hp; (try have Hq := Lib.hid (Hq.out.below hBa)); clear hp hBa)
        | (go_at_call_of 118 (Value.slice A3 n3 c3); refine (HM2.out _ (by first | exact below_then HA.out hD.out | exact HA.out.drew)).mono ?_; rintro e wb ⟨q, rfl, hq, hBb⟩; obtain ⟨Aq, nq, cq, rfl⟩ := hq.shape; have hD := Lib.hid (below_then (w := w2) (by first | exact hD.out | exact (Below.refl _ _).drew) hBb); have Hq := Lib.hid hq; (try have Hp := Lib.hid (Hp.out.below hBb)); clear hq hBb)
        | (go_at_call 116; refine (HDo.out _ _ _ (below_then HA.out hD.out) Hp.out Hq.out).mono ?_; rintro e wz ⟨v5, u5, rfl, hN5, hM5, hBz⟩; obtain ⟨A5, n5, c5, rfl⟩ := hN5.shape; obtain ⟨A6, n6, c6, rfl⟩ := hM5.shape; have hD := Lib.hid (below_then hD.out hBz); have HN5 := Lib.hid hN5; have HM5 := Lib.hid hM5; have r0 : wz.cell? ⟨w.heap.size + 1 + 1, 0, none⟩ = some (.slice none 0 0) := (HZ.out.of_block (hD.out.block _ HZ.out.lt)).cell (i := 0) (by omega); have r1 : wz.cell? ⟨w.heap.size + 1 + 1, 1, none⟩ = some (.slice none 0 0) := (HZ.out.of_block (hD.out.block _ HZ.out.lt)).cell (i := 1) (by omega); have z0 := (HZ.out.of_block (hD.out.block _ HZ.out.lt)).frozen 0; have z1 := (HZ.out.of_block (hD.out.block _ HZ.out.lt)).frozen 1; clear hN5 hM5 hBz))
    all_goals
      go_wp2_with fail
      go_meet
      case rel => exact ⟨rfl, rfl, _, _, _, HN5.out, HM5.out, hD.out, rfl⟩
  case rest =>
    obtain ⟨rfl, rfl, p, q, wm, hp, hq, hbm, rfl⟩ := hcut
    obtain ⟨A5, n5, c5, rfl⟩ := hp.out.shape
    obtain ⟨A6, n6, c6, rfl⟩ := hq.out.shape
    have HZ2 := Lib.hid (HZ.out.of_block (hbm.out.block _ HZ.out.lt))
    have r0 : wm.cell? ⟨w.heap.size + 1 + 1, 0, none⟩ = some (.slice none 0 0) := HZ2.out.cell (i := 0) (by omega)
    have r1 : wm.cell? ⟨w.heap.size + 1 + 1, 1, none⟩ = some (.slice none 0 0) := HZ2.out.cell (i := 1) (by omega)
    go_wp2_with fail
    refine bodyPost_ret (v := .tuple #[.agg #[.slice A5 n5 c5, .slice A6 n6 c6], .int .i64 0]) ?_ rfl ⟨_, _, rfl, ?_, ?_, ?_⟩
    · simp [results, Tryz.f115, go_sem, r0, r1]
    · exact nt_over2 hp.out r0 r1 (by omega) _ _
    · exact nt_over2 hq.out r0 r1 (by omega) _ _
    · exact ((below_then HA.out hbm.out).setCell (p := ⟨w.heap.size + 1 + 1, 0, none⟩) (by show w.heap.size ≤ w.heap.size + 1 + 1; omega) _).setCell (p := ⟨w.heap.size + 1 + 1, 1, none⟩) (by show w.heap.size ≤ w.heap.size + 1 + 1; omega) _

set_option maxRecDepth 100000 in
theorem bounded_nt (m n : Nat) (v u : Value) (w : World) (hv : Nt w v m) (hu : Nt w u n) (hm : m < Lim) (hn : n < Lim) :
    Calls Tryz.prog 114 #[.agg #[v, u], .int .i64 0] w (Fr2Post m n w) := by
  have hal := ((Below.refl _ w).alloc (Nat.le_refl _) (.cells #[v, u] 27)).alloc (by simp) (.cells #[.slice none 0 0, .slice none 0 0] 27)
  have HA := Lib.hid hal
  have HR := Lib.hid ((row2 w v u 27).alloc (.cells #[.slice none 0 0, .slice none 0 0] 27))
  have HZ : Hid (((w.alloc (.cells #[v, u] 27)).alloc (.cells #[.slice none 0 0, .slice none 0 0] 27)).rowIs (w.heap.size + 1) 27 2 (fun i => if i = 0 then .slice none 0 0 else .slice none 0 0)) := by
    have h := row2 (w.alloc (.cells #[v, u] 27)) (.slice none 0 0) (.slice none 0 0) 27
    rw [World.size_alloc] at h
    exact h
  have hal2 := ((Below.refl _ w).alloc (Nat.le_refl _) (.cells #[v, u] 27)).alloc (by simp) (.cells #[v, u] 27)
  have HV := Lib.hid (hv.below hal2)
  have HU := Lib.hid (hu.below hal2)
  have HA2 := Lib.hid hal2
  obtain ⟨k, f, h1, h2, h3⟩ := hv
  obtain ⟨l, g, k1, k2, k3⟩ := hu
  have hk : k ≤ 16 := (h2.len_le_iff 16).2 (by rw [h3]; exact hm)
  have hl : l ≤ 16 := (k2.len_le_iff 16).2 (by rw [k3]; exact hn)
  obtain ⟨A, c, rfl, _, _, g1⟩ := h1
  obtain ⟨A2, c2, rfl, _, _, g2⟩ := k1
  clear g1 g2 hal hal2 h2 h3 k2 k3 hm hn
  have q0 := fr_c0 HR.out
  have q1 := fr_c1 HR.out
  have r0 := fr_c0 HZ.out
  have r1 := fr_c1 HZ.out
  have z0 := HZ.out.frozen 0
  have z1 := HZ.out.frozen 1
  go_enter Tryz.func114, Tryz.ntmps114
  go_wp2_with fail
  refine bodyPost_ret (v := .tuple #[.agg #[.slice A k c, .slice A2 l c2], .int .i64 0]) ?_ rfl ⟨_, _, rfl, ?_, ?_, ?_⟩
  · simp [results, Tryz.f114, go_sem, r0, r1]
  · exact HV.out
  · exact HU.out
  · exact HA2.out

set_option maxRecDepth 100000 in
/-- Fractions added. -/
theorem addFr_nt (a b m n : Nat) (v u lv lu : Value) (w : World) (hv : Nt w v a) (hu : Nt w u b) (hlv : Nt w lv m) (hlu : Nt w lu n) (ha : a < Lim) (hb : b < Lim) (hm : m < Lim) (hn : n < Lim) (hb0 : 0 < b) (hn0 : 0 < n) (hg : Nat.gcd a b = 1) (hg2 : Nat.gcd m n = 1) (hx : a * n < Lim) (hy : m * b < Lim) (hs : a * n + m * b < Lim) (hbn : b * n < Lim) :
    Calls Tryz.prog 61 #[.agg #[v, u], .agg #[lv, lu]] w (Fr2Post ((a * n + m * b) / Nat.gcd (a * n + m * b) (b * n)) (b * n / Nat.gcd (a * n + m * b) (b * n)) w) := by
  have hal := ((Below.refl _ w).alloc (Nat.le_refl _) (.cells #[v, u] 27)).alloc (by simp) (.cells #[lv, lu] 27)
  have hal3 := hal.alloc hal.size (.cells #[.slice none 0 0, .slice none 0 0] 27)
  have HA := Lib.hid hal3
  have HR := Lib.hid (((row2 w v u 27).alloc (.cells #[lv, lu] 27)).alloc (.cells #[.slice none 0 0, .slice none 0 0] 27))
  have HR2 : Hid ((((w.alloc (.cells #[v, u] 27)).alloc (.cells #[lv, lu] 27)).alloc (.cells #[.slice none 0 0, .slice none 0 0] 27)).rowIs (w.heap.size + 1) 27 2 (fun i => if i = 0 then lv else lu)) := by
    have h := (row2 (w.alloc (.cells #[v, u] 27)) lv lu 27).alloc (.cells #[.slice none 0 0, .slice none 0 0] 27)
    rw [World.size_alloc] at h
    exact h
  have HZ : Hid ((((w.alloc (.cells #[v, u] 27)).alloc (.cells #[lv, lu] 27)).alloc (.cells #[.slice none 0 0, .slice none 0 0] 27)).rowIs (w.heap.size + 1 + 1) 27 2 (fun i => if i = 0 then .slice none 0 0 else .slice none 0 0)) := by
    have h := row2 ((w.alloc (.cells #[v, u] 27)).alloc (.cells #[lv, lu] 27)) (.slice none 0 0) (.slice none 0 0) 27
    rw [World.size_alloc, World.size_alloc] at h
    exact h
  have HC := Lib.hid (crossFr_nt a b m n v u lv lu _ _ _ (hv.below hal3) (hu.below hal3) (hlv.below hal3) (hlu.below hal3) HR.out HR2.out ha hb hm hn hb0 hn0 hg hg2 hx hy hs hbn)
  have hG : 0 < Nat.gcd (a * n + m * b) (b * n) := Nat.gcd_pos_of_pos_right _ (Nat.mul_pos hb0 hn0)
  have HBd := Lib.hid (fun W p q (h1 : Nt W p ((a * n + m * b) / Nat.gcd (a * n + m * b) (b * n))) (h2 : Nt W q (b * n / Nat.gcd (a * n + m * b) (b * n))) => bounded_nt _ _ p q W h1 h2 (Nat.lt_of_le_of_lt (Nat.div_le_self _ _) hs) (Nat.lt_of_le_of_lt (Nat.div_le_self _ _) hbn))
  obtain ⟨A, nn, c, rfl⟩ := hv.shape
  obtain ⟨A2, n2, c2, rfl⟩ := hu.shape
  obtain ⟨A3, n3, c3, rfl⟩ := hlv.shape
  obtain ⟨A4, n4, c4, rfl⟩ := hlu.shape
  have hmf : ∀ (fn : Fn) (first cap : Array Value) (w : World), (Instr.makeFunc fn first cap).run Tryz.prog w = .ok (.func fn first cap) w := fun _ _ _ _ => rfl
  clear hv hu hlv hlu ha hb hm hn hb0 hn0 hg hg2 hal hal3 hx hy hs hbn hG
  generalize (a * n + m * b) / Nat.gcd (a * n + m * b) (b * n) = r1' at *
  generalize b * n / Nat.gcd (a * n + m * b) (b * n) = r2' at *
  have q0 := fr_c0 HR.out
  have q1 := fr_c1 HR.out
  have q2 := fr_c0 HR2.out
  have q3 := fr_c1 HR2.out
  go_enter Tryz.func61, Tryz.ntmps61
  go_wp2_with fail
  refine HC.out.mono ?_
  rintro e w1 ⟨v1, u1, rfl, hN, hM, hB⟩
  replace HA := Lib.hid (below_then HA.out hB); replace HZ := Lib.hid (HZ.out.of_block (hB.block _ HZ.out.lt)); clear hB
  have HN := Lib.hid hN
  have HM := Lib.hid hM
  obtain ⟨A5, n5, c5, rfl⟩ := hN.shape
  obtain ⟨A6, n6, c6, rfl⟩ := hM.shape
  clear hN hM
  go_wp2_with fail
  refine (HBd.out _ _ _ HN.out HM.out).mono ?_
  rintro e w2 ⟨v2, u2, rfl, hN, hM, hB⟩
  replace HA := Lib.hid (below_then HA.out hB); replace HZ := Lib.hid (HZ.out.of_block (hB.block _ HZ.out.lt)); clear hB
  replace HN := Lib.hid hN
  replace HM := Lib.hid hM
  obtain ⟨A7, n7, c7, rfl⟩ := hN.shape
  obtain ⟨A8, n8, c8, rfl⟩ := hM.shape
  clear hN hM
  have r0 := fr_c0 HZ.out
  have r1 := fr_c1 HZ.out
  have z0 := HZ.out.frozen 0
  have z1 := HZ.out.frozen 1
  go_wp2_with fail
  refine bodyPost_ret (v := .tuple #[.agg #[.slice A7 n7 c7, .slice A8 n8 c8], .int .i64 0]) ?_ rfl ⟨_, _, rfl, ?_, ?_, ?_⟩
  · simp [results, Tryz.f61, go_sem, r0, r1]
  · exact nt_over2 HN.out r0 r1 (by omega) _ _
  · exact nt_over2 HM.out r0 r1 (by omega) _ _
  · exact (HA.out.setCell (p := ⟨w.heap.size + 1 + 1, 0, none⟩) (by show w.heap.size ≤ w.heap.size + 1 + 1; omega) _).setCell (p := ⟨w.heap.size + 1 + 1, 1, none⟩) (by show w.heap.size ≤ w.heap.size + 1 + 1; omega) _
end Go.Proofs.YtmbokpfgnicboaaGreat
