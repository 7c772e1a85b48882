import Derived.Test.YtmbokpfgnicboaaGreatVa
set_option linter.unusedVariables false
set_option linter.unusedSimpArgs false
/- The walks of package number: fractions added. -/
namespace Go.Proofs.YtmbokpfgnicboaaGreat
open Go.RowKit Go.Hd Go.Sort _root_.Hd
set_option exponentiation.threshold 2000

theorem plus_nt (a b : Nat) (v u : Value) (w : World) (hv : Nt w v a) (hu : Nt w u b) (ha : a < Big) (hb : b < Big) : Calls Tryz.prog 117 #[v, u] w (NtPost (a + b) w) := by
  obtain ⟨n, f, h1, h2, h3⟩ := hv
  obtain ⟨m, g, k1, k2, k3⟩ := hu
  have := len_big h2 (h3 ▸ ha)
  have := len_big k2 (k3 ▸ hb)
  have h := plus_any n m f g v u w h1 k1 h2.lt k2.lt (by omega) (by omega)
  rw [h3, k3] at h
  exact h

set_option maxRecDepth 100000 in
set_option maxHeartbeats 1000000 in
/-- What AddFractions does with the cross products. -/
theorem addDo_nt (x y b n : Nat) (pv qv fv fu gv gu : Value) (b2 b3 : Nat) (w : World) (hp : Nt w pv x) (hq : Nt w qv y) (hu : Nt w fu b) (hlu : Nt w gu n) (hr2 : w.rowIs b2 27 2 (fun i => if i = 0 then fv else fu)) (hr3 : w.rowIs b3 27 2 (fun i => if i = 0 then gv else gu))
    (hx : x < Lim) (hy : y < Lim) (hs : x + y < Lim) (hb : b < Lim) (hn : n < Lim) (hbn : b * n < Lim) (h0 : 0 < b * n) :
    Calls Tryz.prog 116 #[pv, qv, .pointer (some ⟨b2, 0, none⟩), .pointer (some ⟨b3, 0, none⟩)] w (FrPost ((x + y) / Nat.gcd (x + y) (b * n)) (b * n / Nat.gcd (x + y) (b * n)) w) := by
  have hlt2 := hr2.lt
  have hlt3 := hr3.lt
  have hal := (Below.refl _ w).alloc (Nat.le_refl _) (.cells #[.slice none 0 0, .slice none 0 0] 27)
  have HR2 := Lib.hid (hr2.of_block (hal.block _ hlt2))
  have HR3 := Lib.hid (hr3.of_block (hal.block _ hlt3))
  have HZ := Lib.hid (row2 w (.slice none 0 0) (.slice none 0 0) 27)
  have HA := Lib.hid hal
  have HP := Lib.hid (fun W (h : Below w.heap.size w W) => plus_nt x y pv qv W (hp.below h) (hq.below h) (lim_big hx) (lim_big hy))
  have HT := Lib.hid (fun W (h : Below w.heap.size w W) => times_nt b n fu gu W (hu.below h) (hlu.below h) (lim_big hb) (lim_big hn))
  have HL := Lib.hid (fun W p q (h1 : Nt W p (x + y)) (h2 : Nt W q (b * n)) => lowest_nt (x + y) (b * n) p q W h1 h2 (lim_big hs) (lim_big hbn) h0)
  obtain ⟨A, nn, c, rfl⟩ := hp.shape
  obtain ⟨A2, n2, c2, rfl⟩ := hq.shape
  obtain ⟨A3, n3, c3, rfl⟩ := hu.shape
  obtain ⟨A4, n4, c4, rfl⟩ := hlu.shape
  clear hp hq hu hlu hr2 hr3 hx hy hs hb hn hbn h0 hal
  generalize (x + y) / Nat.gcd (x + y) (b * n) = r1' at *
  generalize b * n / Nat.gcd (x + y) (b * n) = r2' at *
  generalize x + y = s at *
  generalize b * n = t at *
  have q0 : (w.alloc (.cells #[.slice none 0 0, .slice none 0 0] 27)).cell? ⟨b2, 1, none⟩ = some (.slice A3 n3 c3) := HR2.out.cell (i := 1) (by omega)
  have q1 : (w.alloc (.cells #[.slice none 0 0, .slice none 0 0] 27)).cell? ⟨b3, 1, none⟩ = some (.slice A4 n4 c4) := HR3.out.cell (i := 1) (by omega)
  have hn2 : w.heap.size ≠ b2 := by omega
  have hn3 : w.heap.size ≠ b3 := by omega
  go_enter Tryz.func116, Tryz.ntmps116
  go_wp2_with fail
  generalize hW0 : w.alloc (.cells #[.slice none 0 0, .slice none 0 0] 27) = W0 at *
  clear hW0
  go_upto_region 1 with fail
  go_cut [6] (fun s6 wx => s6 = .pointer (some ⟨w.heap.size, 0, none⟩) ∧ ∃ p q wm, Hid (Nt wm p r1') ∧ Hid (Nt wm q r2') ∧ Hid (Below W0.heap.size W0 wm) ∧ wx = (wm.setCell ⟨w.heap.size, 0, none⟩ p).setCell ⟨w.heap.size, 1, none⟩ q)
  case first =>
    go_region_held3 (fun w' => w'.cell? ⟨b2, 1, none⟩ = some (.slice A3 n3 c3) ∧ w'.cell? ⟨b3, 1, none⟩ = some (.slice A4 n4 c4)) (first | go_keep | exact ⟨cell_below hD.out q0, cell_below hD.out q1⟩ | exact ⟨by rw [World.cell?_setCell_far (h := hn2), World.cell?_setCell_far (h := hn2)]; exact cell_below hD.out q0, by rw [World.cell?_setCell_far (h := hn3), World.cell?_setCell_far (h := hn3)]; exact cell_below hD.out q1⟩)
      (first
        | (go_at_call 117; refine (HP.out _ (by first | exact below_then HA.out hD.out | exact HA.out.drew)).mono ?_; rintro e wa ⟨p, rfl, hp, hBa⟩; obtain ⟨Ap, np, cp, rfl⟩ := hp.shape; have hD := Lib.hid (below_then (w := W0) (by first | exact hD.out | exact (Below.refl _ _).drew) hBa); have Hp := Lib.hid hp; (try have Hq := Lib.hid (Hq.out.below hBa)); clear hp hBa)
        | (go_at_call 118; refine (HT.out _ (by first | exact below_then HA.out hD.out | exact HA.out.drew)).mono ?_; rintro e wb ⟨q, rfl, hq, hBb⟩; obtain ⟨Aq, nq, cq, rfl⟩ := hq.shape; have hD := Lib.hid (below_then (w := W0) (by first | exact hD.out | exact (Below.refl _ _).drew) hBb); have Hq := Lib.hid hq; (try have Hp := Lib.hid (Hp.out.below hBb)); clear hq hBb)
        | (go_at_call 112; refine (HL.out _ _ _ Hp.out Hq.out).mono ?_; rintro e wz ⟨v5, u5, rfl, hN5, hM5, hBz⟩; obtain ⟨A5, n5, c5, rfl⟩ := hN5.shape; obtain ⟨A6, n6, c6, rfl⟩ := hM5.shape; have hD := Lib.hid (below_then hD.out hBz); have HN5 := Lib.hid hN5; have HM5 := Lib.hid hM5; have r0 : wz.cell? ⟨w.heap.size, 0, none⟩ = some (.slice none 0 0) := (HZ.out.of_block (hD.out.block _ HZ.out.lt)).cell (i := 0) (by omega); have r1 : wz.cell? ⟨w.heap.size, 1, none⟩ = some (.slice none 0 0) := (HZ.out.of_block (hD.out.block _ HZ.out.lt)).cell (i := 1) (by omega); have z0 := (HZ.out.of_block (hD.out.block _ HZ.out.lt)).frozen 0; have z1 := (HZ.out.of_block (hD.out.block _ HZ.out.lt)).frozen 1; clear hN5 hM5 hBz))
    all_goals
      go_wp2_with fail
      go_meet
      case rel => exact ⟨rfl, _, _, _, HN5.out, HM5.out, hD.out, rfl⟩
  case rest =>
    obtain ⟨rfl, p, q, wm, hp, hq, hbm, rfl⟩ := hcut
    obtain ⟨A5, n5, c5, rfl⟩ := hp.out.shape
    obtain ⟨A6, n6, c6, rfl⟩ := hq.out.shape
    have HZ2 := Lib.hid (HZ.out.of_block (hbm.out.block _ HZ.out.lt))
    have r0 : wm.cell? ⟨w.heap.size, 0, none⟩ = some (.slice none 0 0) := HZ2.out.cell (i := 0) (by omega)
    have r1 : wm.cell? ⟨w.heap.size, 1, none⟩ = some (.slice none 0 0) := HZ2.out.cell (i := 1) (by omega)
    go_wp2_with fail
    refine bodyPost_ret (v := .agg #[.slice A5 n5 c5, .slice A6 n6 c6]) ?_ rfl ⟨_, _, rfl, ?_, ?_, ?_⟩
    · simp [results, Tryz.f116, go_sem, r0, r1]
    · exact nt_over2 hp.out r0 r1 (by omega) _ _
    · exact nt_over2 hq.out r0 r1 (by omega) _ _
    · exact ((below_then HA.out hbm.out).setCell (p := ⟨w.heap.size, 0, none⟩) (Nat.le_refl _) _).setCell (p := ⟨w.heap.size, 1, none⟩) (Nat.le_refl _) _
end Go.Proofs.YtmbokpfgnicboaaGreat
