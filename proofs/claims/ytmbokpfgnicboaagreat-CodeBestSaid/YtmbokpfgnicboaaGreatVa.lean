import Derived.Test.YtmbokpfgnicboaaGreatYa
set_option linter.unusedVariables false
set_option linter.unusedSimpArgs false
/- The walks of package number: fractions compared. -/
namespace Go.Proofs.YtmbokpfgnicboaaGreat
open Go.RowKit Go.Hd Go.Sort _root_.Hd
set_option exponentiation.threshold 2000

theorem times_nt (a b : Nat) (v u : Value) (w : World) (hv : Nt w v a) (hu : Nt w u b) (ha : a < Big) (hb : b < Big) : Calls Tryz.prog 118 #[v, u] w (NtPost (a * b) w) := by
  obtain ⟨n, f, h1, h2, h3⟩ := hv
  obtain ⟨m, g, k1, k2, k3⟩ := hu
  have := len_big h2 (h3 ▸ ha)
  have := len_big k2 (k3 ▸ hb)
  have h := times_any n m f g v u w h1 k1 h2.lt k2.lt (by omega) (by omega)
  rw [h3, k3] at h
  exact h

/-- Canonical numbers that share nothing are a valid fraction. -/
theorem check_nt (a b : Nat) (v u : Value) (w : World) (hv : Nt w v a) (hu : Nt w u b) (ha : a < Lim) (hb : b < Lim) (hb0 : 0 < b) (hg : Nat.gcd a b = 1) :
    Calls Tryz.prog 123 #[.agg #[v, u]] w fun e w' => e = .returned (.int .i64 0) ∧ Below w.heap.size w w' := by
  obtain ⟨n, f, h1, h2, h3⟩ := hv
  obtain ⟨m, g, k1, k2, k3⟩ := hu
  have hm0 : 0 < m := by
    rcases Nat.eq_zero_or_pos m with h | h
    · subst h; simp [val] at k3; omega
    · exact h
  have h := checkFraction_any n m f g v u w h1 k1 h2.lt k2.lt
  rw [vfE_yes ⟨(bad_canon h2).2 (h3 ▸ ha), (bad_canon k2).2 (k3 ▸ hb), hm0, by rw [h3, k3]; exact hg⟩] at h
  exact h

set_option maxRecDepth 100000 in
set_option maxHeartbeats 1000000 in
theorem crossInt_nt (a b m n : Nat) (v u lv lu : Value) (w : World) (hv : Nt w v a) (hu : Nt w u b) (hlv : Nt w lv m) (hlu : Nt w lu n) (ha : a < Lim) (hb : b < Lim) (hm : m < Lim) (hn : n < Lim) (hb0 : 0 < b) (hn0 : 0 < n) (hg : Nat.gcd a b = 1) (hg2 : Nat.gcd m n = 1) :
    Calls Tryz.prog 88 #[.agg #[v, u], .agg #[lv, lu], .func (.func 89) #[] #[]] w fun e w' => e = .returned (.tuple #[.int .i64 (ord (a * n) (m * b)), .int .i64 0]) ∧ Below w.heap.size w w' := by
  have hal := (Below.refl _ w).alloc (Nat.le_refl _) (.cells #[v, u] 27)
  have hal2 := hal.alloc hal.size (.cells #[lv, lu] 27)
  have HA := Lib.hid hal2
  have HR := Lib.hid ((row2 w v u 27).alloc (.cells #[lv, lu] 27))
  have HR2 := Lib.hid (row2 (w.alloc (.cells #[v, u] 27)) lv lu 27)
  rw [World.size_alloc] at HR2
  have HC1 := Lib.hid (fun W (h : Below w.heap.size w W) => check_nt a b v u W (hv.below h) (hu.below h) ha hb hb0 hg)
  have HC2 := Lib.hid (fun W (h : Below w.heap.size w W) => check_nt m n lv lu W (hlv.below h) (hlu.below h) hm hn hn0 hg2)
  have HM1 := Lib.hid (fun W (h : Below w.heap.size w W) => times_nt a n v lu W (hv.below h) (hlu.below h) (lim_big ha) (lim_big hn))
  have HM2 := Lib.hid (fun W (h : Below w.heap.size w W) => times_nt m b lv u W (hlv.below h) (hu.below h) (lim_big hm) (lim_big hb))
  have HCm := Lib.hid (fun W p q (hp : Nt W p (a * n)) (hq : Nt W q (m * b)) => order_nt (a * n) (m * b) p q W hp hq)
  obtain ⟨A, nn, c, rfl⟩ := hv.shape
  obtain ⟨A2, n2, c2, rfl⟩ := hu.shape
  obtain ⟨A3, n3, c3, rfl⟩ := hlv.shape
  obtain ⟨A4, n4, c4, rfl⟩ := hlu.shape
  clear hv hu hlv hlu ha hb hm hn hb0 hn0 hg hg2 hal hal2
  generalize a * n = x at *
  generalize m * b = y at *
  have q0 : ((w.alloc (.cells #[.slice A nn c, .slice A2 n2 c2] 27)).alloc (.cells #[.slice A3 n3 c3, .slice A4 n4 c4] 27)).cell? ⟨w.heap.size, 0, none⟩ = some (.slice A nn c) := HR.out.cell (i := 0) (by omega)
  have q1 : ((w.alloc (.cells #[.slice A nn c, .slice A2 n2 c2] 27)).alloc (.cells #[.slice A3 n3 c3, .slice A4 n4 c4] 27)).cell? ⟨w.heap.size, 1, none⟩ = some (.slice A2 n2 c2) := HR.out.cell (i := 1) (by omega)
  have q2 : ((w.alloc (.cells #[.slice A nn c, .slice A2 n2 c2] 27)).alloc (.cells #[.slice A3 n3 c3, .slice A4 n4 c4] 27)).cell? ⟨w.heap.size + 1, 0, none⟩ = some (.slice A3 n3 c3) := HR2.out.cell (i := 0) (by omega)
  have q3 : ((w.alloc (.cells #[.slice A nn c, .slice A2 n2 c2] 27)).alloc (.cells #[.slice A3 n3 c3, .slice A4 n4 c4] 27)).cell? ⟨w.heap.size + 1, 1, none⟩ = some (.slice A4 n4 c4) := HR2.out.cell (i := 1) (by omega)
  go_enter Tryz.func88, Tryz.ntmps88
  go_wp2_with fail
  generalize hW0 : (w.alloc (.cells #[.slice A nn c, .slice A2 n2 c2] 27)).alloc (.cells #[.slice A3 n3 c3, .slice A4 n4 c4] 27) = W0 at *
  clear hW0
  refine (HC1.out _ HA.out).mono ?_
  rintro e w1 ⟨rfl, hB1⟩
  have HD1 := Lib.hid (below_then HA.out hB1)
  have q0 := cell_below hB1 q0
  have q1 := cell_below hB1 q1
  have q2 := cell_below hB1 q2
  have q3 := cell_below hB1 q3
  clear hB1
  go_wp2_with fail
  refine (HC2.out _ HD1.out).mono ?_
  rintro e w2 ⟨rfl, hB2⟩
  have HD2 := Lib.hid (below_then HD1.out hB2)
  have q0 := cell_below hB2 q0
  have q1 := cell_below hB2 q1
  have q2 := cell_below hB2 q2
  have q3 := cell_below hB2 q3
  clear hB2
  go_upto_region 3 with fail
  go_region_held3 (fun w' => w'.cell? ⟨w.heap.size, 0, none⟩ = some (.slice A nn c) ∧ w'.cell? ⟨w.heap.size, 1, none⟩ = some (.slice A2 n2 c2) ∧ w'.cell? ⟨w.heap.size + 1, 0, none⟩ = some (.slice A3 n3 c3) ∧ w'.cell? ⟨w.heap.size + 1, 1, none⟩ = some (.slice A4 n4 c4)) (first | go_keep | exact ⟨cell_below hD.out q0, cell_below hD.out q1, cell_below hD.out q2, cell_below hD.out q3⟩)
    (first
      | (go_at_call_of 118 (Value.slice A nn c); refine (HM1.out _ (by first | exact below_then HD2.out hD.out | exact HD2.out.drew)).mono ?_; rintro e wa ⟨p, rfl, hp, hBa⟩; obtain ⟨Ap, np, cp, rfl⟩ := hp.shape; have hD := Lib.hid (below_then (w := w2) (by first | exact hD.out | exact (Below.refl _ _).drew) hBa); have Hp := Lib.hid hp; (try have Hq := Lib.hid (Hq.out.below hBa)); clear hp hBa)
      | (go_at_call_of 118 (Value.slice A3 n3 c3); refine (HM2.out _ (by first | exact below_then HD2.out hD.out | exact HD2.out.drew)).mono ?_; rintro e wb ⟨q, rfl, hq, hBb⟩; obtain ⟨Aq, nq, cq, rfl⟩ := hq.shape; have hD := Lib.hid (below_then (w := w2) (by first | exact hD.out | exact (Below.refl _ _).drew) hBb); have Hq := Lib.hid hq; (try have Hp := Lib.hid (Hp.out.below hBb)); clear hq hBb)
      | (go_at_call 89; refine (HCm.out _ _ _ Hp.out Hq.out).mono ?_; rintro e wz ⟨rfl, hBz⟩; have hD := Lib.hid (below_then hD.out hBz); clear hBz))
  all_goals
    go_wp2_with fail
    exact bodyPost_ret (v := .tuple #[.int .i64 (ord x y), .int .i64 0]) (by simp [results, Tryz.f88, go_sem]) rfl ⟨rfl, below_then HD2.out hD.out⟩

set_option maxRecDepth 100000 in
/-- Fractions compared. -/
theorem compareFr_nt (a b m n : Nat) (v u lv lu : Value) (w : World) (hv : Nt w v a) (hu : Nt w u b) (hlv : Nt w lv m) (hlu : Nt w lu n) (ha : a < Lim) (hb : b < Lim) (hm : m < Lim) (hn : n < Lim) (hb0 : 0 < b) (hn0 : 0 < n) (hg : Nat.gcd a b = 1) (hg2 : Nat.gcd m n = 1) :
    Calls Tryz.prog 37 #[.agg #[v, u], .agg #[lv, lu]] w fun e w' => e = .returned (.tuple #[.int .i64 (ord (a * n) (m * b)), .int .i64 0]) ∧ Below w.heap.size w w' := by
  have hal := (Below.refl _ w).alloc (Nat.le_refl _) (.cells #[v, u] 27)
  have hal2 := hal.alloc hal.size (.cells #[lv, lu] 27)
  have HA := Lib.hid hal2
  have HC := Lib.hid (crossInt_nt a b m n v u lv lu _ (hv.below hal2) (hu.below hal2) (hlv.below hal2) (hlu.below hal2) ha hb hm hn hb0 hn0 hg hg2)
  obtain ⟨A, nn, c, rfl⟩ := hv.shape
  obtain ⟨A2, n2, c2, rfl⟩ := hu.shape
  obtain ⟨A3, n3, c3, rfl⟩ := hlv.shape
  obtain ⟨A4, n4, c4, rfl⟩ := hlu.shape
  clear hv hu hlv hlu ha hb hm hn hb0 hn0 hg hg2 hal hal2
  go_enter Tryz.func37, Tryz.ntmps37
  go_wp2_with fail
  refine HC.out.mono ?_
  rintro e w1 ⟨rfl, hB1⟩
  have HD1 := Lib.hid (below_then HA.out hB1)
  clear hB1
  go_wp2_with fail
  exact bodyPost_ret (v := .tuple #[.int .i64 (ord (a * n) (m * b)), .int .i64 0]) (by simp [results, Tryz.f37, go_sem]) rfl ⟨rfl, HD1.out⟩
end Go.Proofs.YtmbokpfgnicboaaGreat

/- The walks of the laws: what many of them share. -/
namespace Go.Proofs.YtmbokpfgnicboaaGreat
open Go.RowKit Go.Hd Go.Sort _root_.Hd
set_option exponentiation.threshold 2000

theorem st_c0 {w : World} {b : Nat} {t : TypeId} {U Bk : Int} {K : Nat → Nat} {lv lu : Value} (h : w.rowIs b t 20 (stF U Bk K lv lu)) : w.cell? ⟨b, 0, none⟩ = some (.int .i64 U) := h.cell (i := 0) (by omega)
theorem st_c1 {w : World} {b : Nat} {t : TypeId} {U Bk : Int} {K : Nat → Nat} {lv lu : Value} (h : w.rowIs b t 20 (stF U Bk K lv lu)) : w.cell? ⟨b, 1, none⟩ = some (.int .i64 Bk) := h.cell (i := 1) (by omega)
theorem st_c18 {w : World} {b : Nat} {t : TypeId} {U Bk : Int} {K : Nat → Nat} {lv lu : Value} (h : w.rowIs b t 20 (stF U Bk K lv lu)) : w.cell? ⟨b, 18, none⟩ = some lv := h.cell (i := 18) (by omega)
theorem st_c19 {w : World} {b : Nat} {t : TypeId} {U Bk : Int} {K : Nat → Nat} {lv lu : Value} (h : w.rowIs b t 20 (stF U Bk K lv lu)) : w.cell? ⟨b, 19, none⟩ = some lu := h.cell (i := 19) (by omega)
theorem fr_c0 {w : World} {b : Nat} {t : TypeId} {x y : Value} (h : w.rowIs b t 2 (fun i => if i = 0 then x else y)) : w.cell? ⟨b, 0, none⟩ = some x := h.cell (i := 0) (by omega)
theorem fr_c1 {w : World} {b : Nat} {t : TypeId} {x y : Value} (h : w.rowIs b t 2 (fun i => if i = 0 then x else y)) : w.cell? ⟨b, 1, none⟩ = some y := h.cell (i := 1) (by omega)

theorem ord_scale {g a b : Nat} (hg : 0 < g) : ord (g * a) (g * b) = ord a b := by
  unfold ord
  have h1 : g * a < g * b ↔ a < b := Nat.mul_lt_mul_left hg
  have h2 : g * b < g * a ↔ b < a := Nat.mul_lt_mul_left hg
  simp only [h1, h2]
theorem ord_low {S A m n : Nat} (hA : 0 < A) : ord (S / Nat.gcd S A * n) (m * (A / Nat.gcd S A)) = ord (S * n) (m * A) := by
  have hg : 0 < Nat.gcd S A := Nat.gcd_pos_of_pos_right _ hA
  rw [← ord_scale hg, ← Nat.mul_assoc, Nat.mul_div_cancel' (Nat.gcd_dvd_left _ _), Nat.mul_left_comm, Nat.mul_div_cancel' (Nat.gcd_dvd_right _ _)]

/-- A fraction in lowest terms, compared with a limit. -/
theorem compareLim (S A n m : Nat) (f g : Nat → Nat) (v u lv lu : Value) (w : World) (hv : Nt w v (S / Nat.gcd S A)) (hu : Nt w u (A / Nat.gcd S A)) (hS : S < Lim) (hA : A < Lim) (hA0 : 0 < A) (hlv : Rd w .u32 lv n f) (hlu : Rd w .u32 lu m g) (hf : ∀ j, j < n → f j < B) (hg : ∀ j, j < m → g j < B) (hl : VL n f m g) :
    Calls Tryz.prog 37 #[.agg #[v, u], .agg #[lv, lu]] w fun e w' => e = .returned (.tuple #[.int .i64 (ord (S * val g m) (val f n * A)), .int .i64 0]) ∧ Below w.heap.size w w' := by
  obtain ⟨c1, c2, l1, l2⟩ := vf_canon hl.1 hf hg
  have hg0 : 0 < Nat.gcd S A := Nat.gcd_pos_of_pos_right _ hA0
  have h := compareFr_nt (S / Nat.gcd S A) (A / Nat.gcd S A) (val f n) (val g m) v u lv lu w hv hu ⟨_, _, hlv, c1, rfl⟩ ⟨_, _, hlu, c2, rfl⟩ (Nat.lt_of_le_of_lt (Nat.div_le_self _ _) hS) (Nat.lt_of_le_of_lt (Nat.div_le_self _ _) hA) l1 l2 (Nat.div_pos (Nat.le_of_dvd hA0 (Nat.gcd_dvd_right _ _)) hg0) (by have := hl.2.2.2; omega) (Nat.gcd_div_gcd_div_gcd_of_pos_right hA0) hl.1.2.2.2
  rw [ord_low hA0] at h
  exact h

theorem tl_ok {d k x : Int} (h : TlOk d k x) : tlE d k x = 0 ∧ tlN d k x = tlS d k x / Nat.gcd (tlS d k x) (tlA d) ∧ tlD d k x = tlA d / Nat.gcd (tlS d k x) (tlA d) := by
  unfold tlE tlN tlD
  rw [tt_pos h, if_pos rfl, if_pos rfl, if_pos rfl]
  exact ⟨rfl, rfl, rfl⟩
theorem tlA_pos {d : Int} : 0 < tlA d := choose_pos (by omega)
theorem tlS_le {d k x : Int} (h : TlOk d k x) : tlS d k x ≤ tlA d := T_le (by have := h.2.2.2.1; have := h.1; omega) (by have := h.2.2.2.2.2; have := h.2.2.2.2.1; omega)
theorem tlA_lim {d : Int} (h : d ≤ 64) : tlA d < Lim := by
  have h1 : tlA d ≤ 2 ^ (2 * d.toNat) := choose_le _ _
  exact lt_lim (k := 128) (Nat.le_trans h1 (Nat.pow_le_pow_right (by omega) (by omega))) (by omega)

/-- A tail compared with a limit. -/
theorem compareTl (d k x : Int) (h : TlOk d k x) (n m : Nat) (f g : Nat → Nat) (v u lv lu : Value) (w : World) (hv : Nt w v (tlN d k x)) (hu : Nt w u (tlD d k x)) (hlv : Rd w .u32 lv n f) (hlu : Rd w .u32 lu m g) (hf : ∀ j, j < n → f j < B) (hg : ∀ j, j < m → g j < B) (hl : VL n f m g) :
    Calls Tryz.prog 37 #[.agg #[v, u], .agg #[lv, lu]] w fun e w' => e = .returned (.tuple #[.int .i64 (ord (tlS d k x * val g m) (val f n * tlA d)), .int .i64 0]) ∧ Below w.heap.size w w' := by
  obtain ⟨_, e1, e2⟩ := tl_ok h
  rw [e1] at hv
  rw [e2] at hu
  exact compareLim _ _ n m f g v u lv lu w hv hu (Nat.lt_of_le_of_lt (tlS_le h) (tlA_lim h.2.1)) (tlA_lim h.2.1) tlA_pos hlv hlu hf hg hl
/-- The sign tells whether the tail is within the limit. -/
theorem ord_in {S A m n : Nat} : decide (ord (S * n) (m * A) ≤ 0) = inside S A m n := by
  unfold inside
  by_cases h : S * n ≤ m * A
  · rw [decide_eq_true h, decide_eq_true (ord_nonpos.2 h)]
  · rw [decide_eq_false h, decide_eq_false (fun k => h (ord_nonpos.1 k))]
theorem ord_pos {S A m n : Nat} : 0 < ord (S * n) (m * A) ↔ inside S A m n = false := by
  rw [← ord_in]
  simp
end Go.Proofs.YtmbokpfgnicboaaGreat
