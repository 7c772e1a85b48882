import Derived.Test.YtmbokpfgnicboaaGreatPm
import Derived.Test.YtmbokpfgnicboaaGreatPlain
set_option linter.unusedVariables false
set_option linter.unusedSimpArgs false
/- The walks of package code: limits. -/
namespace Go.Proofs.YtmbokpfgnicboaaGreat
open Go.RowKit Go.Hd _root_.Hd

/-- A limit. -/
def VL (n : Nat) (f : Nat → Nat) (m : Nat) (g : Nat → Nat) : Prop := VF n f m g ∧ n ≤ 4 ∧ m ≤ 4 ∧ val f n < val g m

theorem vf_canon {n m : Nat} {f g : Nat → Nat} (h : VF n f m g) (hf : ∀ j, j < n → f j < B) (hg : ∀ j, j < m → g j < B) : Canon f n ∧ Canon g m ∧ val f n < Lim ∧ val g m < Lim :=
  ⟨(canon_of_fine hf h.1).1, (canon_of_fine hg h.2.1).1, fine_lim hf h.1, fine_lim hg h.2.1⟩
theorem ord_neg {a b : Nat} : ord a b < 0 ↔ a < b := by
  unfold ord
  by_cases h : a < b
  · simp [h]
  · rw [if_neg h]; split <;> omega
theorem ord_nonpos {a b : Nat} : ord a b ≤ 0 ↔ a ≤ b := by
  unfold ord
  by_cases h : a < b
  · simp [h]; omega
  · rw [if_neg h]; split <;> omega

set_option maxRecDepth 100000 in
set_option maxHeartbeats 1000000 in
theorem isLimit_any (n m : Nat) (f g : Nat → Nat) (v u : Value) (w : World) (hv : Rd w .u32 v n f) (hu : Rd w .u32 u m g) (hf : ∀ j, j < n → f j < B) (hg : ∀ j, j < m → g j < B) :
    Calls Tryz.prog 69 #[.agg #[v, u]] w fun e w' => e = .returned (.bool (tt (VL n f m g))) ∧ Below w.heap.size w w' := by
  have hal := (Below.refl _ w).alloc (Nat.le_refl _) (.cells #[v, u] 27)
  have HCk := Lib.hid (checkFraction_any n m f g v u _ (hv.below hal) (hu.below hal) hf hg)
  have HA := Lib.hid hal
  have HR := Lib.hid (row2 w v u 27)
  have hln := hv.len_le
  have hlm := hu.len_le
  have HV := Lib.hid hv
  have HU := Lib.hid hu
  have HF := Lib.hid hf
  have HG := Lib.hid hg
  obtain ⟨A, c, rfl, _, _, hv3⟩ := hv
  obtain ⟨A2, c2, rfl, _, _, hu3⟩ := hu
  clear hv3 hu3 hf hg hal
  have c0 : (w.alloc (.cells #[.slice A n c, .slice A2 m c2] 27)).cell? ⟨w.heap.size, 0, none⟩ = some (.slice A n c) := HR.out.cell (i := 0) (by omega)
  have c1 : (w.alloc (.cells #[.slice A n c, .slice A2 m c2] 27)).cell? ⟨w.heap.size, 1, none⟩ = some (.slice A2 m c2) := HR.out.cell (i := 1) (by omega)
  by_cases hVF : VF n f m g
  · rw [vfE_yes hVF] at HCk
    obtain ⟨cf, cg, lf, lg⟩ := vf_canon hVF HF.out HG.out
    have HVF := Lib.hid hVF
    have HCmp := Lib.hid (fun W (h : Below (w.alloc (.cells #[.slice A n c, .slice A2 m c2] 27)).heap.size (w.alloc (.cells #[.slice A n c, .slice A2 m c2] 27)) W) => compare_nt (val f n) (val g m) (.slice A n c) (.slice A2 m c2) W (Nt.below ⟨n, f, HV.out, cf, rfl⟩ (below_then HA.out h)) (Nt.below ⟨m, g, HU.out, cg, rfl⟩ (below_then HA.out h)) lf lg)
    clear hVF cf cg lf lg
    by_cases hn4 : 4 < n
    · have hE : Hid (tt (VL n f m g) = false) := tt_neg (fun h => by have := h.2.1; omega)
      go_enter Tryz.func69, Tryz.ntmps69
      go_wp2_with fail
      refine HCk.out.mono ?_
      rintro e w1 ⟨rfl, hB1⟩
      have HB1 := Lib.hid (below_then HA.out hB1)
      have c0 := cell_below hB1 c0
      have c1 := cell_below hB1 c1
      clear hB1
      go_wp2
      go_ret
      exact ⟨by rw [hE.out]; rfl, HB1.out⟩
    · by_cases hm4 : 4 < m
      · have hE : Hid (tt (VL n f m g) = false) := tt_neg (fun h => by have := h.2.2.1; omega)
        go_enter Tryz.func69, Tryz.ntmps69
        go_wp2_with fail
        refine HCk.out.mono ?_
        rintro e w1 ⟨rfl, hB1⟩
        have HB1 := Lib.hid (below_then HA.out hB1)
        have c0 := cell_below hB1 c0
        have c1 := cell_below hB1 c1
        clear hB1
        go_wp2
        go_ret
        exact ⟨by rw [hE.out]; rfl, HB1.out⟩
      · have hE : Hid (decide (ord (val f n) (val g m) < 0) = tt (VL n f m g)) := by
          show _ = _
          by_cases h : val f n < val g m
          · rw [tt_pos ⟨HVF.out, by omega, by omega, h⟩, decide_eq_true (ord_neg.2 h)]
          · rw [tt_neg (fun k => h k.2.2.2), decide_eq_false (fun k => h (ord_neg.1 k))]
        go_enter Tryz.func69, Tryz.ntmps69
        go_wp2_with fail
        refine HCk.out.mono ?_
        rintro e w1 ⟨rfl, hB1⟩
        have HB1 := Lib.hid (below_then HA.out hB1)
        have HC1 := Lib.hid (HCmp.out _ hB1)
        have c0 := cell_below hB1 c0
        have c1 := cell_below hB1 c1
        clear hB1
        go_wp2_with fail
        refine HC1.out.mono ?_
        rintro e w2 ⟨rfl, hB2⟩
        have HB2 := Lib.hid (below_then HB1.out hB2)
        clear hB2
        go_wp2
        go_ret
        exact ⟨by rw [← hE.out]; rfl, HB2.out⟩
  · rw [vfE_no hVF] at HCk
    have hE : Hid (tt (VL n f m g) = false) := tt_neg (fun h => hVF h.1)
    clear hVF
    go_enter Tryz.func69, Tryz.ntmps69
    go_wp2_with fail
    refine HCk.out.mono ?_
    rintro e w1 ⟨rfl, hB1⟩
    have HB1 := Lib.hid (below_then HA.out hB1)
    clear hB1
    go_wp2
    go_ret
    exact ⟨by rw [hE.out]; rfl, HB1.out⟩

set_option maxRecDepth 100000 in
set_option maxHeartbeats 1000000 in
theorem within_nt (a b m n : Nat) (v u lv lu : Value) (w : World) (hv : Nt w v a) (hu : Nt w u b) (hlv : Nt w lv m) (hlu : Nt w lu n) (ha : a < Lim) (hb : b < Lim) (hm : m < Lim) (hn : n < Lim) (h1 : a * n < Lim) (h2 : m * b < Lim) :
    Calls Tryz.prog 131 #[v, u, .agg #[lv, lu]] w fun e w' => e = .returned (.bool (inside a b m n)) ∧ Below w.heap.size w w' := by
  have hal := (Below.refl _ w).alloc (Nat.le_refl _) (.cells #[lv, lu] 27)
  have HA := Lib.hid hal
  have HR := Lib.hid (row2 w lv lu 27)
  have HM1 := Lib.hid (fun W (h : Below w.heap.size w W) => mul_nt a n v lu W (hv.below h) (hlu.below h) ha hn h1)
  have HM2 := Lib.hid (fun W (h : Below w.heap.size w W) => mul_nt m b lv u W (hlv.below h) (hu.below h) hm hb h2)
  have HCm := Lib.hid (fun W p q (hp : Nt W p (a * n)) (hq : Nt W q (m * b)) => compare_nt (a * n) (m * b) p q W hp hq h1 h2)
  obtain ⟨A, nn, c, rfl⟩ := hv.shape
  obtain ⟨A2, n2, c2, rfl⟩ := hu.shape
  obtain ⟨A3, n3, c3, rfl⟩ := hlv.shape
  obtain ⟨A4, n4, c4, rfl⟩ := hlu.shape
  have hE : Hid (decide (ord (a * n) (m * b) ≤ 0) = inside a b m n) := by
    show _ = _
    unfold inside
    by_cases h : a * n ≤ m * b
    · rw [decide_eq_true h, decide_eq_true (ord_nonpos.2 h)]
    · rw [decide_eq_false h, decide_eq_false (fun k => h (ord_nonpos.1 k))]
  clear hv hu hlv hlu ha hb hm hn h1 h2 hal
  generalize a * n = x at *
  generalize m * b = y at *
  have c0 : (w.alloc (.cells #[.slice A3 n3 c3, .slice A4 n4 c4] 27)).cell? ⟨w.heap.size, 0, none⟩ = some (.slice A3 n3 c3) := HR.out.cell (i := 0) (by omega)
  have c1 : (w.alloc (.cells #[.slice A3 n3 c3, .slice A4 n4 c4] 27)).cell? ⟨w.heap.size, 1, none⟩ = some (.slice A4 n4 c4) := HR.out.cell (i := 1) (by omega)
  go_enter Tryz.func131, Tryz.ntmps131
  go_wp2_with fail
  generalize hW0 : w.alloc (.cells #[.slice A3 n3 c3, .slice A4 n4 c4] 27) = W0 at *
  go_upto_region 1 with fail
  go_cut [7, 8] (fun s7 s8 wx => s7 = .int .i64 (ord x y) ∧ s8 = .int .i64 0 ∧ Below w.heap.size w wx)
  case first =>
    go_region_held3 (fun w' => w'.cell? ⟨w.heap.size, 0, none⟩ = some (.slice A3 n3 c3) ∧ w'.cell? ⟨w.heap.size, 1, none⟩ = some (.slice A4 n4 c4)) (first | go_keep | exact ⟨cell_below hD.out c0, cell_below hD.out c1⟩)
      (first
        | (go_at_call_of 141 (Value.slice A nn c); refine (HM1.out _ (by first | exact below_then HA.out hD.out | exact HA.out.drew)).mono ?_; rintro e wa ⟨p, rfl, hp, hBa⟩; obtain ⟨Ap, np, cp, rfl⟩ := hp.shape; have hD := Lib.hid (below_then (w := W0) (by first | exact hD.out | exact (Below.refl _ _).drew) hBa); have Hp := Lib.hid hp; (try have Hq := Lib.hid (Hq.out.below hBa)); clear hp hBa)
        | (go_at_call_of 141 (Value.slice A3 n3 c3); refine (HM2.out _ (by first | exact below_then HA.out hD.out | exact HA.out.drew)).mono ?_; rintro e wb ⟨q, rfl, hq, hBb⟩; obtain ⟨Aq, nq, cq, rfl⟩ := hq.shape; have hD := Lib.hid (below_then (w := W0) (by first | exact hD.out | exact (Below.refl _ _).drew) hBb); have Hq := Lib.hid hq; (try have Hp := Lib.hid (Hp.out.below hBb)); clear hq hBb)
        | (go_at_call 102; refine (must_any _ _ _).mono ?_; rintro e wm ⟨rfl, rfl⟩)
        | (go_at_call 124; refine (HCm.out _ _ _ Hp.out Hq.out).mono ?_; rintro e wz ⟨rfl, hBz⟩; have hD := Lib.hid (below_then hD.out hBz); clear hBz))
    all_goals
      go_wp2_with fail
      go_meet
      case rel => exact ⟨rfl, rfl, below_then HA.out hD.out⟩
  case rest =>
    obtain ⟨rfl, rfl, hb⟩ := hcut
    have HB := Lib.hid hb
    clear hb
    go_wp2
    go_ret
    exact ⟨by rw [← hE.out]; rfl, HB.out⟩
end Go.Proofs.YtmbokpfgnicboaaGreat

/- The walks of package code: rows of numbers of choices. -/
namespace Go.Proofs.YtmbokpfgnicboaaGreat
open Go.RowKit Go.Hd _root_.Hd
set_option exponentiation.threshold 2000

section
variable {P : Program} {ops : Array Oper} {rest : List Oper} {o : Oper} {a : Act} {Q : Exit → Act → World → Prop}
/-- append(v, u): v owns xs; where the new slice lies. -/
theorem wp_app1 {W : World} (base : Nat) (hgd : o.guard = none) (s x : Operand) (t e : TypeId) (z : Value) (bytes : Nat)
    (ho : o.op = .call { callee := .builtin .append, args := #[s, x], argTypes := #[t, t] })
    (ht : P.underlying t = some (.slice e)) (hinfo : (P.info? e).map (fun i => (i.zero, i.size, i.bytes)) = some (some z, 1, bytes)) (hz : z.cells.size = 1)
    (v : Value) (xs : List Value) (hs : a.eval s = v) (b off c : Nat) (hx : a.eval x = .slice (some ⟨b, off, none⟩) 1 c) (u : Value) (hu : W.cell? ⟨b, off, none⟩ = some u) (h1 : u.oneCell' = true)
    (HO : W.ownsRow base e 1 v xs.length xs) (hbase : base ≤ W.heap.size) (hl : (xs.length + 1) * bytes ≤ 140737488355328) (hl2 : xs.length + 1 ≤ 1000000)
    (h : ∀ v1 w1, w1.ownsRow base e 1 v1 (xs.length + 1) (xs ++ [u]) → W.grownBy w1 v.ownBlock → (v1.ownBlock = v.ownBlock ∨ v1.ownBlock = some W.heap.size) → wpList P ops Q rest (a.put o.dst v1) w1) :
    wpList P ops Q (o :: rest) a W := by
  obtain ⟨i0, hi, hzz⟩ := Option.map_eq_some_iff.1 hinfo
  simp only [Prod.mk.injEq] at hzz
  obtain ⟨hz0, hz1, hz2⟩ := hzz
  refine wpList_append_own_at W hgd s x t ho base e i0 z 1 bytes ht hi hz0 hz1 hz2 hz (by omega) v xs.length xs hs HO ⟨b, off, none⟩ 1 c [u] hx (by simp) (fun j u' hj => ?_) (fun u' hu' => ?_) (by simp only [maxLen]; omega) hl hbase (fun v1 w1 h2 h3 _ h5 => h v1 w1 h2 h3 h5)
  · rcases j with _ | j
    · simp at hj
      subst hj
      have hadd : (⟨b, off, none⟩ : Addr).add 0 = ⟨b, off, none⟩ := by unfold Addr.add; split <;> simp_all
      rw [hadd]; exact hu
    · simp at hj
  · simp at hu'
    subst hu'
    exact h1
end

/-- v reads as the row for a things. -/
def Row (w : World) (v : Value) (a : Nat) : Prop := ∃ F, RdV w v (a + 1) F ∧ ∀ j, j < a + 1 → Nt w (F j) (chs a j)
theorem Row.below {w w1 : World} {v : Value} {a : Nat} (h : Row w v a) (hb : Below w.heap.size w w1) : Row w1 v a := by
  obtain ⟨F, h1, h2⟩ := h
  exact ⟨F, h1.below hb, fun j hj => (h2 j hj).below hb⟩

/-- A store over what is no digit. -/
theorem nt_off {w : World} {x : Value} {m : Nat} (h : Nt w x m) {c : Addr} (hne : ∀ z, w.cell? c ≠ some (.int .u32 z)) (u : Value) : Nt (w.setCell c u) x m := by
  obtain ⟨n, f, ⟨A, cap, hv, h1, h2, h3⟩, h4⟩ := h
  refine ⟨n, f, ⟨A, cap, hv, h1, h2, fun hn => ?_⟩, h4⟩
  obtain ⟨b, off, hA, hc⟩ := h3 hn
  refine ⟨b, off, hA, fun j hj => ?_⟩
  rw [World.cell?_setCell_other (h := fun e => hne _ (by rw [e]; exact hc j hj))]
  exact hc j hj
theorem row_off {w : World} {v : Value} {a B : Nat} (h : Row w v a) (hf : Fresh B v) {b i : Nat} (hb : b < B) (hne : ∀ z, w.cell? ⟨b, i, none⟩ ≠ some (.int .u32 z)) (u : Value) : Row (w.setCell ⟨b, i, none⟩ u) v a := by
  obtain ⟨F, ⟨A, cap, hv, h1, h2, h3⟩, h4⟩ := h
  refine ⟨F, ⟨A, cap, hv, h1, h2, fun hn => ?_⟩, fun j hj => nt_off (h4 j hj) hne u⟩
  obtain ⟨b', off, hA, hc⟩ := h3 hn
  refine ⟨b', off, hA, fun j hj => ?_⟩
  obtain ⟨A', n', c', e, hA'⟩ := hf
  rw [hv] at e
  cases e
  rcases hA' with hA' | ⟨b2, off2, hA', hge⟩
  · rw [hA] at hA'; cases hA'
  · rw [hA] at hA'
    cases hA'
    rw [World.cell?_setCell_other (h := fun e => by cases e; omega)]
    exact hc j hj

/-- The digits of x lie in another block than what v owns. -/
def Apart (x v : Value) : Prop := ∃ A n c, x = .slice A n c ∧ (A = none ∨ ∃ b off, A = some ⟨b, off, none⟩ ∧ some b ≠ v.ownBlock)
theorem nt_grown {w w1 : World} {x v : Value} {m : Nat} (h : Nt w x m) (ha : Apart x v) (hg : w.grownBy w1 v.ownBlock) : Nt w1 x m := by
  obtain ⟨n, f, ⟨A, cap, hv, h1, h2, h3⟩, h4⟩ := h
  refine ⟨n, f, ⟨A, cap, hv, h1, h2, fun hn => ?_⟩, h4⟩
  obtain ⟨b, off, hA, hc⟩ := h3 hn
  refine ⟨b, off, hA, fun j hj => ?_⟩
  obtain ⟨A', n', c', e, hA'⟩ := ha
  rw [hv] at e
  cases e
  rcases hA' with hA' | ⟨b', off', hA', hne⟩
  · rw [hA] at hA'; cases hA'
  · rw [hA] at hA'
    cases hA'
    exact hg.cell (hc j hj) hne

theorem lim_two : Lim = 2 ^ 512 := Bpow_two 16
theorem lt_lim {x k : Nat} (h : x ≤ 2 ^ k) (hk : k < 512) : x < Lim := by
  rw [lim_two]
  exact Nat.lt_of_le_of_lt h (Nat.pow_lt_pow_right (by omega) hk)
theorem choose_128 {a : Nat} (ha : a ≤ 128) (k : Nat) : chs a k ≤ 2 ^ 128 := Nat.le_trans (choose_le a k) (Nat.pow_le_pow_right (by omega) ha)
theorem choose_lim {a : Nat} (ha : a ≤ 128) (k : Nat) : chs a k < Lim := lt_lim (choose_128 ha k) (by omega)
theorem choose_mul_lim {a y : Nat} (ha : a ≤ 128) (hy : y ≤ 128) (k : Nat) : chs a k * y < Lim := by
  refine lt_lim (k := 135) ?_ (by omega)
  have h1 : chs a k * y ≤ 2 ^ 128 * 2 ^ 7 := Nat.mul_le_mul (choose_128 ha k) hy
  rw [← Nat.pow_add] at h1
  exact h1
theorem small_lim {y : Nat} (hy : y < 18446744073709551616) : y < Lim := lt_lim (k := 64) (Nat.le_of_lt hy) (by omega)
theorem choose_step {a k : Nat} (h1 : 1 ≤ k) (h2 : k ≤ a) : chs a (k - 1) * (a - k + 1) / k = chs a k := by
  obtain ⟨t, rfl⟩ : ∃ t, k = t + 1 := ⟨k - 1, by omega⟩
  have h := choose_next a t
  rw [Nat.add_sub_cancel, show a - (t + 1) + 1 = a - t by omega, ← h]
  exact Nat.mul_div_cancel _ h1

theorem infoNat : (Tryz.prog.info? 25).map (fun i => (i.zero, i.size, i.bytes)) = some (some (.slice none 0 0), 1, 24) := by kernel_rfl

set_option maxRecDepth 100000 in
set_option maxHeartbeats 1000000 in
theorem rowOf_nt (a : Nat) (w : World) (ha : a ≤ 128) :
    Calls Tryz.prog 139 #[.int .i64 a] w fun e w' => ∃ v, e = .returned v ∧ Row w' v a ∧ Below w.heap.size w w' ∧ Fresh w.heap.size v := by
  have HO := Lib.hid (one_nt w)
  go_enter Tryz.func139, Tryz.ntmps139
  go_wp2_with fail
  refine HO.out.mono ?_
  rintro e w1 ⟨v1, rfl, hN1, hB1⟩
  have HN1 := Lib.hid hN1
  have HB1 := Lib.hid hB1
  obtain ⟨A1, n1, c1, rfl⟩ := hN1.shape
  have hs1 := hB1.size
  have hAp : Apart (.slice A1 n1 c1) (.slice (some ⟨w1.heap.size, 0, none⟩) 1 1) := by
    obtain ⟨n, f, ⟨A, cap, hv, h1, h2, h3⟩, h4⟩ := hN1
    cases hv
    refine ⟨A1, n1, c1, rfl, ?_⟩
    rcases Nat.eq_zero_or_pos n1 with h0 | h0
    · have := h4.2
      rw [h0] at this
      simp [val] at this
    · obtain ⟨b, off, hA, hc⟩ := h3 h0
      refine .inr ⟨b, off, hA, ?_⟩
      have := World.block_lt_of_cell? w1 _ (hc 0 h0)
      simp [Value.ownBlock] at this ⊢
      omega
  have HAp := Lib.hid hAp
  have HRow : Hid ((w1.alloc (.cells #[.slice A1 n1 c1] 25)).ownsRow w.heap.size 25 1 (.slice (some ⟨w1.heap.size, 0, none⟩) 1 1) 1 [.slice A1 n1 c1]) := World.ownsRow_lit w1 #[.slice A1 n1 c1] 1 hB1.size (by unfold maxLen; omega) rfl
  clear hN1 hB1 hAp
  go_wp2_with fail
  go_loopw [3, 4] (fun s3 s4 wr => ∃ (k : Nat) (F : Nat → Value), 1 ≤ k ∧ k ≤ a + 1 ∧ s4 = .int .i64 k ∧ wr.ownsRow w.heap.size 25 1 s3 k ((List.range k).map F) ∧ Hid (∀ j, j < k → Nt wr (F j) (chs a j) ∧ Apart (F j) s3) ∧ Below w.heap.size w wr) (fun _ s4 _ => a + 1 - (intOf s4).toNat)
  case atStart =>
    refine ⟨1, fun _ => .slice A1 n1 c1, Nat.le_refl _, by omega, rfl, HRow.out, fun j hj => ?_, HB1.out.alloc hs1 _⟩
    obtain rfl : j = 0 := by omega
    rw [choose_zero]
    exact ⟨HN1.out.below ((Below.refl _ w1).alloc (Nat.le_refl _) _), HAp.out⟩
  case round =>
    obtain ⟨k, F, hk1, hk, rfl, hown, hF, hbel⟩ := hrel
    obtain ⟨W0, hW0⟩ : ∃ W0 : World, W0 = wr := ⟨_, rfl⟩
    rw [← hW0] at hown hF hbel ⊢
    clear hW0
    have HOwn := Lib.hid hown
    have HBel := Lib.hid hbel
    obtain ⟨A3, cap3, rfl, hc3, hm3, hcs⟩ := rdV_of_own hown F (fun j hj => by simp [hj])
    obtain ⟨b3, off3, rfl, hc4⟩ := hcs (by omega)
    by_cases hlt : k ≤ a
    · obtain ⟨t, ht⟩ : ∃ t, t = k - 1 := ⟨_, rfl⟩
      have hcell := hc4 t (by omega)
      obtain ⟨y, hy⟩ : ∃ y, y = a - k + 1 := ⟨_, rfl⟩
      have hyi : (a : Int) - k + 1 = (y : Int) := by omega
      have HF1 := Lib.hid (hF.out t (by omega)).1
      have HFs := Lib.hid hF.out
      obtain ⟨Af, nf, cf, hFv⟩ := HF1.out.shape
      rw [hFv] at hcell
      have HF2 : Hid (Nt W0 (.slice Af nf cf) (chs a t)) := by rw [← hFv]; exact HF1.out
      have HOf := Lib.hid (fun W => of_nt y W (by omega))
      have HMul := Lib.hid (fun W v (h : Below W0.heap.size W0 W) (hv : Nt W v y) => mul_nt (chs a t) y (.slice Af nf cf) v W (HF2.out.below h) hv (choose_lim ha _) (small_lim (by omega)) (choose_mul_lim ha (by omega) _))
      have hyw : IntKind.u64.wrap (y : Int) = (y : Int) := by rw [IntKind.wrap_u64]; omega
      have hw1 : IntKind.i64.wrap ((k : Int) - 1) = (t : Int) := by rw [IntKind.wrap_i64]; omega
      have hw2 : IntKind.i64.wrap ((a : Int) - k) = (a : Int) - k := by rw [IntKind.wrap_i64]; omega
      have hw3 : IntKind.i64.wrap (y : Int) = (y : Int) := by rw [IntKind.wrap_i64]; omega
      have i1 : (0 : Int) ≤ (t : Int) := by omega
      have i2 : (t : Int) < (k : Int) := by omega
      have HY := Lib.hid hy
      have HT := Lib.hid ht
      clear hc4 hcs hown hF hbel hy hFv ht
      go_upto_region 5 with fail
      go_cut [5] (fun s5 wx => ∃ A n c, s5 = .slice A n c ∧ Hid (Nt wx (.slice A n c) (chs a t * y)) ∧ Below W0.heap.size W0 wx)
      case first =>
        go_region_held3 (fun w' => w'.cell? ⟨b3, off3 + t, none⟩ = some (.slice Af nf cf)) (first | go_keep | exact cell_below hD.out hcell)
          (first
            | (go_at_call 159; refine (HOf.out _).mono ?_; rintro e wa ⟨p, rfl, hp, hBa⟩; obtain ⟨Ap, np, cp, rfl⟩ := hp.shape; have hD := Lib.hid (below_then (w := W0) (Below.refl _ _).drew hBa); have Hp := Lib.hid hp; clear hp hBa)
            | (go_at_call 141; refine (HMul.out _ _ hD.out Hp.out).mono ?_; rintro e wb ⟨q, rfl, hq, hBb⟩; obtain ⟨Aq, nq, cq, rfl⟩ := hq.shape; have hD := Lib.hid (below_then hD.out hBb); have Hq := Lib.hid hq; clear hq hBb)
            | (go_at_call 102; refine (must_any _ _ _).mono ?_; rintro e wm ⟨rfl, rfl⟩))
        all_goals
          go_wp2_with fail
          go_meet
          case rel => exact ⟨_, _, _, rfl, Hq.out, hD.out⟩
      case rest =>
        obtain ⟨A5, n5, c5, rfl, HX, hbc⟩ := hcut
        have HBc := Lib.hid hbc
        have HOk := Lib.hid (of_nt k wc (by omega))
        have HDv := Lib.hid (fun W u (h : Below wc.heap.size wc W) (hu : Nt W u k) => div_nt (chs a t * y) k _ u W (HX.out.below h) hu (choose_mul_lim ha (by have := HY.out; omega) _) (small_lim (by omega)) (by omega))
        clear hbc hyw hw1 hw2 hw3 i1 i2 hcell hyi
        go_wp2_with fail
        refine HOk.out.mono ?_
        rintro e w6 ⟨u6, rfl, hN6, hB6⟩
        have HB6 := Lib.hid hB6
        have HN6 := Lib.hid hN6
        obtain ⟨A6, n6, c6, rfl⟩ := hN6.shape
        clear hB6 hN6
        go_wp2_with fail
        refine (HDv.out _ _ HB6.out HN6.out).mono ?_
        rintro e w7 ⟨q7, r7, rfl, hN7, _, hB7, hFr⟩
        have hB07 : Below W0.heap.size W0 w7 := below_then (below_then HBc.out HB6.out) hB7
        have hg07 : b3 < w6.heap.size := by
          have h1 := (below_then HBc.out HB6.out).size
          rcases HOwn.out.2 with ⟨e1, _⟩ | ⟨g, cap, cur, e1, _, hgg, _⟩
          · cases e1
          · cases e1
            have := (Array.getElem?_eq_some_iff.1 hgg).1
            omega
        have hoff : off3 = 0 := by
          rcases HOwn.out.2 with ⟨e1, _⟩ | ⟨g, cap, cur, e1, _⟩
          · cases e1
          · cases e1; rfl
        subst hoff
        have HA7 : Hid (Apart q7 (.slice (some ⟨b3, 0, none⟩) k cap3)) := by
          obtain ⟨A, n, c, e, h⟩ := hFr
          refine ⟨A, n, c, e, h.imp id fun ⟨b, off, h1, h2⟩ => ⟨b, off, h1, ?_⟩⟩
          simp [Value.ownBlock]
          omega
        have HN7 : Hid (Nt w7 q7 (chs a k)) := by
          show Nt _ _ _
          rw [← choose_step hk1 hlt, ← HT.out, ← HY.out]
          exact hN7
        obtain ⟨A7, n7, c7, rfl⟩ := hN7.shape
        have HB7 := Lib.hid (below_then HBel.out hB07)
        have HFs7 : Hid (∀ j, j < k → Nt w7 (F j) (chs a j) ∧ Apart (F j) (.slice (some ⟨b3, 0, none⟩) k cap3)) := fun j hj => ⟨(HFs.out j hj).1.below hB07, (HFs.out j hj).2⟩
        have HO7 := Lib.hid ((own_below HOwn.out hB07).alloc (.cells #[.slice A7 n7 c7] 25))
        have HO8 : Hid ((w7.alloc (.cells #[.slice A7 n7 c7] 25)).ownsRow w.heap.size 25 1 (.slice (some ⟨b3, 0, none⟩) k cap3) ((List.range k).map F).length ((List.range k).map F)) := by
          show World.ownsRow _ _ _ _ _ _ _
          rw [List.length_map, List.length_range]; exact HO7.out
        clear hN7 hB7 hFr hB07 hg07
        go_wp2_with (at_builtin; refine wp_app1 w.heap.size rfl (.tmp 40) (.tmp 42) 142 25 (.slice none 0 0) 24 rfl Tryz.underlying142 infoNat rfl (.slice (some ⟨b3, 0, none⟩) k cap3) ((List.range k).map F) rfl w7.heap.size 0 1 rfl (.slice A7 n7 c7) (cell_new _ _ _).1 rfl HO8.out (by have := HB7.out.size; simp; omega) (by simp; omega) (by simp; omega) ?_; intro v8 w8 hown8 hg8 hat8; have HOwn8 := Lib.hid hown8; have HG8 := Lib.hid hg8; have HAt8 := Lib.hid hat8; clear hown8 hg8 hat8)
        go_roundw
        case rel =>
          have hal := (Below.refl _ w7).alloc (Nat.le_refl _) (.cells #[.slice A7 n7 c7] 25)
          have hown8 := HOwn8.out
          rw [List.length_map, List.length_range] at hown8
          refine ⟨k + 1, fun j => if j = k then .slice A7 n7 c7 else F j, by omega, by omega, by go_num, ?_, fun j hj => ?_, ?_⟩
          · rw [← map_range_snoc]
            exact hown8
          · have hnt : Nt w7 (if j = k then .slice A7 n7 c7 else F j) (chs a j) ∧ Apart (if j = k then .slice A7 n7 c7 else F j) (.slice (some ⟨b3, 0, none⟩) k cap3) := by
              by_cases e : j = k
              · rw [if_pos e, e]; exact ⟨HN7.out, HA7.out⟩
              · rw [if_neg e]; exact HFs7.out j (by omega)
            refine ⟨nt_grown (hnt.1.below hal) hnt.2 HG8.out, ?_⟩
            rcases HAt8.out with h | h
            · obtain ⟨A, n, c, e, h1⟩ := hnt.2
              exact ⟨A, n, c, e, by rw [h]; exact h1⟩
            · obtain ⟨n, f, ⟨A, cap, hv, _, _, h3⟩, h4⟩ := hnt.1
              refine ⟨A, n, cap, hv, ?_⟩
              rcases A with _ | ad
              · exact .inl rfl
              · obtain ⟨A', n', c', e', h1⟩ := hnt.2
                rw [hv] at e'
                cases e'
                rcases h1 with h1 | ⟨b, off, h1, _⟩
                · cases h1
                · refine .inr ⟨b, off, h1, ?_⟩
                  have hn0 : 0 < n := by
                    rcases Nat.eq_zero_or_pos n with h0 | h0
                    · have h5 := h4.2
                      rw [h0] at h5
                      have := choose_pos (show j ≤ a by omega)
                      simp [val] at h5
                      omega
                    · exact h0
                  obtain ⟨b', off', e3, hcc⟩ := h3 hn0
                  rw [h1] at e3
                  cases e3
                  have := World.block_lt_of_cell? w7 _ (hcc 0 hn0)
                  rw [h]
                  simp at this ⊢
                  omega
          · exact below_own (HB7.out.alloc HB7.out.size _) HO8.out HG8.out (by have := HB7.out.size; simp; omega)
        case measure => simp [intOf]; omega
    · obtain rfl : k = a + 1 := by omega
      go_wp2
      go_ret
      exact ⟨_, rfl, ⟨F, ⟨_, _, rfl, hc3, hm3, fun _ => ⟨b3, off3, rfl, hc4⟩⟩, fun j hj => (hF.out j hj).1⟩, hbel, by
        rcases HOwn.out.2 with ⟨e1, _⟩ | ⟨g, cap, cur, e1, hg, _⟩
        · cases e1
        · cases e1; exact ⟨_, _, _, rfl, .inr ⟨b3, 0, rfl, hg⟩⟩⟩
end Go.Proofs.YtmbokpfgnicboaaGreat
