import Derived.Test.YtmbokpfgnicboaaGreatP4
set_option linter.unusedVariables false
set_option linter.unusedSimpArgs false
/- The walks of package number: division of any two numbers; the greatest common divisor. -/
namespace Go.Proofs.YtmbokpfgnicboaaGreat
open Go.RowKit Go.Hd _root_.Hd

/-- So great that nothing here is greater. -/
def Big : Nat := B ^ 1000
set_option exponentiation.threshold 2000 in
theorem len_big {n : Nat} {f : Nat → Nat} (h : Canon f n) (hv : val f n < Big) : n ≤ 1000 := (h.len_le_iff 1000).2 hv

set_option exponentiation.threshold 2000 in
theorem parted_nt (a b : Nat) (v u : Value) (w : World) (hv : Nt w v a) (hu : Nt w u b) (ha : a < Big) (hb : 0 < b) :
    Calls Tryz.prog 149 #[v, u] w (PartedPost a b w) := by
  rcases Nat.lt_or_ge a b with h | h
  · exact parted_small a b v u w hv hu h ha
  · obtain ⟨n, f, h1, cf, ea⟩ := hv
    obtain ⟨m, g, k1, cg, eb⟩ := hu
    have hn := len_big cf (ea ▸ ha)
    have hm : 1 ≤ m := by
      rcases Nat.eq_zero_or_pos m with h0 | h0
      · subst h0; simp [val] at eb; omega
      · exact h0
    rcases Nat.lt_or_ge m 2 with h2 | h2
    · obtain rfl : m = 1 := by omega
      exact parted_one a b n f g v u w h1 k1 cf cg ea eb h hn
    · exact parted_great a b n m f g v u w h1 k1 cf cg ea eb h h2 hn

set_option exponentiation.threshold 2000 in
theorem clone_big (a : Nat) (v : Value) (w : World) (h : Nt w v a) (ha : a < Big) : Calls Tryz.prog 173 #[v] w (NtPost a w) := clone_nt a v w h 0 ha
theorem nt_len {w : World} {v : Value} {m : Nat} (h : Nt w v m) : ∃ A n c, v = .slice A n c ∧ (n = 0 ↔ m = 0) ∧ n ≤ 9223372036854775807 := by
  obtain ⟨n, f, hr, hc, hm⟩ := h
  have hl := hr.len_le
  obtain ⟨A, cap, rfl, _⟩ := hr
  exact ⟨A, n, cap, rfl, by rw [← hm]; exact hc.zero_iff, hl⟩

set_option maxRecDepth 100000 in
set_option maxHeartbeats 1000000 in
theorem common_nt (a b : Nat) (v u : Value) (w : World) (hv : Nt w v a) (hu : Nt w u b) (ha : a < Big) (hb : b < Big) :
    Calls Tryz.prog 148 #[v, u] w (NtPost (Nat.gcd a b) w) := by
  have HV := Lib.hid hv
  have HU := Lib.hid hu
  have HAB := Lib.hid ha
  have HBB := Lib.hid hb
  obtain ⟨A, n, c, rfl⟩ := hv.shape
  obtain ⟨A2, n2, c2, rfl⟩ := hu.shape
  clear hv hu ha hb
  go_enter Tryz.func148, Tryz.ntmps148
  go_wp2
  go_loopg [0, 1] b (fun k s0 s1 wr => ∃ x : Nat, Hid (Nt wr s0 x) ∧ Hid (Nt wr s1 k) ∧ Hid (Nat.gcd x k = Nat.gcd a b) ∧ Hid (x < Big) ∧ Hid (k < Big) ∧ Below w.heap.size w wr)
  case atStart => exact ⟨a, HV.out, HU.out, rfl, HAB.out, HBB.out, Below.refl _ _⟩
  case round =>
    obtain ⟨x, hx, hk, hg, hxB, hkB, hbel⟩ := hrel
    have HBel := Lib.hid hbel
    clear hbel
    obtain ⟨A3, n3, c3, rfl⟩ := hx.out.shape
    obtain ⟨A4, n4, c4, rfl, h4, hl4⟩ := nt_len hk.out
    rcases Nat.eq_zero_or_pos gk with h0 | h0
    · obtain rfl : n4 = 0 := h4.2 h0
      have hgx : Hid (Nat.gcd a b = x) := by show _ = _; rw [← hg.out, h0, Nat.gcd_zero_right]
      have HCl := Lib.hid (clone_big x _ wr hx.out hxB.out)
      clear h4
      go_wp2_with fail
      refine HCl.out.mono ?_
      rintro e w2 ⟨v', rfl, hN, hB⟩
      have HN := Lib.hid hN
      have HB2 := Lib.hid (below_then HBel.out hB)
      clear hN hB
      go_wp2
      go_ret
      exact ⟨_, rfl, by rw [hgx.out]; exact HN.out, HB2.out⟩
    · have hn4 : 0 < n4 := by
        rcases Nat.eq_zero_or_pos n4 with h | h
        · have := h4.1 h; omega
        · exact h
      have HP := Lib.hid (parted_nt x gk _ _ wr hx.out hk.out hxB.out h0)
      clear h4
      go_wp2_with fail
      refine HP.out.mono ?_
      rintro e w2 ⟨v', u', rfl, hN1, hN2, hB, _⟩
      have HN2 := Lib.hid hN2
      have HB2 := Lib.hid (below_then HBel.out hB)
      have HK2 := Lib.hid (hk.out.below hB)
      clear hN1 hN2 hB
      go_wp2
      go_roundg (x % gk)
      case measure => exact Nat.mod_lt _ h0
      case rel => exact ⟨gk, HK2.out, HN2.out, by show _ = _; rw [← hg.out, Nat.gcd_comm x gk, Nat.gcd_rec gk x, Nat.gcd_comm], hkB.out, Nat.lt_trans (Nat.mod_lt _ h0) hkB.out, HB2.out⟩
end Go.Proofs.YtmbokpfgnicboaaGreat

/- The walks of package number: fractions. -/
namespace Go.Proofs.YtmbokpfgnicboaaGreat
open Go.RowKit Go.Hd _root_.Hd

set_option exponentiation.threshold 2000 in
theorem lim_big {a : Nat} (h : a < Lim) : a < Big := Nat.lt_of_lt_of_le h (Nat.pow_le_pow_right B_pos (by omega : 16 ≤ 1000))

/-- A fraction of two numbers. -/
def FrPost (m n : Nat) (w : World) (e : Ending) (w' : World) : Prop := ∃ v' u', e = .returned (.agg #[v', u']) ∧ Nt w' v' m ∧ Nt w' u' n ∧ Below w.heap.size w w'
def Fr2Post (m n : Nat) (w : World) (e : Ending) (w' : World) : Prop := ∃ v' u', e = .returned (.tuple #[.agg #[v', u'], .int .i64 0]) ∧ Nt w' v' m ∧ Nt w' u' n ∧ Below w.heap.size w w'

theorem row2 (w : World) (x y : Value) (t : TypeId) : (w.alloc (.cells #[x, y] t)).rowIs w.heap.size t 2 (fun i => if i = 0 then x else y) :=
  World.rowIs_alloc w _ _ _ (fun i hi => by
    have : i < 2 := hi
    rcases Nat.lt_or_ge i 1 with h | h
    · obtain rfl : i = 0 := by omega
      rfl
    · obtain rfl : i = 1 := by omega
      rfl)

/-- A store over a slice leaves numbers as they are. -/
theorem rd_over {w : World} {k : IntKind} {v : Value} {n : Nat} {f : Nat → Nat} (h : Rd w k v n f) {c : Addr} {A : Option Addr} {l d : Nat} (hx : w.cell? c = some (.slice A l d)) (u : Value) : Rd (w.setCell c u) k v n f := by
  obtain ⟨A, cap, hv, h1, h2, h3⟩ := h
  refine ⟨A, cap, hv, h1, h2, fun hn => ?_⟩
  obtain ⟨b, off, hA, hc⟩ := h3 hn
  refine ⟨b, off, hA, fun j hj => ?_⟩
  rw [World.cell?_setCell_other (h := fun e => by rw [e, hc j hj] at hx; cases hx)]
  exact hc j hj
theorem nt_over {w : World} {v : Value} {m : Nat} (h : Nt w v m) {c : Addr} {A : Option Addr} {l d : Nat} (hx : w.cell? c = some (.slice A l d)) (u : Value) : Nt (w.setCell c u) v m := by
  obtain ⟨n, f, h1, h2⟩ := h
  exact ⟨n, f, rd_over h1 hx u, h2⟩
/-- Two slices of a struct stored over two slices. -/
theorem nt_over2 {w : World} {v : Value} {m : Nat} (h : Nt w v m) {g i j : Nat} {A A' : Option Addr} {l d l' d' : Nat} (hx : w.cell? ⟨g, i, none⟩ = some (.slice A l d)) (hy : w.cell? ⟨g, j, none⟩ = some (.slice A' l' d')) (hij : i ≠ j) (u u' : Value) :
    Nt ((w.setCell ⟨g, i, none⟩ u).setCell ⟨g, j, none⟩ u') v m :=
  nt_over (nt_over h hx u) (by rw [World.cell?_setCell_other (h := fun e => hij (by cases e; rfl))]; exact hy) u'

set_option maxRecDepth 100000 in
set_option maxHeartbeats 1000000 in
theorem lowest_nt (a b : Nat) (v u : Value) (w : World) (hv : Nt w v a) (hu : Nt w u b) (ha : a < Big) (hb : b < Big) (hb0 : 0 < b) :
    Calls Tryz.prog 112 #[v, u] w (FrPost (a / Nat.gcd a b) (b / Nat.gcd a b) w) := by
  have hg0 : 0 < Nat.gcd a b := Nat.gcd_pos_of_pos_right _ hb0
  have hal := (Below.refl _ w).alloc (Nat.le_refl _) (.cells #[.slice none 0 0, .slice none 0 0] 27)
  have HC := Lib.hid (common_nt a b v u _ (hv.below hal) (hu.below hal) ha hb)
  have HP1 := Lib.hid (fun W x (h1 : Nt W v a) (h2 : Nt W x (Nat.gcd a b)) => parted_nt a (Nat.gcd a b) v x W h1 h2 ha hg0)
  have HP2 := Lib.hid (fun W x (h1 : Nt W u b) (h2 : Nt W x (Nat.gcd a b)) => parted_nt b (Nat.gcd a b) u x W h1 h2 hb hg0)
  have HV := Lib.hid hv
  have HU := Lib.hid hu
  have HA := Lib.hid hal
  have HR := Lib.hid (row2 w (.slice none 0 0) (.slice none 0 0) 27)
  obtain ⟨A, n, c, rfl⟩ := hv.shape
  obtain ⟨A2, n2, c2, rfl⟩ := hu.shape
  clear hv hu ha hb hb0 hg0 hal
  generalize Nat.gcd a b = g at *
  go_enter Tryz.func112, Tryz.ntmps112
  go_wp2_with fail
  refine HC.out.mono ?_
  rintro e w1 ⟨v1, rfl, hN1, hB1⟩
  have HB1 := Lib.hid (below_then HA.out hB1)
  have HR1 := Lib.hid (HR.out.of_block (hB1.block _ HR.out.lt))
  have HN1 := Lib.hid hN1
  obtain ⟨A3, n3, c3, rfl⟩ := hN1.shape
  clear hN1 hB1
  go_wp2_with fail
  refine (HP1.out _ _ (HV.out.below HB1.out) HN1.out).mono ?_
  rintro e w2 ⟨v2, x2, rfl, hN2, _, hB2, _⟩
  have HB2 := Lib.hid (below_then HB1.out hB2)
  have HR2 := Lib.hid (HR1.out.of_block (hB2.block _ HR1.out.lt))
  have HN2 := Lib.hid hN2
  obtain ⟨A4, n4, c4, rfl⟩ := hN2.shape
  have HN1' := Lib.hid (HN1.out.below hB2)
  clear hN2 hB2
  go_wp2_with fail
  refine (HP2.out _ _ (HU.out.below HB2.out) HN1'.out).mono ?_
  rintro e w3 ⟨v3, x3, rfl, hN3, _, hB3, _⟩
  have HB3 := Lib.hid (below_then HB2.out hB3)
  have HR3 := Lib.hid (HR2.out.of_block (hB3.block _ HR2.out.lt))
  have HN3 := Lib.hid hN3
  obtain ⟨A5, n5, c5, rfl⟩ := hN3.shape
  have HN2' := Lib.hid (HN2.out.below hB3)
  have c0 : w3.cell? ⟨w.heap.size, 0, none⟩ = some (.slice none 0 0) := HR3.out.cell (i := 0) (by omega)
  have c1 : w3.cell? ⟨w.heap.size, 1, none⟩ = some (.slice none 0 0) := HR3.out.cell (i := 1) (by omega)
  have z0 := HR3.out.frozen 0
  have z1 := HR3.out.frozen 1
  clear hN3 hB3
  go_wp2
  refine bodyPost_ret (v := .agg #[.slice A4 n4 c4, .slice A5 n5 c5]) ?_ rfl ⟨_, _, rfl, ?_, ?_, ?_⟩
  · simp [results, Tryz.f112, go_sem, c0, c1]
  · exact nt_over2 HN2'.out c0 c1 (by omega) _ _
  · exact nt_over2 HN3.out c0 c1 (by omega) _ _
  · exact (HB3.out.setCell (p := ⟨w.heap.size, 0, none⟩) (Nat.le_refl _) _).setCell (p := ⟨w.heap.size, 1, none⟩) (Nat.le_refl _) _

set_option maxRecDepth 100000 in
set_option maxHeartbeats 1000000 in
theorem ratio_nt (a b : Nat) (v u : Value) (w : World) (hv : Nt w v a) (hu : Nt w u b) (ha : a < Lim) (hb : b < Lim) (hb0 : 0 < b) :
    Calls Tryz.prog 59 #[v, u] w (Fr2Post (a / Nat.gcd a b) (b / Nat.gcd a b) w) := by
  have hal := (Below.refl _ w).alloc (Nat.le_refl _) (.cells #[.slice none 0 0, .slice none 0 0] 27)
  have hal2 := hal.alloc (by simp) (.cells #[v, u] 25)
  have HV1 := Lib.hid (valid_two _ (hv.below hal) (hu.below hal) ha hb)
  have HL := Lib.hid (lowest_nt a b v u _ (hv.below hal2) (hu.below hal2) (lim_big ha) (lim_big hb) hb0)
  have HA := Lib.hid hal2
  have HR := Lib.hid ((row2 w (.slice none 0 0) (.slice none 0 0) 27).alloc (.cells #[v, u] 25))
  rw [World.size_alloc] at HV1
  obtain ⟨A, n, c, rfl⟩ := hv.shape
  obtain ⟨A2, n2, c2, rfl, hz, hl⟩ := nt_len hu
  have hn2 : 0 < n2 := by
    rcases Nat.eq_zero_or_pos n2 with h | h
    · have := hz.1 h; omega
    · exact h
  clear hv hu ha hb hb0 hal hal2 hz
  generalize Nat.gcd a b = g at *
  go_enter Tryz.func59, Tryz.ntmps59
  go_wp2_with fail
  refine HV1.out.mono ?_
  rintro e w1 ⟨rfl, rfl⟩
  go_wp2_with fail
  refine HL.out.mono ?_
  rintro e w2 ⟨v2, u2, rfl, hN1, hN2, hB⟩
  have HB2 := Lib.hid (below_then HA.out hB)
  have HR2 := Lib.hid (HR.out.of_block (hB.block _ HR.out.lt))
  have HN1 := Lib.hid hN1
  have HN2 := Lib.hid hN2
  obtain ⟨A4, n4, c4, rfl⟩ := hN1.shape
  obtain ⟨A5, n5, c5, rfl⟩ := hN2.shape
  have c0 : w2.cell? ⟨w.heap.size, 0, none⟩ = some (.slice none 0 0) := HR2.out.cell (i := 0) (by omega)
  have c1 : w2.cell? ⟨w.heap.size, 1, none⟩ = some (.slice none 0 0) := HR2.out.cell (i := 1) (by omega)
  have z0 := HR2.out.frozen 0
  have z1 := HR2.out.frozen 1
  clear hN1 hN2 hB
  go_wp2
  refine bodyPost_ret (v := .tuple #[.agg #[.slice A4 n4 c4, .slice A5 n5 c5], .int .i64 0]) ?_ rfl ⟨_, _, rfl, ?_, ?_, ?_⟩
  · simp [results, Tryz.f59, go_sem, c0, c1]
  · exact nt_over2 HN1.out c0 c1 (by omega) _ _
  · exact nt_over2 HN2.out c0 c1 (by omega) _ _
  · exact (HB2.out.setCell (p := ⟨w.heap.size, 0, none⟩) (Nat.le_refl _) _).setCell (p := ⟨w.heap.size, 1, none⟩) (Nat.le_refl _) _

/-- Quotient, rest and no error. -/
def DivPost (a b : Nat) (w : World) (e : Ending) (w' : World) : Prop := ∃ v' u', e = .returned (.tuple #[v', u', .int .i64 0]) ∧ Nt w' v' (a / b) ∧ Nt w' u' (a % b) ∧ Below w.heap.size w w' ∧ Fresh w.heap.size v'

set_option maxRecDepth 100000 in
set_option maxHeartbeats 1000000 in
theorem div_nt (a b : Nat) (v u : Value) (w : World) (hv : Nt w v a) (hu : Nt w u b) (ha : a < Lim) (hb : b < Lim) (hb0 : 0 < b) :
    Calls Tryz.prog 164 #[v, u] w (DivPost a b w) := by
  have hal := (Below.refl _ w).alloc (Nat.le_refl _) (.cells #[v, u] 25)
  have HV1 := Lib.hid (valid_two w hv hu ha hb)
  have HP := Lib.hid (parted_nt a b v u _ (hv.below hal) (hu.below hal) (lim_big ha) hb0)
  have HA := Lib.hid hal
  obtain ⟨A, n, c, rfl⟩ := hv.shape
  obtain ⟨A2, n2, c2, rfl, hz, hl⟩ := nt_len hu
  have hn2 : 0 < n2 := by
    rcases Nat.eq_zero_or_pos n2 with h | h
    · have := hz.1 h; omega
    · exact h
  clear hv hu ha hb hb0 hal hz
  go_enter Tryz.func164, Tryz.ntmps164
  go_wp2_with fail
  refine HV1.out.mono ?_
  rintro e w1 ⟨rfl, rfl⟩
  go_wp2_with fail
  refine HP.out.mono ?_
  rintro e w2 ⟨v2, u2, rfl, hN1, hN2, hB, hFr⟩
  have HB2 := Lib.hid (below_then HA.out hB)
  have HN1 := Lib.hid hN1
  have HN2 := Lib.hid hN2
  clear hN1 hN2 hB
  go_wp2
  go_ret3
  exact ⟨_, _, rfl, HN1.out, HN2.out, HB2.out, hFr.mono (by simp)⟩
end Go.Proofs.YtmbokpfgnicboaaGreat

/- The walks of package number: whether a fraction is valid; whether a fraction is a limit. -/
namespace Go.Proofs.YtmbokpfgnicboaaGreat
open Go.RowKit Go.Hd _root_.Hd

/-- Both of two slices are valid. -/
theorem valid_rd {n m : Nat} {f g : Nat → Nat} {v u : Value} (w : World) (hv : Rd w .u32 v n f) (hu : Rd w .u32 u m g) :
    Calls Tryz.prog 111 #[.slice (some ⟨w.heap.size, 0, none⟩) 2 2] (w.alloc (.cells #[v, u] 25)) fun e w' => e = .returned (.bool (!bad n f && !bad m g)) ∧ w.alloc (.cells #[v, u] 25) = w' := by
  have h1 := hv.below ((Below.refl _ w).alloc (Nat.le_refl _) (.cells #[v, u] 25))
  have k1 := hu.below ((Below.refl _ w).alloc (Nat.le_refl _) (.cells #[v, u] 25))
  refine valid_any 2 _ (fun j => if j = 0 then n else m) (fun j => if j = 0 then f else g) _ _ (rdV_two w v u _) (fun j hj => ?_) _ ?_
  · by_cases h : j = 0
    · simp only [h, if_true]; exact h1
    · simp only [h, if_false]; exact k1
  · constructor
    · intro hb j hj
      rw [Bool.and_eq_true, Bool.not_eq_true', Bool.not_eq_true'] at hb
      by_cases h : j = 0
      · simp only [h, if_true]; exact hb.1
      · simp only [h, if_false]; exact hb.2
    · intro hall
      have h0 := hall 0 (by omega)
      have h2 := hall 1 (by omega)
      simp only [if_true] at h0
      simp only [show ¬ (1 = 0) by omega, if_false] at h2
      rw [h0, h2]; rfl

theorem canon_of_fine {n : Nat} {f : Nat → Nat} (hf : ∀ j, j < n → f j < B) (h : bad n f = false) : Canon f n ∧ n ≤ 16 := by
  simp only [bad, Bool.or_eq_false_iff, decide_eq_false_iff_not, Bool.and_eq_false_iff] at h
  refine ⟨⟨hf, fun h0 => ?_⟩, by omega⟩
  rcases h.2 with h1 | h1
  · omega
  · exact h1
theorem fine_lim {n : Nat} {f : Nat → Nat} (hf : ∀ j, j < n → f j < B) (h : bad n f = false) : val f n < Lim := (bad_canon (canon_of_fine hf h).1).1 h

/-- A valid fraction. -/
def VF (n : Nat) (f : Nat → Nat) (m : Nat) (g : Nat → Nat) : Prop := bad n f = false ∧ bad m g = false ∧ 0 < m ∧ Nat.gcd (val f n) (val g m) = 1
/-- The number of its error. -/
noncomputable def vfE (n : Nat) (f : Nat → Nat) (m : Nat) (g : Nat → Nat) : Int := if tt (VF n f m g) then 0 else 8
theorem vfE_yes {n m : Nat} {f g : Nat → Nat} (h : VF n f m g) : vfE n f m g = 0 := by unfold vfE; rw [tt_pos h]; rfl
theorem vfE_no {n m : Nat} {f g : Nat → Nat} (h : ¬ VF n f m g) : vfE n f m g = 8 := by unfold vfE; rw [tt_neg h]; rfl

theorem canon_one {n : Nat} {f : Nat → Nat} (h : Canon f n) : val f n = 1 ↔ n = 1 ∧ f 0 = 1 := by
  constructor
  · intro hv
    have h2 : Canon (fun _ => 1) 1 := ⟨fun _ _ => by unfold B; omega, fun _ => by omega⟩
    obtain ⟨q1, q2⟩ := h.unique h2 (by rw [hv]; simp [val])
    subst q1
    exact ⟨rfl, q2 0 (by omega)⟩
  · rintro ⟨rfl, h1⟩
    simp [val, h1]

set_option maxRecDepth 100000 in
set_option maxHeartbeats 1000000 in
theorem checkFraction_any (n m : Nat) (f g : Nat → Nat) (v u : Value) (w : World) (hv : Rd w .u32 v n f) (hu : Rd w .u32 u m g) (hf : ∀ j, j < n → f j < B) (hg : ∀ j, j < m → g j < B) :
    Calls Tryz.prog 123 #[.agg #[v, u]] w fun e w' => e = .returned (.int .i64 (vfE n f m g)) ∧ Below w.heap.size w w' := by
  have hal := (Below.refl _ w).alloc (Nat.le_refl _) (.cells #[v, u] 27)
  have hal2 := hal.alloc (by simp) (.cells #[v, u] 25)
  have HV1 := Lib.hid (valid_rd _ (hv.below hal) (hu.below hal))
  rw [World.size_alloc] at HV1
  have HA := Lib.hid hal2
  have HR := Lib.hid ((row2 w v u 27).alloc (.cells #[v, u] 25))
  have hln := hv.len_le
  have hlm := hu.len_le
  have HV := Lib.hid hv
  have HU := Lib.hid hu
  have HF := Lib.hid hf
  have HG := Lib.hid hg
  obtain ⟨A, c, rfl, _, _, hv3⟩ := hv
  obtain ⟨A2, c2, rfl, _, _, hu3⟩ := hu
  clear hv3 hu3 hf hg hal hal2
  cases hb1 : (!bad n f && !bad m g) with
  | false =>
    have hE : Hid (vfE n f m g = 8) := vfE_no (fun h => by rw [h.1, h.2.1] at hb1; cases hb1)
    rw [hb1] at HV1
    clear hb1
    go_enter Tryz.func123, Tryz.ntmps123
    go_wp2_with fail
    refine HV1.out.mono ?_
    rintro e w1 ⟨rfl, rfl⟩
    go_wp2
    go_ret
    exact ⟨by rw [hE.out]; rfl, HA.out⟩
  | true =>
    rw [hb1] at HV1
    rw [Bool.and_eq_true, Bool.not_eq_true', Bool.not_eq_true'] at hb1
    obtain ⟨hbn, hbm⟩ := hb1
    obtain ⟨cf, hn16⟩ := canon_of_fine HF.out hbn
    obtain ⟨cg, hm16⟩ := canon_of_fine HG.out hbm
    have HC := Lib.hid (common_nt (val f n) (val g m) _ _ _ (Nt.below ⟨n, f, HV.out, cf, rfl⟩ HA.out) (Nt.below ⟨m, g, HU.out, cg, rfl⟩ HA.out) (lim_big (fine_lim HF.out hbn)) (lim_big (fine_lim HG.out hbm)))
    have Hn := Lib.hid hbn
    have Hm := Lib.hid hbm
    have c0 : ((w.alloc (.cells #[.slice A n c, .slice A2 m c2] 27)).alloc (.cells #[.slice A n c, .slice A2 m c2] 25)).cell? ⟨w.heap.size, 0, none⟩ = some (.slice A n c) := HR.out.cell (i := 0) (by omega)
    have c1 : ((w.alloc (.cells #[.slice A n c, .slice A2 m c2] 27)).alloc (.cells #[.slice A n c, .slice A2 m c2] 25)).cell? ⟨w.heap.size, 1, none⟩ = some (.slice A2 m c2) := HR.out.cell (i := 1) (by omega)
    clear hbn hbm cf cg
    rcases Nat.eq_zero_or_pos m with hm0 | hm0
    · have hE : Hid (vfE n f m g = 8) := vfE_no (fun h => by have := h.2.2.1; omega)
      subst hm0
      go_enter Tryz.func123, Tryz.ntmps123
      go_wp2_with fail
      refine HV1.out.mono ?_
      rintro e w1 ⟨rfl, rfl⟩
      go_wp2
      go_ret
      exact ⟨by rw [hE.out]; rfl, HA.out⟩
    · go_enter Tryz.func123, Tryz.ntmps123
      go_wp2_with fail
      refine HV1.out.mono ?_
      rintro e w1 ⟨rfl, rfl⟩
      have hmb : ((m : Int) == 0) = false := by rw [beq_eq_false_iff_ne]; omega
      go_wp2_with fail
      refine HC.out.mono ?_
      rintro e w1 ⟨v1, rfl, hN1, hB1⟩
      have HB1 := Lib.hid (below_then HA.out hB1)
      obtain ⟨k, p, hp, cp, ep⟩ := hN1
      have hlk := hp.len_le
      obtain ⟨A3, c3, rfl, hkc, hcm, hp3⟩ := hp
      have hone := canon_one cp
      rw [ep] at hone
      have HOne := Lib.hid hone
      clear hB1 hone ep hmb
      by_cases hk1 : k = 1
      · subst hk1
        obtain ⟨b3, off3, rfl, hp4⟩ := hp3 (by omega)
        have hp5 := hp4 0 (by omega)
        rw [Nat.add_zero] at hp5
        have hp0 : p 0 < 4294967296 := cp.lt 0 (by omega)
        clear hp3 hp4 cp
        by_cases hp1 : p 0 = 1
        · have hE : Hid (vfE n f m g = 0) := vfE_yes ⟨Hn.out, Hm.out, hm0, HOne.out.2 ⟨rfl, hp1⟩⟩
          rw [hp1] at hp5
          clear hp1
          go_wp2
          go_ret
          exact ⟨by rw [hE.out]; rfl, HB1.out⟩
        · have hE : Hid (vfE n f m g = 8) := vfE_no (fun h => hp1 (HOne.out.1 h.2.2.2).2)
          have hb : (((p 0 : Nat) : Int) != 1) = true := by rw [bne_iff_ne]; omega
          clear hp1
          go_wp2
          go_ret
          exact ⟨by rw [hE.out]; rfl, HB1.out⟩
      · have hE : Hid (vfE n f m g = 8) := vfE_no (fun h => hk1 (HOne.out.1 h.2.2.2).1)
        have hb : (((k : Nat) : Int) != 1) = true := by rw [bne_iff_ne]; omega
        clear hk1 hp3 cp
        go_wp2
        go_ret
        exact ⟨by rw [hE.out]; rfl, HB1.out⟩
end Go.Proofs.YtmbokpfgnicboaaGreat
