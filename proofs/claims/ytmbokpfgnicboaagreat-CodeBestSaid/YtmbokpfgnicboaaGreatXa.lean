import Derived.Test.YtmbokpfgnicboaaGreatMapInt
import Derived.Test.YtmbokpfgnicboaaGreatPn
import Derived.Test.YtmbokpfgnicboaaGreatPq
import Derived.Deep.RegionHeld3
import Derived.Test.YtmbokpfgnicboaaGreatSm
import Derived.Test.YtmbokpfgnicboaaGreatP14
import Derived.Deep.DeepCutAuto
import Derived.Test.YtmbokpfgnicboaaGreatSt
set_option linter.unusedVariables false
set_option linter.unusedSimpArgs false
/- The walks of package code: spreads of scores: one store by the closure. -/
namespace Go.Proofs.YtmbokpfgnicboaaGreat
open Go.RowKit Go.Hd _root_.Hd
set_option exponentiation.threshold 2000

/-- Block b is a map of numbers: c x at the key x, unless it is 0. -/
def CM (w : World) (b N : Nat) (c : Int → Nat) : Prop := ∃ F, MapIs w Tryz.prog 3 b N F ∧ ∀ x, (c x = 0 → F x = none) ∧ (c x ≠ 0 → ∃ v, F x = some v ∧ Nt w v (c x))
theorem CM.below {w w' : World} {b N : Nat} {c : Int → Nat} (h : CM w b N c) (hb : Below w.heap.size w w') : CM w' b N c := by
  obtain ⟨F, h1, h2⟩ := h
  exact ⟨F, h1.below hb, fun x => ⟨(h2 x).1, fun hx => by obtain ⟨v, e, hv⟩ := (h2 x).2 hx; exact ⟨v, e, hv.below hb⟩⟩⟩
theorem CM.congr {w : World} {b N : Nat} {c c' : Int → Nat} (h : CM w b N c) (e : ∀ x, c x = c' x) : CM w b N c' := by
  rw [show c' = c from funext fun x => (e x).symm]; exact h
theorem CM.mono {w : World} {b N M : Nat} {c : Int → Nat} (h : CM w b N c) (hm : N ≤ M) : CM w b M c := by
  obtain ⟨F, h1, h2⟩ := h
  exact ⟨F, h1.mono hm, h2⟩
theorem CM.lt {w : World} {b N : Nat} {c : Int → Nat} (h : CM w b N c) : b < w.heap.size := by obtain ⟨F, h1, _⟩ := h; exact h1.lt
theorem cm_made (w : World) : CM (w.alloc (.map #[] 0)) w.heap.size 0 (fun _ => 0) := ⟨_, mapIs_made w _ _, fun _ => ⟨fun _ => rfl, fun h => absurd rfl h⟩⟩
/-- A number's digits lie in no map's block. -/
theorem nt_grown_map {w w1 : World} {x : Value} {m b N : Nat} {F : Int → Option Value} (h : Nt w x m) (hM : MapIs w Tryz.prog 3 b N F) (hg : w.grownBy w1 (some b)) : Nt w1 x m := by
  obtain ⟨n, f, ⟨A, cap, hv, h1, h2, h3⟩, h4⟩ := h
  refine ⟨n, f, ⟨A, cap, hv, h1, h2, fun hn => ?_⟩, h4⟩
  obtain ⟨g, off, hA, hc⟩ := h3 hn
  refine ⟨g, off, hA, fun j hj => ?_⟩
  refine hg.cell (hc j hj) (fun e => ?_)
  cases e
  have hcj := hc j hj
  obtain ⟨D, ⟨es, cl, hb, _⟩, _⟩ := hM
  simp only [World.cell?] at hcj
  rw [hb] at hcj
  simp at hcj
theorem CM.grown {w w1 : World} {b N : Nat} {c : Int → Nat} {M : Nat} {F : Int → Option Value} {b' : Nat} (h : CM w b N c) (hM : MapIs w Tryz.prog 3 b' M F) (hg : w.grownBy w1 (some b')) (hne : b ≠ b') : CM w1 b N c := by
  obtain ⟨F', h1, h2⟩ := h
  exact ⟨F', h1.kept hg (by simpa using hne), fun x => ⟨(h2 x).1, fun hx => by obtain ⟨v, e, hv⟩ := (h2 x).2 hx; exact ⟨v, e, nt_grown_map hv hM hg⟩⟩⟩
theorem map_no_cell {w : World} {b N o : Nat} {F : Int → Option Value} {v : Value} (hM : MapIs w Tryz.prog 3 b N F) (h : w.cell? ⟨b, o, none⟩ = some v) : False := by
  obtain ⟨D, ⟨es, cl, hb, _⟩, _⟩ := hM
  simp only [World.cell?] at h
  rw [hb] at h
  simp at h
theorem zeroNat (w : World) : (zeroValue 25).run Tryz.prog w = .ok (.slice none 0 0) w := by kernel_rfl
theorem below_grownBy {w w' : World} (h : Below w.heap.size w w') (row : Option Nat) : w.grownBy w' row := ⟨h.os, h.tape, h.output, h.size, fun k hk _ => h.block k hk⟩
theorem cm_put {w w1 w2 : World} {b N : Nat} {c : Int → Nat} {x : Int} {m : Nat} {F : Int → Option Value} {v : Value} (hF : MapIs w Tryz.prog 3 b N F) (hFc : ∀ x, (c x = 0 → F x = none) ∧ (c x ≠ 0 → ∃ v, F x = some v ∧ Nt w v (c x)))
    (hD : Below w.heap.size w w1) (hv : Nt w1 v (c x + m)) (h0 : m ≠ 0) (hM : MapIs w2 Tryz.prog 3 b (N + 1) (fun y => if y = x then some v else F y)) (hg : w1.grownBy w2 (some b)) :
    CM w2 b (N + 1) (fun s => if s = x then c s + m else c s) ∧ w.grownBy w2 (some b) := by
  have hF1 := hF.below hD
  refine ⟨⟨_, hM, fun y => ?_⟩, (below_grownBy hD _).trans hg⟩
  dsimp only
  by_cases e : y = x
  · subst e
    rw [if_pos rfl, if_pos rfl]
    exact ⟨fun h => absurd h (by omega), fun _ => ⟨v, rfl, nt_grown_map hv hF1 hg⟩⟩
  · rw [if_neg e, if_neg e]
    exact ⟨(hFc y).1, fun hy => by obtain ⟨u, e1, hu⟩ := (hFc y).2 hy; exact ⟨u, e1, nt_grown_map (hu.below hD) hF1 hg⟩⟩

set_option maxRecDepth 100000 in
set_option maxHeartbeats 2000000 in
theorem put_any (b bn N : Nat) (c : Int → Nat) (x : Int) (n k : Nat) (nv : Value) (w : World) (hb : w.cell? ⟨bn, 0, none⟩ = some (.map (some b))) (hM : CM w b N c) (hn : Nt w nv n) (hx : Wf x) (hk : k < 1000000) (h1 : n < Lim) (h2 : n * k < Lim) (h3 : c x < Lim) (h4 : c x + n * k < Lim) (h0 : n * k ≠ 0) (hN : N < 1000000000) :
    Calls Tryz.prog 158 #[.int .i64 x, nv, .int .i64 k, .pointer (some ⟨bn, 0, none⟩)] w fun e w' => (∃ vr, e = .returned vr) ∧ CM w' b (N + 1) (fun s => if s = x then c s + n * k else c s) ∧ w.grownBy w' (some b) := by
  obtain ⟨F, hF, hFc⟩ := hM
  have HF := Lib.hid hF
  have HFc := Lib.hid hFc
  obtain ⟨v0, hv0⟩ : ∃ v0, v0 = (F x).getD (.slice none 0 0) := ⟨_, rfl⟩
  have hN0 : Nt w v0 (c x) := by
    by_cases e : c x = 0
    · rw [hv0, (hFc x).1 e, e]; exact Nt.nil w
    · obtain ⟨v, ev, hv⟩ := (hFc x).2 e
      rw [hv0, ev]; exact hv
  have HN0 := Lib.hid hN0
  have HNv := Lib.hid hn
  have HLk : Hid (∀ W, Below w.heap.size w W → (Instr.lookup 124 (.map (some b)) (.int .i64 x) false).run Tryz.prog W = .ok v0 W) := fun W h => by
    rw [hv0]; exact (HF.out.below h).lookup Tryz.underlying3 Tryz.underlying124 (zeroNat W) hx
  have HOf := Lib.hid (fun W => of_nt k W (by omega))
  have HMul := Lib.hid (fun W v (h : Below w.heap.size w W) (hv : Nt W v k) => mul_nt n k nv v W (HNv.out.below h) hv h1 (small_lim (by omega)) h2)
  have HAdd := Lib.hid (fun W v (h : Below w.heap.size w W) (hv : Nt W v (n * k)) => add_nt (c x) (n * k) v0 v W (HN0.out.below h) hv h3 h2 h4)
  have HUp := Lib.hid (fun W v (h : Below w.heap.size w W) => (HF.out.below h).update (t := 124) Tryz.underlying3 Tryz.underlying124 (by unfold maxLen; omega) hx v)
  obtain ⟨An, nn, cn, rfl⟩ := hn.shape
  obtain ⟨A0, n0, c0, rfl⟩ := hN0.shape
  have hkw : IntKind.u64.wrap (k : Int) = (k : Int) := by rw [IntKind.wrap_u64]; omega
  have hne : some bn ≠ some b := fun e => by cases e; exact map_no_cell HF.out hb
  have HNe := Lib.hid hne
  have hlk0 := HLk.out w.drew ((Below.refl _ _).drew)
  clear hF hFc hN0 hn h1 h2 h3 h4 hv0 hne
  go_enter Tryz.func158, Tryz.ntmps158
  go_region_held3 (fun w' => w'.cell? ⟨bn, 0, none⟩ = some (.map (some b))) (first | go_keep | exact cell_below hD.out hb | exact HGu.out.cell (cell_below hD.out hb) HNe.out)
    (first
      | (go_at_call 159; refine (HOf.out _).mono ?_; rintro e wa ⟨p, rfl, hp, hBa⟩; obtain ⟨Ap, np, cp, rfl⟩ := hp.shape; have hD := Lib.hid (below_then (w := w) (Below.refl _ _).drew hBa); have Hp := Lib.hid hp; have hlk1 := HLk.out _ hD.out; clear hp hBa)
      | (go_at_call 141; refine (HMul.out _ _ hD.out Hp.out).mono ?_; rintro e wb ⟨q, rfl, hq, hBb⟩; obtain ⟨Aq, nq, cq, rfl⟩ := hq.shape; have hD := Lib.hid (below_then hD.out hBb); have Hq := Lib.hid hq; have hlk2 := HLk.out _ hD.out; clear hq hBb)
      | (go_at_call 103; refine (HAdd.out _ _ hD.out Hq.out).mono ?_; rintro e wc ⟨r, rfl, hr, hBc⟩; obtain ⟨Ar, nr, cr, rfl⟩ := hr.shape; have hD := Lib.hid (below_then hD.out hBc); have Hr := Lib.hid hr; obtain ⟨wu, hup, hMu, hGu⟩ := HUp.out _ (.slice Ar nr cr) hD.out; have HMu := Lib.hid hMu; have HGu := Lib.hid hGu; clear hr hBc hMu hGu)
      | (go_at_call 102; refine (must_any _ _ _).mono ?_; rintro e wm ⟨rfl, rfl⟩))
  all_goals
    go_end0
    exact ⟨⟨_, rfl⟩, cm_put HF.out HFc.out hD.out Hr.out h0 HMu.out HGu.out⟩
end Go.Proofs.YtmbokpfgnicboaaGreat

/- The walks of package code: the spread of the scores for a copy. -/
namespace Go.Proofs.YtmbokpfgnicboaaGreat
open Go.RowKit Go.Hd Go.Sort _root_.Hd
set_option exponentiation.threshold 2000

/-- What a 0 and a 1 add; how often. -/
def q0 (Bs : Nat) (a y : Nat → Nat) (i : Nat) : Int := pt Bs (a i) 0 (y i)
def q1 (Bs : Nat) (a y : Nat → Nat) (i : Nat) : Int := pt Bs (a i) 1 (y i)
def f0 (Bs : Nat) (a : Nat → Nat) (i : Nat) : Nat := Bs - a i
/-- How often each score comes after k places. -/
def cn (Bs : Nat) (a y : Nat → Nat) (k : Nat) : Int → Nat := spr (q0 Bs a y) (q1 Bs a y) (f0 Bs a) a k
theorem pt_32 {Bs A x y : Nat} (hB : Bs ≤ 32) (h1 : 1 ≤ A) (h2 : A < Bs) : -32 ≤ pt Bs A x y ∧ pt Bs A x y ≤ 32 := by
  unfold pt; split <;> (try split) <;> (try split) <;> omega
theorem cn_out {Bs n : Nat} {a y : Nat → Nat} (hB : Bs ≤ 32) (ha : ∀ j, j < n → 1 ≤ a j ∧ a j < Bs) {k : Nat} (hk : k ≤ n) (hn : n ≤ 64) {s : Int} (h : cn Bs a y k s ≠ 0) : -2048 ≤ s ∧ s ≤ 2048 := by
  have h1 := spr_out (p0 := q0 Bs a y) (p1 := q1 Bs a y) (c0 := f0 Bs a) (c1 := a) (h := 32) (n := n) (fun i hi => by
    have h1 := pt_32 (x := 0) (y := y i) hB (ha i hi).1 (ha i hi).2
    have h2 := pt_32 (x := 1) (y := y i) hB (ha i hi).1 (ha i hi).2
    exact ⟨h1.1, h1.2, h2.1, h2.2⟩) k hk s
  rcases Int.lt_or_le s (-((32 * k : Nat) : Int)) with h2 | h2
  · exact absurd (h1 (Or.inl h2)) h
  · rcases Int.lt_or_le ((32 * k : Nat) : Int) s with h3 | h3
    · exact absurd (h1 (Or.inr h3)) h
    · omega
theorem cn_le {Bs n : Nat} {a y : Nat → Nat} (hB : Bs ≤ 32) (ha : ∀ j, j < n → 1 ≤ a j ∧ a j < Bs) {k : Nat} (hk : k ≤ n) (hn : n ≤ 64) (h2 : 2 ≤ Bs) (s : Int) : cn Bs a y k s ≤ 2 ^ 320 := by
  have h1 := spr_le (p0 := q0 Bs a y) (p1 := q1 Bs a y) (c0 := f0 Bs a) (c1 := a) (n := n) (b := Bs) (fun i hi => by have := ha i hi; unfold f0; omega) (by omega) k hk s
  refine Nat.le_trans h1 (Nat.le_trans (Nat.pow_le_pow_left hB k) ?_)
  rw [show (32 : Nat) = 2 ^ 5 from rfl, ← Nat.pow_mul]
  exact Nat.pow_le_pow_right (by omega) (by omega)
theorem cn_succ (Bs : Nat) (a y : Nat → Nat) (k : Nat) (s : Int) : cn Bs a y (k + 1) s = cn Bs a y k (s - q0 Bs a y k) * f0 Bs a k + cn Bs a y k (s - q1 Bs a y k) * a k := rfl
theorem grownBy_setCell_at (w : World) (a : Addr) (v : Value) : w.grownBy (w.setCell a v) (some a.block) :=
  ⟨rfl, rfl, rfl, by simp [World.setCell], fun k _ hne => Below.heap_setCell _ _ _ _ (fun e => hne (by rw [e]))⟩
theorem CM.off {w : World} {b N : Nat} {c : Int → Nat} (h : CM w b N c) {x : Addr} (hne : ∀ z, w.cell? x ≠ some (.int .u32 z)) (hb : b ≠ x.block) (u : Value) : CM (w.setCell x u) b N c := by
  obtain ⟨F, h1, h2⟩ := h
  refine ⟨F, h1.kept (row := some x.block) (grownBy_setCell_at w x u) (by simpa using hb), fun s => ⟨(h2 s).1, fun hs => by obtain ⟨v, e, hv⟩ := (h2 s).2 hs; exact ⟨v, e, nt_off hv hne u⟩⟩⟩
theorem bs_lim {Bs k : Nat} (hB : Bs ≤ 32) (hk : k ≤ 65) : Bs ^ k < Lim := by
  refine lt_lim (k := 325) (Nat.le_trans (Nat.pow_le_pow_left hB k) ?_) (by omega)
  rw [show (32 : Nat) = 2 ^ 5 from rfl, ← Nat.pow_mul]
  exact Nat.pow_le_pow_right (by omega) (by omega)
theorem CM.ne_cell {w : World} {b N : Nat} {c : Int → Nat} (h : CM w b N c) {g o : Nat} {v : Value} (hc : w.cell? ⟨g, o, none⟩ = some v) : b ≠ g := fun e => by
  subst e
  obtain ⟨F, h1, _⟩ := h
  exact map_no_cell h1 hc
theorem map_ne {w : World} {a : Addr} {m : Option Nat} (h : w.cell? a = some (.map m)) : ∀ z, w.cell? a ≠ some (.int .u32 z) := fun z e => by rw [h] at e; cases e
theorem slice_ne {w : World} {a : Addr} {A : Option Addr} {n c : Nat} (h : w.cell? a = some (.slice A n c)) : ∀ z, w.cell? a ≠ some (.int .u32 z) := fun z e => by rw [h] at e; cases e
theorem cm_over {w : World} {b N g : Nat} {c : Int → Nat} {m : Option Nat} {A : Option Addr} {n d : Nat} (h : CM w b N c) (h0 : w.cell? ⟨g, 0, none⟩ = some (.map m)) (h1 : w.cell? ⟨g, 1, none⟩ = some (.slice A n d)) (u u' : Value) : CM ((w.setCell ⟨g, 0, none⟩ u).setCell ⟨g, 1, none⟩ u') b N c :=
  (h.off (map_ne h0) (h.ne_cell h0) u).off (slice_ne (by rw [World.cell?_setCell_other (h := by simp)]; exact h1)) (h.ne_cell h0) u'
theorem nt_over_ms {w : World} {v : Value} {a g : Nat} {m : Option Nat} {A : Option Addr} {n d : Nat} (h : Nt w v a) (h0 : w.cell? ⟨g, 0, none⟩ = some (.map m)) (h1 : w.cell? ⟨g, 1, none⟩ = some (.slice A n d)) (u u' : Value) : Nt ((w.setCell ⟨g, 0, none⟩ u).setCell ⟨g, 1, none⟩ u') v a :=
  nt_off (nt_off h (map_ne h0) u) (slice_ne (by rw [World.cell?_setCell_other (h := by simp)]; exact h1)) u'
theorem rng_no_cell {w : World} {b r N cnt o : Nat} {F : Int → Option Value} {left : Int → Bool} {v : Value} (h : MapRng w Tryz.prog 3 b r N F left cnt) (hc : w.cell? ⟨r, o, none⟩ = some v) : False := by
  obtain ⟨D, l, ⟨es, clock, since, seen, c0, _, _, _, _, hr, _⟩, _⟩ := h
  simp only [World.cell?] at hc
  rw [hr] at hc
  simp at hc
theorem nt_grown_rng {w w1 : World} {x : Value} {m b r N cnt : Nat} {F : Int → Option Value} {left : Int → Bool} (h : Nt w x m) (hM : MapRng w Tryz.prog 3 b r N F left cnt) (hg : w.grownBy w1 (some r)) : Nt w1 x m := by
  obtain ⟨n, f, ⟨A, cap, hv, h1, h2, h3⟩, h4⟩ := h
  refine ⟨n, f, ⟨A, cap, hv, h1, h2, fun hn => ?_⟩, h4⟩
  obtain ⟨g, off, hA, hc⟩ := h3 hn
  refine ⟨g, off, hA, fun j hj => ?_⟩
  refine hg.cell (hc j hj) (fun e => ?_)
  cases e
  exact rng_no_cell hM (hc j hj)
theorem CM.grown_rng {w w1 : World} {b' b r M N cnt : Nat} {c : Int → Nat} {F : Int → Option Value} {left : Int → Bool} (h : CM w b' M c) (hM : MapRng w Tryz.prog 3 b r N F left cnt) (hg : w.grownBy w1 (some r)) (hne : b' ≠ r) : CM w1 b' M c := by
  obtain ⟨F', h1, h2⟩ := h
  exact ⟨F', h1.kept hg (by simpa using hne), fun x => ⟨(h2 x).1, fun hx => by obtain ⟨v, e, hv⟩ := (h2 x).2 hx; exact ⟨v, e, nt_grown_rng hv hM hg⟩⟩⟩
theorem lim_327 {x : Nat} (h : x ≤ 128 * 2 ^ 320) : x < Lim := lt_lim (k := 327) (Nat.le_trans h (by rw [show (128 : Nat) = 2 ^ 7 from rfl, ← Nat.pow_add]; exact Nat.le_refl _)) (by omega)
theorem nt_b {w : World} {v : Value} {a b : Nat} (h : Nt w v a) (e : a = b) : Nt w v b := e ▸ h

set_option maxRecDepth 100000 in
set_option maxHeartbeats 4000000 in
theorem spreadOf_any (U : Int) (Bs : Nat) (v : Value) (K : Nat → Nat) (n : Nat) (a Y : Nat → Nat) (ys : Value) (w : World) (h : RdV w v n (fun j => .int .i64 (a j : Int))) (hy : Rd w .u8 ys n Y) (hn : n ≤ 64) (hB2 : 2 ≤ Bs) (hB : Bs ≤ 32) (ha : ∀ j, j < n → 1 ≤ a j ∧ a j < Bs) (hY : ∀ j, j < n → Y j ≤ 2) :
    Calls Tryz.prog 130 #[scV U (Bs : Int) v K, ys] w fun e w' => ∃ b av, e = .returned (.agg #[.map (some b), av]) ∧ CM w' b 8194 (cn Bs a Y n) ∧ Nt w' av (Bs ^ n) ∧ Below w.heap.size w w' := by
  have HV := Lib.hid h
  have HYs := Lib.hid hy
  have HAa := Lib.hid ha
  have HY := Lib.hid hY
  obtain ⟨A, cap, rfl, _, _, h3⟩ := h
  obtain ⟨A2, cap2, rfl, _, _, h4⟩ := hy
  have H3 := Lib.hid h3
  have HS := Lib.hid (sc_row w U (Bs : Int) (.slice A n cap) K 46)
  have HA := Lib.hid ((Below.refl _ w).alloc (Nat.le_refl _) (.cells #[.int .i64 U, .int .i64 (Bs : Int), (.slice A n cap), .int .u8 (K 0), .int .u8 (K 1), .int .u8 (K 2), .int .u8 (K 3), .int .u8 (K 4), .int .u8 (K 5), .int .u8 (K 6), .int .u8 (K 7), .int .u8 (K 8), .int .u8 (K 9), .int .u8 (K 10), .int .u8 (K 11), .int .u8 (K 12), .int .u8 (K 13), .int .u8 (K 14), .int .u8 (K 15)] 46))
  have hmm := @run_makeMap Tryz.prog
  clear h3 h4 ha hY
  go_enter Tryz.func130, Tryz.ntmps130
  go_wp2_with fail
  refine (one_nt _).mono ?_
  rintro e w1 ⟨v1, rfl, hN1, hB1⟩
  have hm1 : MapIs w1 Tryz.prog 3 (w.heap.size + 1 + 1) 0 (fun _ => none) := by
    have h := (mapIs_made ((w.alloc (.cells #[.int .i64 U, .int .i64 (Bs : Int), (.slice A n cap), .int .u8 (K 0), .int .u8 (K 1), .int .u8 (K 2), .int .u8 (K 3), .int .u8 (K 4), .int .u8 (K 5), .int .u8 (K 6), .int .u8 (K 7), .int .u8 (K 8), .int .u8 (K 9), .int .u8 (K 10), .int .u8 (K 11), .int .u8 (K 12), .int .u8 (K 13), .int .u8 (K 14), .int .u8 (K 15)] 46)).alloc (.cells #[.map none, .slice none 0 0] 126)) Tryz.prog 3).below hB1
    rw [World.size_alloc, World.size_alloc] at h
    exact h
  have HB1 := Lib.hid (belowB_then ((HA.out.alloc HA.out.size (.cells #[.map none, .slice none 0 0] 126)).alloc (by simp; omega) (.map #[] 0)) (by simp; omega) hB1)
  have HS1 := Lib.hid (((HS.out.alloc (.cells #[.map none, .slice none 0 0] 126)).alloc (.map #[] 0)).of_block (hB1.block w.heap.size (by simp; omega)))
  have HN1 := Lib.hid hN1
  have HM1 := Lib.hid hm1
  obtain ⟨A1, n1, c1, rfl⟩ := hN1.shape
  have hsz1 : w.heap.size + 1 + 1 < w1.heap.size := hm1.lt
  have hB1' := Lib.hid hB1
  clear hN1 hB1 hm1
  go_wp2_with (refine wpList_update_mi rfl _ _ _ 124 (Or.inr rfl) 3 25 Tryz.underlying3 Tryz.underlying124 (w.heap.size + 1 + 1) 0 _ rfl HM1.out (by decide) 0 rfl (wf_of (by decide) (by decide)) (.slice A1 n1 c1) rfl ?_; intro w2 hM2 hg2; have HM2 := Lib.hid hM2; have HG2 := Lib.hid hg2; clear hM2 hg2)
  refine (one_nt _).mono ?_
  rintro e w3 ⟨v3, rfl, hN3, hB3⟩
  obtain ⟨bm, hbm⟩ : ∃ bm, bm = w.heap.size + 1 + 1 := ⟨_, rfl⟩
  rw [← hbm] at HM1 HM2 HG2 hsz1 ⊢
  have HC3 : Hid (CM w3 bm 1 (cn Bs a Y 0)) := by
    refine CM.below ⟨_, HM2.out, fun x => ?_⟩ hB3
    have e0 : cn Bs a Y 0 x = if x = 0 then 1 else 0 := rfl
    rw [e0]
    by_cases e : x = 0
    · rw [if_pos e, if_pos e]
      exact ⟨fun h => absurd h (by omega), fun _ => ⟨_, rfl, nt_grown_map HN1.out HM1.out HG2.out⟩⟩
    · rw [if_neg e, if_neg e]
      exact ⟨fun _ => rfl, fun h => absurd rfl h⟩
  have HB3 := Lib.hid (belowB_then (HB1.out.grown HG2.out (by have := HB1.out.size; omega) (fun j hj => by cases hj; omega)) (by have := HB1.out.size; have := HG2.out.size; omega) hB3)
  have HS3 := Lib.hid ((HS1.out.of_block (HG2.out.block w.heap.size HS1.out.lt (by simp [hbm]; omega))).of_block (hB3.block w.heap.size (by have := HS1.out.lt; have := HG2.out.size; omega)))
  have HN3 := Lib.hid hN3
  obtain ⟨A3, n3, c3, rfl⟩ := hN3.shape
  have hbl := HC3.out.lt
  have hsl := HS3.out.lt
  have p1 := HS3.out.cell (i := 1) (by omega)
  have p2 := HS3.out.cell (i := 2) (by omega)
  dsimp only [scF] at p1 p2
  have HR3 : Hid (w3.rowIs (w.heap.size + 1) 126 2 (fun i => if i = 0 then .map none else .slice none 0 0)) := by
    have h := row2 (w.alloc (.cells #[.int .i64 U, .int .i64 (Bs : Int), (.slice A n cap), .int .u8 (K 0), .int .u8 (K 1), .int .u8 (K 2), .int .u8 (K 3), .int .u8 (K 4), .int .u8 (K 5), .int .u8 (K 6), .int .u8 (K 7), .int .u8 (K 8), .int .u8 (K 9), .int .u8 (K 10), .int .u8 (K 11), .int .u8 (K 12), .int .u8 (K 13), .int .u8 (K 14), .int .u8 (K 15)] 46)) (.map none) (.slice none 0 0) 126
    rw [World.size_alloc] at h
    exact (((h.alloc (.map #[] 0)).of_block (hB1'.out.block _ (by simp))).of_block (HG2.out.block _ (by have := HB1.out.size; have := hsz1; omega) (by simp [hbm]))).of_block (hB3.block _ (by have := HG2.out.size; omega))
  clear hN3 hB3 HM1 HM2 HG2 HN1 HS1 HB1 hbm hsz1 hB1'
  have HSp3 := Lib.hid hsl
  go_wp2_with fail
  go_loopw [21] (fun s21 wr => ∃ (k b : Nat) (av : Value), k ≤ n ∧ s21 = .int .i64 k ∧ wr.rowIs w3.heap.size 126 2 (fun i => if i = 0 then .map (some b) else av) ∧ Hid (CM wr b 8194 (cn Bs a Y k)) ∧ Hid (Nt wr av (Bs ^ k)) ∧ Below w3.heap.size w3 wr) (fun s21 _ => n - (intOf s21).toNat)
  case atStart => exact ⟨0, bm, _, Nat.zero_le _, rfl, row2 _ _ _ _, (HC3.out.below ((Below.refl _ _).alloc (Nat.le_refl _) _)).mono (by omega), HN3.out.below ((Below.refl _ _).alloc (Nat.le_refl _) _), (Below.refl _ _).alloc (Nat.le_refl _) _⟩
  case round =>
    obtain ⟨k, b, av, hk, rfl, hrow, hcm, hav, hbel⟩ := hrel
    obtain ⟨W0, rfl⟩ : ∃ W0 : World, W0 = wr := ⟨_, rfl⟩
    have HRow := Lib.hid hrow
    have HB := Lib.hid hbel
    have hsz := hbel.size
    obtain ⟨Aa, na, ca, rfl⟩ := hav.out.shape
    have HS0 := Lib.hid (HS3.out.of_block (hbel.block _ hsl))
    clear hrow hbel p1 p2
    by_cases hlt : k < n
    · obtain ⟨b3, off3, rfl, hc⟩ := H3.out (by omega)
      have hsp3 := HSp3.out
      have HBw := Lib.hid (HB3.out.trans (HB.out.mono (Nat.le_of_lt hsp3)))
      have hak1 := (HAa.out k hlt).1
      have hak2 := (HAa.out k hlt).2
      have HG := Lib.hid (gains_any U Bs (.slice (some ⟨b3, off3, none⟩) n cap) K n a Y (.slice A2 n cap2) k W0 (HV.out.below HBw.out) (HYs.out.below HBw.out) hlt (by omega) (by omega) (HY.out k hlt))
      have hb0 := pt_32 (x := 0) (y := Y k) hB hak1 hak2
      have hb1 := pt_32 (x := 1) (y := Y k) hB hak1 hak2
      have HQ0 : Hid (q0 Bs a Y k = pt Bs (a k) 0 (Y k)) := rfl
      have HQ1 : Hid (q1 Bs a Y k = pt Bs (a k) 1 (Y k)) := rfl
      have hci : W0.cell? ⟨b3, off3 + k, none⟩ = some (.int .i64 (a k : Int)) := cell_below HBw.out (hc k hlt)
      have c5 : W0.cell? ⟨w3.heap.size, 0, none⟩ = some (.map (some b)) := HRow.out.cell (i := 0) (by omega)
      have c51 : W0.cell? ⟨w3.heap.size, 1, none⟩ = some (.slice Aa na ca) := HRow.out.cell (i := 1) (by omega)
      have p1 := HS0.out.cell (i := 1) (by omega)
      dsimp only [scF] at p1
      obtain ⟨F, hF, hFc⟩ := hcm.out
      have HF := Lib.hid hF
      have HFc := Lib.hid hFc
      have hbW : b < W0.heap.size := hcm.out.lt
      have hf0 : (Bs : Int) - (a k : Int) = ((f0 Bs a k : Nat) : Int) := by unfold f0; omega
      have hf1 : 1 ≤ f0 Bs a k := by unfold f0; omega
      have hf2 : f0 Bs a k ≤ 32 := by unfold f0; omega
      have HCs := Lib.hid (fun s => cn_succ Bs a Y k s)
      have HCo := Lib.hid (fun s (h : cn Bs a Y k s ≠ 0) => cn_out (y := Y) hB HAa.out hk hn h)
      have HCl := Lib.hid (fun s => cn_le (y := Y) hB HAa.out hk hn hB2 s)
      have HCl1 := Lib.hid (fun s => cn_le (k := k + 1) (y := Y) hB HAa.out hlt hn hB2 s)
      rw [HQ0.out, HQ1.out] at HCs
      generalize pt Bs (a k) 0 (Y k) = P0 at *
      generalize pt Bs (a k) 1 (Y k) = P1 at *
      generalize f0 Bs a k = G0 at *
      generalize hak : a k = G1 at *
      generalize hC1 : cn Bs a Y (k + 1) = C1 at *
      have HC1 := Lib.hid hC1
      clear hC1
      generalize cn Bs a Y k = C0 at *
      clear hc hF hFc
      go_wp2_with (refine wp_load_whole rfl 46 _ rfl w.heap.size rfl 46 19 _ _ _ HS0.out rfl (sc_cs _ _ _ _) Tryz.underlying46 rfl sc_size ?_)
      refine HG.out.mono ?_
      rintro e w4 ⟨rfl, hB4⟩
      have HB4 := Lib.hid hB4
      have hF4 : Hid (MapIs w4 Tryz.prog 3 b 8194 F) := HF.out.below hB4
      have hz4 := hB4.size
      have hl34 : w3.heap.size < w4.heap.size := Nat.lt_of_lt_of_le HRow.out.lt hz4
      have hlw4 : w.heap.size < w4.heap.size := by omega
      have hl34b : w3.heap.size < w4.heap.size + 1 := by omega
      have hl34c : w3.heap.size < w4.heap.size + 1 + 1 := by omega
      have p1 := cell_below hB4 p1
      have c5 := cell_below hB4 c5
      have c51 := cell_below hB4 c51
      clear hB4
      go_wp2_with (first
        | (at_range; refine wpList_range_mi rfl _ 124 rfl 3 25 Tryz.underlying3 Tryz.underlying124 (.slice none 0 0) (zeroNat _) b _ _ rfl (hF4.out.below ((((Below.refl _ _).alloc (Nat.le_refl _) _).alloc (by simp) _).alloc (by simp; omega) _)) ?_; intro w5 cnt hrg hg5 hs5)
        | go_in)
      go_frame
      have hsz5 : (((w4.alloc (.cells #[.int .i64 P0, .int .i64 P1] 169)).alloc (.map #[] 0)).alloc (.cells #[.map (some (w4.heap.size + 1))] 124)).heap.size = w4.heap.size + 3 := by simp
      rw [hsz5] at hrg hs5 ⊢
      have hrow5 := ((row2 w4 (.int .i64 P0) (.int .i64 P1) 169).alloc (.map #[] 0)).alloc (.cells #[.map (some (w4.heap.size + 1))] 124)
      have u0 : w5.cell? ⟨w4.heap.size, 0, none⟩ = some (.int .i64 P0) := hg5.cell (hrow5.cell (i := 0) (by omega)) (by simp)
      have u1 : w5.cell? ⟨w4.heap.size, 1, none⟩ = some (.int .i64 P1) := hg5.cell (hrow5.cell (i := 1) (by omega)) (by simp)
      have u2 : w5.cell? ⟨w4.heap.size + 1 + 1, 0, none⟩ = some (.map (some (w4.heap.size + 1))) := by
        have h := (cell_new ((w4.alloc (.cells #[.int .i64 P0, .int .i64 P1] 169)).alloc (.map #[] 0)) (.map (some (w4.heap.size + 1))) 124).1
        rw [World.size_alloc, World.size_alloc] at h
        exact hg5.cell h (by simp)
      have hb5 : Below w4.heap.size w4 w5 := (((((Below.refl _ w4).alloc (Nat.le_refl _) (.cells #[.int .i64 P0, .int .i64 P1] 169)).alloc (by simp) (.map #[] 0)).alloc (by simp; omega) (.cells #[.map (some (w4.heap.size + 1))] 124)).grown hg5 (by simp; omega) (fun j hj => by cases hj))
      have HCm5 : Hid (CM w5 (w4.heap.size + 1) 0 (fun _ => 0)) := by
        have h := ((cm_made (w4.alloc (.cells #[.int .i64 P0, .int .i64 P1] 169))).below ((Below.refl _ _).alloc (Nat.le_refl _) (.cells #[.map (some (w4.heap.size + 1))] 124))).below (w' := w5) ⟨hg5.os, hg5.tape, hg5.output, hg5.size, fun k hk => hg5.block k hk (by simp)⟩
        rw [World.size_alloc] at h
        exact h
      have HB5 := Lib.hid hb5
      clear hg5 hrow5 hb5 hsz5 hs5
      go_loopw [11] (fun _ wr => ∃ (left : Int → Bool) (cnt5 N : Nat), MapRng wr Tryz.prog 3 b (w4.heap.size + 3) 8194 F left cnt5 ∧ Hid (CM wr (w4.heap.size + 1) N (nxt C0 P0 P1 G0 G1 left)) ∧ N + 2 * cntW left 2048 ≤ 8194 ∧ wr.cell? ⟨w4.heap.size, 0, none⟩ = some (.int .i64 P0) ∧ wr.cell? ⟨w4.heap.size, 1, none⟩ = some (.int .i64 P1) ∧ wr.cell? ⟨w4.heap.size + 1 + 1, 0, none⟩ = some (.map (some (w4.heap.size + 1))) ∧ Below w4.heap.size w4 wr) (fun _ wr => wr.rangeLeft b (w4.heap.size + 3))
      case atStart =>
        refine ⟨_, cnt, 0, hrg, HCm5.out.congr (fun x => (nxt_start (fun y hy => ?_) x).symm), by have := cntW_le (fun x => (F x).isSome) 2048; omega, u0, u1, u2, HB5.out⟩
        obtain ⟨v, e, _⟩ := (HFc.out y).2 hy
        show (F y).isSome = true
        rw [e]; rfl
      case round =>
        obtain ⟨left, cnt5, N, hrg5, hcm5, hN, u0, u1, u2, hbel5⟩ := hrel
        obtain ⟨W5, rfl⟩ : ∃ W5 : World, W5 = wr := ⟨_, rfl⟩
        have HBel5 := Lib.hid hbel5
        have p1 := cell_below hbel5 p1
        have c5 := cell_below hbel5 c5
        have c51 := cell_below hbel5 c51
        clear hbel5
        go_wp2_with (first
          | (at_next; refine wpList_next_mi rfl _ rfl 3 Tryz.underlying3 b (w4.heap.size + 3) _ _ _ _ rfl hrg5 ?_ ?_)
          | go_in)
        · intro hdone
          have HD : Hid (∀ x, C0 x ≠ 0 → left x = false) := fun x hx => by
            have := HCo.out x hx
            exact hdone x (wf_of (by omega) (by omega))
          have HCn : Hid (CM W5 (w4.heap.size + 1) 8194 C1) := (hcm5.out.congr (fun s => (nxt_end HD.out s).trans (HCs.out s).symm)).mono (by omega)
          have hrow5 := (HRow.out.of_block (HB4.out.block _ HRow.out.lt)).of_block (HBel5.out.block _ hl34)
          have z5 := hrow5.frozen 0
          have HRow6 : Hid ((W5.setCell ⟨w3.heap.size, 0, none⟩ (.map (some (w4.heap.size + 1)))).rowIs w3.heap.size 126 2 (fun i => if i = 0 then .map (some (w4.heap.size + 1)) else .slice Aa na ca)) := (hrow5.set 0 _).congr fun i hi => by
            by_cases e : i = 0
            · rw [if_pos e, if_pos e]
            · rw [if_neg e, if_neg e, if_neg e]
          have HCm6 : Hid (CM (W5.setCell ⟨w3.heap.size, 0, none⟩ (.map (some (w4.heap.size + 1)))) (w4.heap.size + 1) 8194 C1) := HCn.out.off (map_ne c5) (HCn.out.ne_cell c5) _
          have HN6 : Hid (Nt (W5.setCell ⟨w3.heap.size, 0, none⟩ (.map (some (w4.heap.size + 1)))) (.slice Aa na ca) (Bs ^ k)) := nt_off ((hav.out.below HB4.out).below HBel5.out) (map_ne c5) _
          have HB6 : Hid (Below w3.heap.size w3 (W5.setCell ⟨w3.heap.size, 0, none⟩ (.map (some (w4.heap.size + 1))))) := ((HB.out.trans (HB4.out.mono (by omega))).trans (HBel5.out.mono (by omega))).setCell (p := ⟨w3.heap.size, 0, none⟩) (Nat.le_refl _) _
          have hp1 : (W5.setCell ⟨w3.heap.size, 0, none⟩ (.map (some (w4.heap.size + 1)))).cell? ⟨w.heap.size, 1, none⟩ = some (.int .i64 Bs) := by
            rw [World.cell?_setCell_other (h := by first | (simp; done) | (simp; omega))]; exact p1
          clear hdone hrow5
          go_wp2_with fail
          generalize W5.setCell ⟨w3.heap.size, 0, none⟩ (.map (some (w4.heap.size + 1))) = W6 at *
          have p1 := hp1
          have e1 : W6.cell? ⟨w3.heap.size, 1, none⟩ = some (.slice Aa na ca) := HRow6.out.cell (i := 1) (by omega)
          have f1 := HRow6.out.frozen 1
          have HOf := Lib.hid (fun W => of_nt Bs W (by omega))
          have HMul := Lib.hid (fun W v (h : Below W6.heap.size W6 W) (hv : Nt W v Bs) => mul_nt (Bs ^ k) Bs (.slice Aa na ca) v W (HN6.out.below h) hv (bs_lim hB (by omega)) (small_lim (by omega)) (by rw [← Nat.pow_succ]; exact bs_lim hB (by omega)))
          have hBw : IntKind.u64.wrap (Bs : Int) = (Bs : Int) := by rw [IntKind.wrap_u64]; omega
          have HD0 := Lib.hid (Below.refl W6.heap.size W6).drew
          clear u0 u1 u2 c5 c51 hcm5 hrg5 hN
          have hl3ne : w3.heap.size ≠ w.heap.size := by omega
          refine wp_region_held_drew (S := fun w' : World => w'.cell? ⟨w.heap.size, 1, none⟩ = some (.int .i64 Bs)) (by kernel_rfl) (by simpa using p1) (fun hHeld => ?_)
          (refine wpAnyH_take (i := 0) (v := ?_) rfl (by kernel_rfl) (by kernel_rfl) (by kernel_rfl) (fun _ _ _ h => h) (Or.inl ⟨by rfl, ?_⟩) (by assumption) ?_; rotate_left; focus ((intro w hSw; (try dsimp only at hSw); go_simp) <;> (try with_reducible rfl)); (try simp only [Act.put, List.setIfInBounds_toArray, List.set_cons_zero, List.set_cons_succ]))
          (refine wpAnyH_take (i := 2) (v := ?_) rfl (by kernel_rfl) (by kernel_rfl) (by kernel_rfl) (fun _ _ _ h => h) (Or.inl ⟨by rfl, ?_⟩) (by assumption) ?_; rotate_left; focus ((intro w hSw; (try dsimp only at hSw); go_simp) <;> (try with_reducible rfl)); (try simp only [Act.put, List.setIfInBounds_toArray, List.set_cons_zero, List.set_cons_succ]))
          (refine wpAnyH_take (i := 3) (v := ?_) rfl (by kernel_rfl) (by kernel_rfl) (by kernel_rfl) (fun _ _ _ h => h) (Or.inl ⟨by rfl, ?_⟩) (by assumption) ?_; rotate_left; focus ((intro w hSw; (try dsimp only at hSw); go_simp) <;> (try with_reducible rfl)); (try simp only [Act.put, List.setIfInBounds_toArray, List.set_cons_zero, List.set_cons_succ]))
          (refine wpAnyH_take (i := 4) (v := ?_) rfl (by kernel_rfl) (by kernel_rfl) (by kernel_rfl) (fun _ _ _ h => h) (Or.inl ⟨by rfl, ?_⟩) (by assumption) ?_; rotate_left; focus ((intro w hSw; (try dsimp only at hSw); go_simp) <;> (try with_reducible rfl)); (try simp only [Act.put, List.setIfInBounds_toArray, List.set_cons_zero, List.set_cons_succ]))
          refine wpAnyH_ready (rs := [1, 5]) (by kernel_rfl) (by simp) (AllReadyH.cons rfl (fun K hK => ?_) (AllReadyH.cons rfl (fun K hK => ?_) AllReadyH.nil))
          · go_simp
            refine hK.out _ _ (by exact hHeld) (fun hHeld2 => ?_)
            clear hK K
            (try simp only [Act.put, List.setIfInBounds_toArray, List.set_cons_zero, List.set_cons_succ])
            (refine wpAnyH_ready (rs := [5]) (by kernel_rfl) (by simp) (AllReadyH.cons rfl (fun K hK => ?_) AllReadyH.nil); go_simp)
            refine (HOf.out _).mono ?_
            rintro e wa ⟨pv, rfl, hpv, hBa⟩; obtain ⟨Ap, np, cp, rfl⟩ := hpv.shape; have HD1 := Lib.hid (below_then HD0.out hBa); have Hp := Lib.hid hpv; clear hpv hBa
            (try dsimp only)
            refine hK.out _ _ (cell_below HD1.out p1) (fun hHeld => ?_)
            clear hK K
            (try simp only [Act.put, List.setIfInBounds_toArray, List.set_cons_zero, List.set_cons_succ])
            (refine wpAnyH_ready (rs := [6]) (by kernel_rfl) (by simp) (AllReadyH.cons rfl (fun K hK => ?_) AllReadyH.nil); go_simp)
            refine (HMul.out _ _ HD1.out Hp.out).mono ?_
            rintro e wb ⟨qv, rfl, hqv, hBb⟩; obtain ⟨Aq, nq, cq, rfl⟩ := hqv.shape; have HD2 := Lib.hid (below_then HD1.out hBb); have Hq := Lib.hid hqv; clear hqv hBb
            (try dsimp only)
            refine hK.out _ _ (cell_below HD2.out p1) (fun hHeld => ?_)
            clear hK K
            (try simp only [Act.put, List.setIfInBounds_toArray, List.set_cons_zero, List.set_cons_succ])
            (refine wpAnyH_take (i := 7) (v := ?_) rfl (by kernel_rfl) (by kernel_rfl) (by kernel_rfl) (fun _ _ _ h => h) (Or.inl ⟨by rfl, ?_⟩) (by assumption) ?_; rotate_left; focus ((intro w hSw; (try dsimp only at hSw); go_simp) <;> (try with_reducible rfl)); (try simp only [Act.put, List.setIfInBounds_toArray, List.set_cons_zero, List.set_cons_succ]))
            (refine wpAnyH_take (i := 8) (v := ?_) rfl (by kernel_rfl) (by kernel_rfl) (by kernel_rfl) (fun _ _ _ h => h) (Or.inl ⟨by rfl, ?_⟩) (by assumption) ?_; rotate_left; focus ((intro w hSw; (try dsimp only at hSw); go_simp) <;> (try with_reducible rfl)); (try simp only [Act.put, List.setIfInBounds_toArray, List.set_cons_zero, List.set_cons_succ]))
            (refine wpAnyH_ready (rs := [9]) (by kernel_rfl) (by simp) (AllReadyH.cons rfl (fun K hK => ?_) AllReadyH.nil); go_simp)
            refine (must_any _ _ _).mono ?_
            rintro e wm ⟨rfl, rfl⟩
            (try dsimp only)
            refine hK.out _ _ (cell_below HD2.out p1) (fun hHeld => ?_)
            clear hK K
            (try simp only [Act.put, List.setIfInBounds_toArray, List.set_cons_zero, List.set_cons_succ])
            have e1m := cell_below HD2.out e1
            have f1m := (HRow6.out.of_block (HD2.out.block _ HRow6.out.lt)).frozen 1
            (refine wpAnyH_take (i := 10) (v := ?_) rfl (by kernel_rfl) (by kernel_rfl) (by kernel_rfl) (fun _ _ _ h => h) (Or.inl ⟨by rfl, ?_⟩) (by assumption) ?_; rotate_left; focus ((intro w hSw; (try dsimp only at hSw); go_simp) <;> (try with_reducible rfl)); (try simp only [Act.put, List.setIfInBounds_toArray, List.set_cons_zero, List.set_cons_succ]))
            (refine wpAnyH_ready (rs := [11]) (by kernel_rfl) (by simp) (AllReadyH.cons rfl (fun K hK => ?_) AllReadyH.nil); go_simp)
            refine hK.out _ _ (by rw [World.cell?_setCell_other (h := by simp [hl3ne])]; exact cell_below HD2.out p1) (fun hHeld => ?_)
            clear hK K
            (try simp only [Act.put, List.setIfInBounds_toArray, List.set_cons_zero, List.set_cons_succ])
            refine wpAnyH_done (by kernel_rfl) ?_ _
            go_wp2_with fail
            go_roundw
            case rel =>
              refine ⟨k + 1, w4.heap.size + 1, .slice Aq nq cq, by omega, by go_num, ?_, ?_, ?_, ?_⟩
              · refine ((HRow6.out.of_block (HD2.out.block _ HRow6.out.lt)).set 1 _).congr fun i hi => ?_
                by_cases e : i = 1
                · rw [if_pos e, if_neg (by omega)]
                · rw [if_neg e, if_pos (by omega), if_pos (by omega)]
              · refine (show CM _ _ _ _ from ?_); rw [HC1.out]; exact (HCm6.out.below HD2.out).off (slice_ne e1m) ((HCm6.out.below HD2.out).ne_cell e1m) _
              · refine (show Nt _ _ _ from ?_); exact nt_off (nt_b Hq.out (by rw [Nat.pow_succ])) (slice_ne e1m) _
              · exact (belowB_then HB6.out HB6.out.size HD2.out).setCell (p := ⟨w3.heap.size, 1, none⟩) (Nat.le_refl _) _
            case measure => simp [intOf]; omega
          · go_simp
            refine (HOf.out _).mono ?_
            rintro e wa ⟨pv, rfl, hpv, hBa⟩; obtain ⟨Ap, np, cp, rfl⟩ := hpv.shape; have HD1 := Lib.hid (below_then HD0.out hBa); have Hp := Lib.hid hpv; clear hpv hBa
            (try dsimp only)
            refine hK.out _ _ (cell_below HD1.out p1) (fun hHeld => ?_)
            clear hK K
            (try simp only [Act.put, List.setIfInBounds_toArray, List.set_cons_zero, List.set_cons_succ])
            have e1a := cell_below HD1.out e1
            (refine wpAnyH_ready (rs := [1]) (by kernel_rfl) (by simp) (AllReadyH.cons rfl (fun K hK => ?_) AllReadyH.nil); go_simp)
            refine hK.out _ _ (cell_below HD1.out p1) (fun hHeld => ?_)
            clear hK K
            (try simp only [Act.put, List.setIfInBounds_toArray, List.set_cons_zero, List.set_cons_succ])
            (refine wpAnyH_ready (rs := [6]) (by kernel_rfl) (by simp) (AllReadyH.cons rfl (fun K hK => ?_) AllReadyH.nil); go_simp)
            refine (HMul.out _ _ HD1.out Hp.out).mono ?_
            rintro e wb ⟨qv, rfl, hqv, hBb⟩; obtain ⟨Aq, nq, cq, rfl⟩ := hqv.shape; have HD2 := Lib.hid (below_then HD1.out hBb); have Hq := Lib.hid hqv; clear hqv hBb
            (try dsimp only)
            refine hK.out _ _ (cell_below HD2.out p1) (fun hHeld => ?_)
            clear hK K
            (try simp only [Act.put, List.setIfInBounds_toArray, List.set_cons_zero, List.set_cons_succ])
            (refine wpAnyH_take (i := 7) (v := ?_) rfl (by kernel_rfl) (by kernel_rfl) (by kernel_rfl) (fun _ _ _ h => h) (Or.inl ⟨by rfl, ?_⟩) (by assumption) ?_; rotate_left; focus ((intro w hSw; (try dsimp only at hSw); go_simp) <;> (try with_reducible rfl)); (try simp only [Act.put, List.setIfInBounds_toArray, List.set_cons_zero, List.set_cons_succ]))
            (refine wpAnyH_take (i := 8) (v := ?_) rfl (by kernel_rfl) (by kernel_rfl) (by kernel_rfl) (fun _ _ _ h => h) (Or.inl ⟨by rfl, ?_⟩) (by assumption) ?_; rotate_left; focus ((intro w hSw; (try dsimp only at hSw); go_simp) <;> (try with_reducible rfl)); (try simp only [Act.put, List.setIfInBounds_toArray, List.set_cons_zero, List.set_cons_succ]))
            (refine wpAnyH_ready (rs := [9]) (by kernel_rfl) (by simp) (AllReadyH.cons rfl (fun K hK => ?_) AllReadyH.nil); go_simp)
            refine (must_any _ _ _).mono ?_
            rintro e wm ⟨rfl, rfl⟩
            (try dsimp only)
            refine hK.out _ _ (cell_below HD2.out p1) (fun hHeld => ?_)
            clear hK K
            (try simp only [Act.put, List.setIfInBounds_toArray, List.set_cons_zero, List.set_cons_succ])
            have e1m := cell_below HD2.out e1
            have f1m := (HRow6.out.of_block (HD2.out.block _ HRow6.out.lt)).frozen 1
            (refine wpAnyH_take (i := 10) (v := ?_) rfl (by kernel_rfl) (by kernel_rfl) (by kernel_rfl) (fun _ _ _ h => h) (Or.inl ⟨by rfl, ?_⟩) (by assumption) ?_; rotate_left; focus ((intro w hSw; (try dsimp only at hSw); go_simp) <;> (try with_reducible rfl)); (try simp only [Act.put, List.setIfInBounds_toArray, List.set_cons_zero, List.set_cons_succ]))
            (refine wpAnyH_ready (rs := [11]) (by kernel_rfl) (by simp) (AllReadyH.cons rfl (fun K hK => ?_) AllReadyH.nil); go_simp)
            refine hK.out _ _ (by rw [World.cell?_setCell_other (h := by simp [hl3ne])]; exact cell_below HD2.out p1) (fun hHeld => ?_)
            clear hK K
            (try simp only [Act.put, List.setIfInBounds_toArray, List.set_cons_zero, List.set_cons_succ])
            refine wpAnyH_done (by kernel_rfl) ?_ _
            go_wp2_with fail
            go_roundw
            case rel =>
              refine ⟨k + 1, w4.heap.size + 1, .slice Aq nq cq, by omega, by go_num, ?_, ?_, ?_, ?_⟩
              · refine ((HRow6.out.of_block (HD2.out.block _ HRow6.out.lt)).set 1 _).congr fun i hi => ?_
                by_cases e : i = 1
                · rw [if_pos e, if_neg (by omega)]
                · rw [if_neg e, if_pos (by omega), if_pos (by omega)]
              · refine (show CM _ _ _ _ from ?_); rw [HC1.out]; exact (HCm6.out.below HD2.out).off (slice_ne e1m) ((HCm6.out.below HD2.out).ne_cell e1m) _
              · refine (show Nt _ _ _ from ?_); exact nt_off (nt_b Hq.out (by rw [Nat.pow_succ])) (slice_ne e1m) _
              · exact (belowB_then HB6.out HB6.out.size HD2.out).setCell (p := ⟨w3.heap.size, 1, none⟩) (Nat.le_refl _) _
            case measure => simp [intOf]; omega
        · intro x c6 w6 cnt6 hwx hlx hFx hrg6 hlt6 hg6 hs6 hen
          have hx0 : C0 x ≠ 0 := fun h => by have := (HFc.out x).1 h; rw [this] at hFx; cases hFx
          obtain ⟨v6, e6, hN6⟩ := (HFc.out x).2 hx0
          obtain rfl : v6 = c6 := by rw [e6] at hFx; cases hFx; rfl
          obtain ⟨hxa, hxb⟩ := HCo.out x hx0
          obtain ⟨hpa, hpb⟩ := hb0
          obtain ⟨hpc, hpd⟩ := hb1
          obtain ⟨L6, hL6'⟩ : ∃ L : Int → Bool, L = fun z => left z && !decide (z = x) := ⟨_, rfl⟩
          rw [← hL6'] at hrg6
          have hL6 : L6 = fun z => left z && decide (z ≠ x) := by rw [hL6']; funext z; simp
          clear hL6'
          have hr5 : w4.heap.size + 3 < W5.heap.size := hrg5.lt.1
          have HB6 := Lib.hid (HBel5.out.grown hg6 (by omega) (fun j hj => by cases hj; omega))
          have HNc6 : Hid (Nt w6 v6 (C0 x)) := (hN6.below HB4.out).below HB6.out
          have HN4x := Lib.hid (hN6.below HB4.out)
          have HCm6 : Hid (CM w6 (w4.heap.size + 1) N (nxt C0 P0 P1 G0 G1 left)) := hcm5.out.grown_rng hrg5 hg6 (by omega)
          have u0 := hg6.cell u0 (by simp)
          have u1 := hg6.cell u1 (by simp)
          have u2 := hg6.cell u2 (by simp)
          have p1 := hg6.cell p1 (by simp; omega)
          obtain ⟨A6, n6, c6, rfl⟩ := hN6.shape
          have HNx : Hid (∀ s, nxt C0 P0 P1 G0 G1 left s ≤ 2 ^ 320) := fun s => Nat.le_trans (nxt_le C0 P0 P1 G0 G1 left s) (by rw [← HCs.out s]; exact HCl1.out s)
          have HLs := Lib.hid (fun s => by rw [hL6]; exact nxt_lose (f := C0) (p0 := P0) (p1 := P1) (c0 := G0) (c1 := G1) hlx s : ∀ s, nxt C0 P0 P1 G0 G1 L6 s = nxt C0 P0 P1 G0 G1 left s + (if s = x + P0 then C0 x * G0 else 0) + (if s = x + P1 then C0 x * G1 else 0))
          have hNL : N + 2 + 2 * cntW L6 2048 ≤ 8194 := by
            have := cntW_lose (R := 2048) hlx (by omega) (by omega)
            rw [hL6]
            omega
          have hrl := hrg5.left_eq
          have m0 : C0 x * G0 ≤ 2 ^ 320 * 32 := Nat.mul_le_mul (HCl.out x) hf2
          have m1 : C0 x * G1 ≤ 2 ^ 320 * 32 := Nat.mul_le_mul (HCl.out x) (by omega)
          have n0 : C0 x * G0 ≠ 0 := Nat.mul_ne_zero hx0 (by omega)
          have n1 : C0 x * G1 ≠ 0 := Nat.mul_ne_zero hx0 (by omega)
          have hbn : b < w4.heap.size := by omega
          have HP1 := Lib.hid (put_any (w4.heap.size + 1) (w4.heap.size + 1 + 1) N _ (x + P0) (C0 x) G0 _ w6 u2 HCm6.out HNc6.out (wf_of (by omega) (by omega)) (by omega) (lim_327 (by have := HCl.out x; omega)) (lim_327 (by omega)) (lim_327 (by have := HNx.out (x + P0); omega)) (lim_327 (by have := HNx.out (x + P0); omega)) n0 (by omega))
          have HP2 := Lib.hid (fun W hb hM hn => put_any (w4.heap.size + 1) (w4.heap.size + 1 + 1) (N + 1) (fun s => if s = x + P0 then nxt C0 P0 P1 G0 G1 left s + C0 x * G0 else nxt C0 P0 P1 G0 G1 left s) (x + P1) (C0 x) G1 (.slice A6 n6 c6) W hb hM hn (wf_of (by omega) (by omega)) (by omega) (lim_327 (by have := HCl.out x; omega)) (lim_327 (by omega)) (lim_327 (by have := HNx.out (x + P1); split <;> omega)) (lim_327 (by have := HNx.out (x + P1); split <;> omega)) n1 (by omega))
          have hwG : IntKind.i64.wrap (G0 : Int) = (G0 : Int) := by rw [IntKind.wrap_i64]; omega
          have HR6 := Lib.hid hrg6
          have Hlt6 := Lib.hid hlt6
          have Hrl := Lib.hid hrl
          have HNL := Lib.hid hNL
          clear hcm5 hrg5 hg6 hN hN6 hrl hL6 hlx hFx e6 hwx m0 m1 n0 n1 hNL hlt6 hrg6 c5 c51 hx0
          go_wp2_with fail
          refine HP1.out.mono ?_
          rintro e w7 ⟨⟨vr, rfl⟩, hm7, hg7⟩
          have HR7 := Lib.hid (HR6.out.kept hg7 (by simp; omega) (by simp))
          have HB7 := Lib.hid (HB6.out.grown hg7 (by have := HB6.out.size; omega) (fun j hj => by cases hj; omega))
          have HNc7 := Lib.hid (HN4x.out.below HB7.out)
          have HP3 := Lib.hid (HP2.out w7 (hg7.cell u2 (by simp)) hm7 HNc7.out)
          have u0 := hg7.cell u0 (by simp)
          have u1 := hg7.cell u1 (by simp)
          have u2 := hg7.cell u2 (by simp)
          have p1 := hg7.cell p1 (by simp; omega)
          clear hm7 hg7 hen
          go_wp2_with fail
          refine HP3.out.mono ?_
          rintro e w8 ⟨⟨vr2, rfl⟩, hm8, hg8⟩
          have HR8 := Lib.hid (HR7.out.kept hg8 (by simp; omega) (by simp))
          have HB8 := Lib.hid (HB7.out.grown hg8 (by have := HB7.out.size; omega) (fun j hj => by cases hj; omega))
          have HCm8 : Hid (CM w8 (w4.heap.size + 1) (N + 2) (nxt C0 P0 P1 G0 G1 L6)) := hm8.congr (fun s => by
            rw [HLs.out s]
            by_cases e0 : s = x + P0
            · by_cases e1 : s = x + P1
              · rw [if_pos e1, if_pos e0, if_pos e0, if_pos e1]
              · rw [if_neg e1, if_pos e0, if_pos e0, if_neg e1, Nat.add_zero]
            · by_cases e1 : s = x + P1
              · rw [if_pos e1, if_neg e0, if_neg e0, if_pos e1, Nat.add_zero]
              · rw [if_neg e1, if_neg e0, if_neg e0, if_neg e1, Nat.add_zero])
          have u0 := hg8.cell u0 (by simp)
          have u1 := hg8.cell u1 (by simp)
          have u2 := hg8.cell u2 (by simp)
          clear hm8 hg8
          go_wp2_with fail
          go_roundw
          case rel => exact ⟨L6, cnt6, N + 2, HR8.out, HCm8.out, HNL.out, u0, u1, u2, HB8.out⟩
          case measure => rw [HR8.out.left_eq, Hrl.out]; exact Hlt6.out
    · obtain rfl : k = n := by omega
      have HR0 := Lib.hid (HR3.out.of_block (HB.out.block _ HR3.out.lt))
      have e0 : W0.cell? ⟨w3.heap.size, 0, none⟩ = some (.map (some b)) := HRow.out.cell (i := 0) (by omega)
      have e1 : W0.cell? ⟨w3.heap.size, 1, none⟩ = some (.slice Aa na ca) := HRow.out.cell (i := 1) (by omega)
      have r0 := HR0.out.cell (i := 0) (by omega)
      have r1 : W0.cell? ⟨w.heap.size + 1, 1, none⟩ = some (.slice none 0 0) := HR0.out.cell (i := 1) (by omega)
      have z0 := HR0.out.frozen 0
      have z1 := HR0.out.frozen 1
      go_wp2_with fail
      refine bodyPost_ret (v := .agg #[.map (some b), .slice Aa na ca]) ?_ rfl ⟨_, _, rfl, ?_, ?_, ?_⟩
      · simp [results, Tryz.f130, go_sem, r0, r1]
      · exact cm_over hcm.out r0 r1 _ _
      · exact nt_over_ms hav.out r0 r1 _ _
      · exact ((HB3.out.trans (HB.out.mono (Nat.le_of_lt HSp3.out))).setCell (p := ⟨w.heap.size + 1, 0, none⟩) (Nat.le_succ _) _).setCell (p := ⟨w.heap.size + 1, 1, none⟩) (Nat.le_succ _) _
end Go.Proofs.YtmbokpfgnicboaaGreat

/- The walks of package code: the sum from a score on; the bound. -/
namespace Go.Proofs.YtmbokpfgnicboaaGreat
open Go.RowKit Go.Hd Go.Sort _root_.Hd
set_option exponentiation.threshold 2000

theorem wsum_one {f : Int → Nat} {R : Nat} {s : Int} (h1 : -(R : Int) ≤ s) (h2 : s ≤ R) : f s ≤ wsum f R := by
  have := wsum_turn (f := f) (g := fun x => if x = s then 0 else f x) (R := R) (x := s) (c := f s) h1 h2 (fun x hx => by rw [if_neg hx]) (by rw [if_pos rfl, Nat.zero_add])
  omega
/-- A spread, read: the counts c, all of them t. -/
structure SprIs (w : World) (b N : Nat) (c : Int → Nat) (av : Value) (t : Nat) : Prop where
  map : CM w b N c
  all : Nt w av t
  sum : wsum c 2048 = t
  out : ∀ s, c s ≠ 0 → -2048 ≤ s ∧ s ≤ 2048
theorem SprIs.below {w w' : World} {b N t : Nat} {c : Int → Nat} {av : Value} (h : SprIs w b N c av t) (hb : Below w.heap.size w w') : SprIs w' b N c av t := ⟨h.map.below hb, h.all.below hb, h.sum, h.out⟩

set_option maxRecDepth 100000 in
set_option maxHeartbeats 2000000 in
theorem reach_any (b N t : Nat) (c : Int → Nat) (av : Value) (z : Int) (w : World) (h : SprIs w b N c av t) (ht : t ≤ 2 ^ 320) :
    Calls Tryz.prog 87 #[.agg #[.map (some b), av], .int .i64 z] w (NtPost (tl c 2048 z) w) := by
  obtain ⟨F, hF, hFc⟩ := h.map
  have HF := Lib.hid hF
  have HFc := Lib.hid hFc
  have HSum := Lib.hid h.sum
  have HOut := Lib.hid h.out
  obtain ⟨Aa, na, ca, rfl⟩ := h.all.shape
  have hbw : b < w.heap.size := hF.lt
  clear hF hFc h
  go_enter Tryz.func87, Tryz.ntmps87
  go_wp2_with (first
    | (at_range; refine wpList_range_mi rfl _ 124 rfl 3 25 Tryz.underlying3 Tryz.underlying124 (.slice none 0 0) (zeroNat _) b _ _ rfl (HF.out.below ((Below.refl _ _).alloc (Nat.le_refl _) _)) ?_; intro w1 cnt hrg hg1 hs1)
    | go_in)
  go_frame
  have hsz1 : (w.alloc (.cells #[.map (some b), .slice Aa na ca] 126)).heap.size = w.heap.size + 1 := by simp
  rw [hsz1] at hrg hs1 ⊢
  have HB1 := Lib.hid (((Below.refl w.heap.size w).alloc (Nat.le_refl _) (.cells #[.map (some b), .slice Aa na ca] 126)).grown hg1 (by simp) (fun j hj => by cases hj))
  clear hg1 hs1 hsz1
  go_loopw [5, 6] (fun s5 _ wr => ∃ (left : Int → Bool) (cnt' : Nat), MapRng wr Tryz.prog 3 b (w.heap.size + 1) N F left cnt' ∧ Hid (Nt wr s5 (tl (gone c left) 2048 z)) ∧ Below w.heap.size w wr) (fun _ _ wr => wr.rangeLeft b (w.heap.size + 1))
  case atStart =>
    refine ⟨_, cnt, hrg, ?_, HB1.out⟩
    have e : tl (gone c (fun x => (F x).isSome)) 2048 z = 0 := tl_none fun s _ => gone_start (fun x hx => by
      obtain ⟨v, e, _⟩ := (HFc.out x).2 hx
      show (F x).isSome = true
      rw [e]; rfl) s
    show Nt _ _ _
    rw [e]
    exact Nt.nil _
  case round =>
    obtain ⟨left, cnt5, hrg5, hnt, hbel5⟩ := hrel
    obtain ⟨W5, rfl⟩ : ∃ W5 : World, W5 = wr := ⟨_, rfl⟩
    have HBel5 := Lib.hid hbel5
    obtain ⟨A5, n5, c5, rfl⟩ := hnt.out.shape
    clear hbel5
    go_wp2_with (first
      | (at_next; refine wpList_next_mi rfl _ rfl 3 Tryz.underlying3 b (w.heap.size + 1) _ _ _ _ rfl hrg5 ?_ ?_)
      | go_in)
    · intro hdone
      have HD : Hid (tl (gone c left) 2048 z = tl c 2048 z) := tl_congr (fun s => gone_end (fun x hx => by
        have := HOut.out x hx
        exact hdone x (wf_of (by omega) (by omega))) s)
      clear hdone
      go_wp2
      go_ret
      exact ⟨_, rfl, nt_b hnt.out HD.out, HBel5.out⟩
    · intro x c6 w6 cnt6 hwx hlx hFx hrg6 hlt6 hg6 hs6 hen
      have hx0 : c x ≠ 0 := fun h => by have := (HFc.out x).1 h; rw [this] at hFx; cases hFx
      obtain ⟨v6, e6, hN6⟩ := (HFc.out x).2 hx0
      obtain rfl : v6 = c6 := by rw [e6] at hFx; cases hFx; rfl
      obtain ⟨hxa, hxb⟩ := HOut.out x hx0
      obtain ⟨L6, hL6'⟩ : ∃ L : Int → Bool, L = fun z => left z && !decide (z = x) := ⟨_, rfl⟩
      rw [← hL6'] at hrg6
      have hL6 : L6 = fun z => left z && decide (z ≠ x) := by rw [hL6']; funext z; simp
      clear hL6'
      have hr5 : w.heap.size + 1 < W5.heap.size := hrg5.lt.1
      have HB6 := Lib.hid (HBel5.out.grown hg6 (by omega) (fun j hj => by cases hj; omega))
      have HNc6 : Hid (Nt w6 v6 (c x)) := hN6.below HB6.out
      have HNs6 : Hid (Nt w6 (.slice A5 n5 c5) (tl (gone c left) 2048 z)) := nt_grown_rng hnt.out hrg5 hg6
      have hle : tl (gone c left) 2048 z ≤ t := by
        rw [← HSum.out]
        exact wsum_le fun s _ _ => by
          split
          · exact gone_le _ _ _
          · exact Nat.zero_le _
      have hcx : c x ≤ t := by rw [← HSum.out]; exact wsum_one (by omega) (by omega)
      have HTl : Hid (tl (gone c L6) 2048 z = tl (gone c left) 2048 z + (if z ≤ x then c x else 0)) := by
        show _ = _
        rw [hL6]
        exact tl_lose hlx (by omega) (by omega)
      obtain ⟨A6, n6, c6, rfl⟩ := hN6.shape
      have HAdd := Lib.hid (add_nt (tl (gone c left) 2048 z) (c x) _ _ w6 HNs6.out HNc6.out (lim_327 (by omega)) (lim_327 (by omega)) (lim_327 (by omega)))
      have hrl := hrg5.left_eq
      have HR6 := Lib.hid hrg6
      have Hlt6 := Lib.hid hlt6
      have Hrl := Lib.hid hrl
      clear hrg5 hg6 hN6 hrl hL6 hlx hFx e6 hwx hle hcx hlt6 hrg6 hx0
      by_cases hz : z ≤ x
      · rw [if_pos hz] at HTl
        go_wp2_with fail
        refine HAdd.out.mono ?_
        rintro e w7 ⟨v7, rfl, hN7, hB7⟩
        have HN7 := Lib.hid hN7
        obtain ⟨A7, n7, c7, rfl⟩ := hN7.shape
        have HB7 := Lib.hid (below_then HB6.out hB7)
        have HR7 := Lib.hid (HR6.out.below hB7)
        clear hN7 hB7 hen
        go_wp2_with fail
        refine (must_any _ _ _).mono ?_
        rintro e w8 ⟨rfl, rfl⟩
        go_wp2_with fail
        go_roundw
        case rel => exact ⟨L6, cnt6, HR7.out, nt_b HN7.out HTl.out.symm, HB7.out⟩
        case measure => rw [HR7.out.left_eq, Hrl.out]; exact Hlt6.out
      · rw [if_neg hz, Nat.add_zero] at HTl
        go_wp2_with fail
        go_roundw
        case rel => exact ⟨L6, cnt6, HR6.out, nt_b HNs6.out HTl.out.symm, HB6.out⟩
        case measure => rw [HR6.out.left_eq, Hrl.out]; exact Hlt6.out
end Go.Proofs.YtmbokpfgnicboaaGreat
